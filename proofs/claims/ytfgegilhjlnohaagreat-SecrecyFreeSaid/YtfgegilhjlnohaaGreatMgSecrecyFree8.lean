/- The proof's texts, part 8 of 13: the walks by a logic in which data are by value, the plain laws, and at the end the law, for every input. -/
import Derived.Test.YtfgegilhjlnohaaGreatMgSecrecyFree7

noncomputable section
set_option linter.unusedVariables false
set_option linter.unusedSimpArgs false
set_option maxRecDepth 100000
set_option maxHeartbeats 4000000
namespace Go.Proofs.YtfgegilhjlnohaaGreat
open Go.RowKit
structure Qab where
 Kind:Int
 Name:(List UInt8)
 Text:(List UInt8)
 N:Int
 L:(List Qab)
 Then:(List Qab)
 Else:(List Qab)
mutual
def Qaa:Qab→List V
 | ⟨x0,x1,x2,x3,x4,x5,x6⟩=>[iV x0,sV x1,sV x2,iV x3,.sl false (Qka x4),.sl false (Qka x5),.sl false (Qka x6)]
def Qka:List Qab→List (List V)
 | []=>[]
 | x::r=>Qaa x::Qka r
end
theorem Qr9:∀ l:List Qab,Qka l=l.map Qaa
 | []=>rfl
 | x::r=>by rw[Qka,Qr9 r]; rfl
def Qa2 (x:Qab):List V:=[iV x.Kind,sV x.Name,sV x.Text,iV x.N,.sl false (x.L.map Qaa),.sl false (x.Then.map Qaa),.sl false (x.Else.map Qaa)]
theorem Qan(x:Qab):Qaa x=Qa2 x:=by cases x; simp[Qaa,Qa2,Qr9]
structure Qae where
 Name:(List UInt8)
 L:(List Qab)
def Qaf (x:Qae):List V:=[sV x.Name,.sl false (x.L.map Qaa)]
structure Qdr where
 name_:Bool
 text_:Bool
 num_:Bool
 then_:Bool
 other_:Bool
 l_:Int
def Qir (y:Bool):D :=.p (bV y)
def Q6x:List (Nat×List Nat):=[(0,[0,1,2]),(1,[6]),(3000001,[])]
def Q1i  (o1:Bool):St:=⟨[(6,.p (bV o1))],⟨[],[]⟩⟩
def Qkb (y:(List UInt8)):D :=.p (sV y)
def Qaa1:List (Nat×List Nat):=[(0,[0]),(1,[0,5]),(2,[0]),(3,[0,7]),(4,[2]),(5,[0,13]),(6,[2]),(7,[0,25]),(8,[2]),(9,[2]),(2001005,[])]
def Q29  (o1:Int):St:=⟨[(0,.p (iV o1))],⟨[],[]⟩⟩
def Q0f (y:Bool):D :=.p (bV y)
def Qaa2:List (Nat×List Nat):=[(0,[0]),(1,[0,3]),(2,[0,3,9]),(3,[0,3,4,5]),(4,[0,3,5,21]),(5,[2]),(6,[0,3]),(7,[2]),(1000002,[0,3]),(3000004,[])]
def Qadl (p0:(List UInt8)) (v3:Int) (x4:Int×Int) (o5:Bool):St:=⟨[(0,.p (sV p0)),(3,.p (iV v3)),(5,.p (iV x4.2)),(21,.p (bV o5))],⟨[],[]⟩⟩
def Qsa (p0:(List UInt8)) (v3:Int):St:=⟨[(0,.p (sV p0)),(3,.p (iV v3))],⟨[],[]⟩⟩
def Qyq (p0:(List UInt8)) (y2:Unit):St:=⟨[],⟨[],[]⟩⟩
def Qyr (p0:(List UInt8)) (y3:Unit):St:=⟨[(2,.p (bV false))],⟨[],[]⟩⟩
def Qadm:Code:=((Qaz (Tryz.f179.body.getD .skip)).getD 0 .skip)
def Qmo (y:Int×Int):D :=.tup [.p (iV y.1),.p (iV y.2)]
def Qvo:List (Nat×List Nat):=[(0,[0,1]),(1,[0,1,17]),(2,[4,5]),(3,[0,1,6]),(4,[0,1,6,7]),(5,[0,1,6,7,28]),(6,[0,1,6,7]),(7,[0,1,6,7,8]),(8,[0,1,6,7,8,9]),(9,[0,1,6,7,8,9,42]),(10,[0,1,6,7,8,9]),(11,[0,1,6,7,8,9]),(12,[0,1,6,7,8,71]),(13,[4,5]),(14,[4,5]),(1000005,[0,1,6,7]),(1000009,[0,1,6,7,8,9]),(3000001,[]),(3000005,[]),(3000012,[])]
def Q6y (p0:(List UInt8)) (p1:Int) (o1:Bool):St:=⟨[(0,.p (sV p0)),(1,.p (iV p1)),(17,.p (bV o1))],⟨[],[]⟩⟩
def Q6z (p0:(List UInt8)) (p1:Int) (v6:(List Int)) (v7:Int) (o5:Bool):St:=⟨[(0,.p (sV p0)),(1,.p (iV p1)),(6,.p (.sl true (v6.map cInt))),(7,.p (iV v7)),(28,.p (bV o5))],⟨[],[]⟩⟩
def Qom (p0:(List UInt8)) (p1:Int) (v6:(List Int)) (v7:Int) (v8:Int) (v9:Int):St:=⟨[(0,.p (sV p0)),(1,.p (iV p1)),(6,.p (.sl true (v6.map cInt))),(7,.p (iV v7)),(8,.p (iV v8)),(9,.p (iV v9))],⟨[],[]⟩⟩
def Qux (p0:(List UInt8)) (p1:Int) (v6:(List Int)) (v7:Int) (o8:Int):St:=⟨[(0,.p (sV p0)),(1,.p (iV p1)),(6,.p (.sl true (v6.map cInt))),(7,.p (iV v7)),(8,.p (iV o8))],⟨[],[]⟩⟩
def Q60:Code:=((Qaz (Tryz.f171.body.getD .skip)).getD 1 .skip)
def Q61 (p0:(List UInt8)) (p1:Int) (v6:(List Int)) (v7:Int) (o8:Int) (o10:Bool):St:=⟨[(0,.p (sV p0)),(1,.p (iV p1)),(6,.p (.sl true (v6.map cInt))),(7,.p (iV v7)),(8,.p (iV o8)),(71,.p (bV o10))],⟨[],[]⟩⟩
def Qon (p0:(List UInt8)) (p1:Int) (v6:(List Int)) (v7:Int):St:=⟨[(0,.p (sV p0)),(1,.p (iV p1)),(6,.p (.sl true (v6.map cInt))),(7,.p (iV v7))],⟨[],[]⟩⟩
def Quy (p0:(List UInt8)) (p1:Int) (y3:Unit):St:=⟨[],⟨[],[]⟩⟩
def Quz (p0:(List UInt8)) (p1:Int) (y4:Int×Int):St:=⟨[(4,.p (iV y4.1)),(5,.p (iV y4.2))],⟨[],[]⟩⟩
def Q62:Code:=((Qaz (Tryz.f171.body.getD .skip)).getD 0 .skip)
def Qt3 (y:Bool):D :=.p (bV y)
def Qadn:List (Nat×List Nat):=[(0,[0]),(1,[2]),(3000001,[])]
def Q63  (o1:Bool):St:=⟨[(2,.p (bV o1))],⟨[],[]⟩⟩
def Qm1 (y:(List UInt8)×Bool):D :=.tup [.p (sV y.1),.p (bV y.2)]
def Qys:List (Nat×List Nat):=[(0,[0]),(1,[0,9]),(2,[2,3]),(3,[0,4]),(4,[0,4,5]),(5,[0,4,5,13]),(6,[0,4,5]),(7,[0,4,5,6]),(8,[0,4,5,6,22]),(9,[2,3]),(10,[0,4,5,6,24]),(11,[0,4,5,6]),(12,[0,4,5,6,26]),(13,[0,4,5,6]),(14,[0,4,5,6,32]),(15,[0,4,5,6]),(16,[0,4,5]),(17,[2,3]),(1000005,[0,4,5]),(2010013,[]),(3000014,[])]
def Q3a (p0:(List UInt8)) (v4:(List UInt8)) (v5:Int) (o6:(List UInt8)):St:=⟨[(0,.p (sV p0)),(4,.p (sV v4)),(5,.p (iV v5)),(6,.p (sV o6))],⟨[],[]⟩⟩
def Q3b (p0:(List UInt8)) (v4:(List UInt8)) (v5:Int) (x5:(List UInt8)) (o7:Bool):St:=⟨[(0,.p (sV p0)),(4,.p (sV v4)),(5,.p (iV v5)),(6,.p (sV x5)),(32,.p (bV o7))],⟨[],[]⟩⟩
def Qm2 (p0:(List UInt8)) (v4:(List UInt8)) (v5:Int):St:=⟨[(0,.p (sV p0)),(4,.p (sV v4)),(5,.p (iV v5))],⟨[],[]⟩⟩
def Qsb (p0:(List UInt8)) (y3:(List UInt8)):St:=⟨[(4,.p (sV y3))],⟨[],[]⟩⟩
def Qsc (p0:(List UInt8)) (y4:Unit):St:=⟨[(2,.p (sV [])),(3,.p (bV false))],⟨[],[]⟩⟩
def Q3c:Code:=((Qaz (Tryz.f170.body.getD .skip)).getD 0 .skip)
def Qhf (y:Bool):D :=.p (bV y)
def Q1j:List (Nat×List Nat):=[(0,[0]),(1,[0,17]),(2,[2]),(3,[0,3]),(4,[0,3,21]),(5,[0,3]),(6,[0,3,41]),(7,[2]),(8,[2]),(1000004,[0,3]),(3000001,[]),(3000006,[])]
def Q64 (p0:(List UInt8)) (o1:Bool):St:=⟨[(0,.p (sV p0)),(17,.p (bV o1))],⟨[],[]⟩⟩
def Q65 (p0:(List UInt8)) (v3:Int) (o7:Bool):St:=⟨[(0,.p (sV p0)),(3,.p (iV v3)),(41,.p (bV o7))],⟨[],[]⟩⟩
def Qoo (p0:(List UInt8)) (v3:Int):St:=⟨[(0,.p (sV p0)),(3,.p (iV v3))],⟨[],[]⟩⟩
def Qu0 (p0:(List UInt8)) (y5:Unit):St:=⟨[],⟨[],[]⟩⟩
def Qu1 (p0:(List UInt8)) (y6:Unit):St:=⟨[(2,.p (bV false))],⟨[],[]⟩⟩
def Q66:Code:=((Qaz (Tryz.f77.body.getD .skip)).getD 0 .skip)
def Qkc (y:Bool):D :=.p (bV y)
def Qaa3:List (Nat×List Nat):=[(0,[0]),(1,[2]),(3000001,[])]
def Q3d  (o1:Bool):St:=⟨[(2,.p (bV o1))],⟨[],[]⟩⟩
def Qkd (y:Bool):D :=.p (bV y)
def Qaa4:List (Nat×List Nat):=[(0,[0]),(1,[2]),(3000001,[])]
def Q3e  (o1:Bool):St:=⟨[(2,.p (bV o1))],⟨[],[]⟩⟩
def Qgl (y:Int):D :=.p (iV y)
def Qyt:List (Nat×List Nat):=[(0,[0]),(1,[0,3]),(2,[0,3,4]),(3,[0,3,4,8]),(4,[0,3,4]),(5,[0,3,4]),(6,[2]),(1000003,[0,3,4])]
def Qm3 (p0:(List Qab)) (v3:Int) (v4:Int):St:=⟨[(0,.p (.sl false (p0.map Qaa))),(3,.p (iV v3)),(4,.p (iV v4))],⟨[],[]⟩⟩
def Qsd (p0:(List Qab)) (o1:Int):St:=⟨[(3,.p (iV o1))],⟨[],[]⟩⟩
def Q3f:Code:=((Qaz (Tryz.f80.body.getD .skip)).getD 0 .skip)
def Qis (y:Int):D :=.p (iV y)
def Q1k:List (Nat×List Nat):=[(0,[0]),(1,[0,3]),(2,[0,3,4]),(3,[0,3,4,8]),(4,[0,3,4]),(5,[0,3,4]),(6,[2]),(1000003,[0,3,4])]
def Qop (p0:(List Qab)) (v3:Int) (v4:Int):St:=⟨[(0,.p (.sl false (p0.map Qaa))),(3,.p (iV v3)),(4,.p (iV v4))],⟨[],[]⟩⟩
def Qu2 (p0:(List Qab)) (o1:Int):St:=⟨[(3,.p (iV o1))],⟨[],[]⟩⟩
def Q67:Code:=((Qaz (Tryz.f79.body.getD .skip)).getD 0 .skip)
def Q68 (y:Bool):D :=.p (bV y)
def Qaja:List (Nat×List Nat):=[(0,[0]),(1,[2]),(3000001,[])]
def Qado  (o1:Bool):St:=⟨[(2,.p (bV o1))],⟨[],[]⟩⟩
def Qhg (y:Bool):D :=.p (bV y)
def Q1l:List (Nat×List Nat):=[(0,[0]),(1,[0,3]),(2,[0,3,4]),(3,[0,3,4,9]),(4,[0,3,4]),(5,[0,3,4,17]),(6,[2]),(7,[2]),(1000003,[0,3,4])]
def Qoq (p0:(List UInt8)) (x1:(List (List UInt8))) (v4:Int):St:=⟨[(0,.p (sV p0)),(3,.p (.sl false (x1.map cStr))),(4,.p (iV v4))],⟨[],[]⟩⟩
def Qu3 (p0:(List UInt8)) (x1:(List (List UInt8))) (y3:Unit):St:=⟨[(0,.p (sV p0))],⟨[],[]⟩⟩
def Qu4 (p0:(List UInt8)) (x1:(List (List UInt8))) (y4:Unit):St:=⟨[(2,.p (bV false))],⟨[],[]⟩⟩
def Q69:Code:=((Qaz (Tryz.f43.body.getD .skip)).getD 0 .skip)
def Qvp (y:(List (List UInt8))):D :=.p (.sl false (y.map cStr))
def Qaa5:List (Nat×List Nat):=[(0,[]),(1,[0])]
def Qc5 (y:Bool):D :=.p (bV y)
def Qadp:List (Nat×List Nat):=[(0,[1,2,3,4,5,6]),(1,[12]),(3000001,[])]
def Q7a (p0:Qab) (o1:Bool):St:=⟨[(12,.p (bV o1))],⟨[[.p (iV p0.Kind),.p (sV p0.Name),.p (sV p0.Text),.p (iV p0.N),.p (.sl false (p0.L.map Qaa)),.p (.sl false (p0.Then.map Qaa)),.p (.sl false (p0.Else.map Qaa))]],[]⟩⟩
def Qgm (y:Bool):D :=.p (bV y)
def Qyu:List (Nat×List Nat):=[(0,[0,1]),(1,[0,1,5]),(2,[0,1,5,11]),(3,[0,1,5]),(4,[0,1,5,19]),(5,[4]),(6,[0,1,5,25]),(7,[0,1,5,6]),(8,[0,1,5,6,7]),(9,[0,1,5,61]),(10,[4]),(11,[4]),(1000002,[0,1,5]),(3000009,[])]
def Q3g (p0:(List Qab)) (p1:Bool) (v5:Int) (o8:Bool):St:=⟨[(0,.p (.sl false (p0.map Qaa))),(1,.p (bV p1)),(5,.p (iV v5)),(61,.p (bV o8))],⟨[],[]⟩⟩
def Qi3 (p0:(List Qab)) (p1:Bool) (v5:Int):St:=⟨[(0,.p (.sl false (p0.map Qaa))),(1,.p (bV p1)),(5,.p (iV v5))],⟨[],[]⟩⟩
def Qse (p0:(List Qab)) (p1:Bool) (y2:Unit):St:=⟨[],⟨[],[]⟩⟩
def Qsf (p0:(List Qab)) (p1:Bool) (y3:Unit):St:=⟨[(4,.p (bV false))],⟨[],[]⟩⟩
def Q3h:Code:=((Qaz (Tryz.f78.body.getD .skip)).getD 0 .skip)
def Qf7 (y:Bool):D :=.p (bV y)
def Qadq:List (Nat×List Nat):=[(0,[1]),(1,[1,6]),(2,[1,6,7]),(3,[1,4]),(4,[2]),(5,[1,6,20]),(6,[2]),(7,[1,6,24]),(8,[2]),(9,[1,6,38]),(10,[2]),(11,[1,6,47]),(12,[2]),(13,[1,6,67]),(14,[2]),(15,[1,87]),(16,[2]),(17,[2]),(3000004,[]),(3000008,[]),(3000010,[]),(3000012,[]),(3000014,[]),(3000016,[])]
def Q7b (p0:Qab) (o2:Bool):St:=⟨[(2,.p (bV o2))],⟨[[.p (iV p0.Kind),.p (sV p0.Name),.p (sV p0.Text),.p (iV p0.N),.p (.sl false (p0.L.map Qaa)),.p (.sl false (p0.Then.map Qaa)),.p (.sl false (p0.Else.map Qaa))]],[]⟩⟩
def Q7c (p0:Qab) (o5:Bool):St:=⟨[(2,.p (bV o5))],⟨[[.p (iV p0.Kind),.p (sV p0.Name),.p (sV p0.Text),.p (iV p0.N),.p (.sl false (p0.L.map Qaa)),.p (.sl false (p0.Then.map Qaa)),.p (.sl false (p0.Else.map Qaa))]],[]⟩⟩
def Q7d (p0:Qab) (o8:Bool):St:=⟨[(2,.p (bV o8))],⟨[[.p (iV p0.Kind),.p (sV p0.Name),.p (sV p0.Text),.p (iV p0.N),.p (.sl false (p0.L.map Qaa)),.p (.sl false (p0.Then.map Qaa)),.p (.sl false (p0.Else.map Qaa))]],[]⟩⟩
def Q7e (p0:Qab) (o11:Bool):St:=⟨[(2,.p (bV o11))],⟨[[.p (iV p0.Kind),.p (sV p0.Name),.p (sV p0.Text),.p (iV p0.N),.p (.sl false (p0.L.map Qaa)),.p (.sl false (p0.Then.map Qaa)),.p (.sl false (p0.Else.map Qaa))]],[]⟩⟩
def Q7f (p0:Qab) (o15:Bool):St:=⟨[(2,.p (bV o15))],⟨[[.p (iV p0.Kind),.p (sV p0.Name),.p (sV p0.Text),.p (iV p0.N),.p (.sl false (p0.L.map Qaa)),.p (.sl false (p0.Then.map Qaa)),.p (.sl false (p0.Else.map Qaa))]],[]⟩⟩
def Q7g (p0:Qab) (o19:Bool):St:=⟨[(2,.p (bV o19))],⟨[[.p (iV p0.Kind),.p (sV p0.Name),.p (sV p0.Text),.p (iV p0.N),.p (.sl false (p0.L.map Qaa)),.p (.sl false (p0.Then.map Qaa)),.p (.sl false (p0.Else.map Qaa))]],[]⟩⟩
def Qh9 (y:Bool):D :=.p (bV y)
def Qyv:List (Nat×List Nat):=[(0,[0]),(1,[0,3]),(2,[0,3,7]),(3,[0,3]),(4,[0,3,15]),(5,[2]),(6,[2]),(1000002,[0,3])]
def Qm4 (p0:(List Qab)) (v3:Int):St:=⟨[(0,.p (.sl false (p0.map Qaa))),(3,.p (iV v3))],⟨[],[]⟩⟩
def Qsg (p0:(List Qab)) (y2:Unit):St:=⟨[],⟨[],[]⟩⟩
def Qsh (p0:(List Qab)) (y3:Unit):St:=⟨[(2,.p (bV false))],⟨[],[]⟩⟩
def Q3i:Code:=((Qaz (Tryz.f130.body.getD .skip)).getD 0 .skip)
def Qn1 (y:Bool):D :=.p (bV y)
def Qwr:List (Nat×List Nat):=[(0,[0,1]),(1,[0,1,5]),(2,[0,1,5,9]),(3,[0,1,5]),(4,[0,1,5,15]),(5,[4]),(6,[4]),(1000002,[0,1,5])]
def Qlw (p0:(List UInt8)) (p1:(List UInt8)) (v5:Int):St:=⟨[(0,.p (sV p0)),(1,.p (sV p1)),(5,.p (iV v5))],⟨[],[]⟩⟩
def Qq2 (p0:(List UInt8)) (p1:(List UInt8)) (y2:Unit):St:=⟨[],⟨[],[]⟩⟩
def Qq3 (p0:(List UInt8)) (p1:(List UInt8)) (y3:Unit):St:=⟨[(4,.p (bV true))],⟨[],[]⟩⟩
def Q1m:Code:=((Qaz (Tryz.f131.body.getD .skip)).getD 0 .skip)
def Qit (y:Bool):D :=.p (bV y)
def Qadr:List (Nat×List Nat):=[(0,[1]),(1,[1,3]),(2,[1,3,14]),(3,[1,3,14,15]),(4,[2]),(5,[1,3,14,30]),(6,[2]),(7,[1,3,14,37]),(8,[2]),(9,[1,3,14,54]),(10,[1,3,14,54]),(11,[2]),(12,[1,3,72]),(13,[2]),(14,[2]),(2009005,[]),(3000001,[]),(3000004,[]),(3000006,[]),(3000008,[]),(3000011,[]),(3000013,[])]
def Q7h (p0:Qab) (o1:Bool):St:=⟨[(1,.ptr 0 0),(3,.p (bV o1))],⟨[[.p (iV p0.Kind),.p (sV p0.Name),.p (sV p0.Text),.p (iV p0.N),.p (.sl false (p0.L.map Qaa)),.p (.sl false (p0.Then.map Qaa)),.p (.sl false (p0.Else.map Qaa))]],[]⟩⟩
def Q7i (p0:Qab) (o3:Bool):St:=⟨[(2,.p (bV o3))],⟨[[.p (iV p0.Kind),.p (sV p0.Name),.p (sV p0.Text),.p (iV p0.N),.p (.sl false (p0.L.map Qaa)),.p (.sl false (p0.Then.map Qaa)),.p (.sl false (p0.Else.map Qaa))]],[]⟩⟩
def Q7j (p0:Qab) (o6:Bool):St:=⟨[(2,.p (bV o6))],⟨[[.p (iV p0.Kind),.p (sV p0.Name),.p (sV p0.Text),.p (iV p0.N),.p (.sl false (p0.L.map Qaa)),.p (.sl false (p0.Then.map Qaa)),.p (.sl false (p0.Else.map Qaa))]],[]⟩⟩
def Q7k (p0:Qab) (o8:Bool):St:=⟨[(2,.p (bV o8))],⟨[[.p (iV p0.Kind),.p (sV p0.Name),.p (sV p0.Text),.p (iV p0.N),.p (.sl false (p0.L.map Qaa)),.p (.sl false (p0.Then.map Qaa)),.p (.sl false (p0.Else.map Qaa))]],[]⟩⟩
def Q7l (p0:Qab) (o1:Bool) (o12:Bool):St:=⟨[(1,.ptr 0 0),(3,.p (bV o1)),(14,.p (iV p0.Kind)),(54,.p (bV o12))],⟨[[.p (iV p0.Kind),.p (sV p0.Name),.p (sV p0.Text),.p (iV p0.N),.p (.sl false (p0.L.map Qaa)),.p (.sl false (p0.Then.map Qaa)),.p (.sl false (p0.Else.map Qaa))]],[]⟩⟩
def Q7m (p0:Qab) (o13:Bool):St:=⟨[(2,.p (bV o13))],⟨[[.p (iV p0.Kind),.p (sV p0.Name),.p (sV p0.Text),.p (iV p0.N),.p (.sl false (p0.L.map Qaa)),.p (.sl false (p0.Then.map Qaa)),.p (.sl false (p0.Else.map Qaa))]],[]⟩⟩
def Q7n (p0:Qab) (o17:Bool):St:=⟨[(2,.p (bV o17))],⟨[[.p (iV p0.Kind),.p (sV p0.Name),.p (sV p0.Text),.p (iV p0.N),.p (.sl false (p0.L.map Qaa)),.p (.sl false (p0.Then.map Qaa)),.p (.sl false (p0.Else.map Qaa))]],[]⟩⟩
def Qgn (y:(List UInt8)×Int):D :=.tup [.p (sV y.1),.p (iV y.2)]
def Qle:List (Nat×List Nat):=[(0,[0]),(1,[0,15]),(2,[2,3]),(3,[0,4]),(4,[0,4,19]),(5,[0,4]),(6,[0,4,37]),(7,[2,3]),(8,[0,4,6]),(9,[0,4,55]),(10,[2,3]),(11,[0,7]),(12,[0,7,64]),(13,[0,7]),(14,[0,7,8]),(15,[0,7,8,9]),(16,[0,7,8,9,76]),(17,[0,7,8,9]),(18,[0,7,8,9,11]),(19,[0,7,8,9,89]),(20,[2,3]),(21,[0,12]),(22,[0,12,98]),(23,[0,12]),(24,[0,12,113]),(25,[2,3]),(26,[2,3]),(1000004,[0,4]),(1000012,[0,7]),(1000016,[0,7,8,9]),(1000022,[0,12]),(3000006,[]),(5000024,[1006])]
def Q3j (p0:(List Qae)) (v4:Int) (o4:Bool):St:=⟨[(0,.p (.sl false (p0.map Qaf))),(4,.p (iV v4)),(37,.p (bV o4))],⟨[],[]⟩⟩
def Qm5 (p0:(List Qae)) (v4:Int):St:=⟨[(0,.p (.sl false (p0.map Qaf))),(4,.p (iV v4))],⟨[],[]⟩⟩
def Qsi (p0:(List Qae)) (y2:Unit):St:=⟨[(0,.p (.sl false (p0.map Qaf)))],⟨[],[]⟩⟩
def Qsj (p0:(List Qae)) (y3:(List UInt8)×Int):St:=⟨[(2,.p (sV y3.1)),(3,.p (iV y3.2))],⟨[],[]⟩⟩
def Q3k:Code:=((Qaz (Tryz.f14.body.getD .skip)).getD 0 .skip)
def Qm6 (p0:(List Qae)) (v7:Int) (x18:(List (List UInt8))) (v9:Int):St:=⟨[(0,.p (.sl false (p0.map Qaf))),(7,.p (iV v7)),(8,.own 0 9 1 (x18.map cStr)),(9,.p (iV v9))],⟨[],[(x18.map cStr).length]⟩⟩
def Qsk (p0:(List Qae)) (v7:Int) (x18:(List (List UInt8))) (y20:Unit):St:=⟨[(0,.p (.sl false (p0.map Qaf))),(7,.p (iV v7))],⟨[],[(x18.map cStr).length]⟩⟩
def Qsl (p0:(List Qae)) (v7:Int) (x18:(List (List UInt8))) (y21:(List UInt8)):St:=⟨[(2,.p (sV y21)),(3,.p (iV 4))],⟨[],[(x18.map cStr).length]⟩⟩
def Q3l:Code:=((Qaz (Tryz.f14.body.getD .skip)).getD 2 .skip)
def Qm7 (p0:(List Qae)) (v7:Int):St:=⟨[(0,.p (.sl false (p0.map Qaf))),(7,.p (iV v7))],⟨[],[]⟩⟩
def Qsm (p0:(List Qae)) (y15:Unit):St:=⟨[(0,.p (.sl false (p0.map Qaf)))],⟨[],[]⟩⟩
def Qsn (p0:(List Qae)) (y16:(List UInt8)):St:=⟨[(2,.p (sV y16)),(3,.p (iV 4))],⟨[],[]⟩⟩
def Q3m:Code:=((Qaz (Tryz.f14.body.getD .skip)).getD 1 .skip)
def Qm8 (p0:(List Qae)) (v12:Int):St:=⟨[(0,.p (.sl false (p0.map Qaf))),(12,.p (iV v12))],⟨[],[]⟩⟩
def Qso (p0:(List Qae)) (y26:Unit):St:=⟨[],⟨[],[]⟩⟩
def Qsp (p0:(List Qae)) (y27:(List UInt8)):St:=⟨[(2,.p (sV y27)),(3,.p (iV 10))],⟨[],[]⟩⟩
def Q3n:Code:=((Qaz (Tryz.f14.body.getD .skip)).getD 3 .skip)
def Qf8 (y:(List Qab)×Bool):D :=.tup [.p (.sl false (y.1.map Qaa)),.p (bV y.2)]
def Q1n:List (Nat×List Nat):=[(0,[0,1]),(1,[0,1,6]),(2,[0,1,6,10]),(3,[0,1,6]),(4,[0,1,6,19]),(5,[4,5]),(6,[4,5]),(1000002,[0,1,6])]
def Qor (p0:(List Qae)) (p1:(List UInt8)) (v6:Int):St:=⟨[(0,.p (.sl false (p0.map Qaf))),(1,.p (sV p1)),(6,.p (iV v6))],⟨[],[]⟩⟩
def Qu5 (p0:(List Qae)) (p1:(List UInt8)) (y2:Unit):St:=⟨[],⟨[],[]⟩⟩
def Qu6 (p0:(List Qae)) (p1:(List UInt8)) (y3:(List Qab)):St:=⟨[(4,.p (.sl false (y3.map Qaa))),(5,.p (bV true))],⟨[],[]⟩⟩
def Q7o:Code:=((Qaz (Tryz.f31.body.getD .skip)).getD 0 .skip)
def Qws (y:Bool):D :=.p (bV y)
def Qaa6:List (Nat×List Nat):=[(0,[0,1]),(1,[0,1,5]),(2,[0,1,5,9]),(3,[0,1,5]),(4,[0,1,5,17]),(5,[4]),(6,[4]),(1000002,[0,1,5])]
def Qsq (p0:(List (List UInt8))) (p1:(List UInt8)) (v5:Int):St:=⟨[(0,.p (.sl false (p0.map cStr))),(1,.p (sV p1)),(5,.p (iV v5))],⟨[],[]⟩⟩
def Qyw (p0:(List (List UInt8))) (p1:(List UInt8)) (y2:Unit):St:=⟨[],⟨[],[]⟩⟩
def Qyx (p0:(List (List UInt8))) (p1:(List UInt8)) (y3:Unit):St:=⟨[(4,.p (bV true))],⟨[],[]⟩⟩
def Qads:Code:=((Qaz (Tryz.f21.body.getD .skip)).getD 0 .skip)
def Qx7 (y:(List (List UInt8))):D :=.own 0 9 1 (y.map cStr)
def Qvq:List (Nat×List Nat):=[(0,[0]),(1,[0,3]),(2,[0,3,4]),(3,[0,3,4,11]),(4,[0,3,4]),(5,[0,3,4,19]),(6,[0,3,4]),(7,[0,3,4,5]),(8,[0,3,4,5,6]),(9,[0,3,4,5,6,43]),(10,[0,3,4,5,6]),(11,[0,3,4,5,6]),(12,[2]),(1000003,[0,3,4]),(1000009,[0,3,4,5,6]),(2005005,[]),(5000007,[1005,1011]),(9000006,[6,0,0,0]),(9000011,[5,0,0,0])]
def Q7p (p0:(List Qab)) (v4:Int) (o2:(List (List UInt8))):St:=⟨[(0,.p (.sl false (p0.map Qaa))),(3,.own 0 9 1 (o2.map cStr)),(4,.p (iV v4))],⟨[],[(o2.map cStr).length]⟩⟩
def Qos (p0:(List Qab)) (v4:Int) (x9:(List (List UInt8))) (x10:(List (List UInt8))) (v3_:(List (List UInt8))) (v6:Int):St:=⟨[(0,.p (.sl false (p0.map Qaa))),(3,.own 0 9 1 (v3_.map cStr)),(4,.p (iV v4)),(5,.own 1 9 1 (x10.map cStr)),(6,.p (iV v6))],⟨[],[(v3_.map cStr).length,(x10.map cStr).length,(x9.map cStr).length]⟩⟩
def Qu7 (p0:(List Qab)) (v4:Int) (x9:(List (List UInt8))) (x10:(List (List UInt8))) (o11:(List (List UInt8))):St:=⟨[(0,.p (.sl false (p0.map Qaa))),(3,.own 0 9 1 (o11.map cStr)),(4,.p (iV v4))],⟨[],[(o11.map cStr).length,(x10.map cStr).length,(x9.map cStr).length]⟩⟩
def Q7q:Code:=((Qaz (Tryz.f45.body.getD .skip)).getD 1 .skip)
def Qot (p0:(List Qab)) (v3:(List (List UInt8))) (v4:Int):St:=⟨[(0,.p (.sl false (p0.map Qaa))),(3,.own 0 9 1 (v3.map cStr)),(4,.p (iV v4))],⟨[],[(v3.map cStr).length]⟩⟩
def Qu8 (p0:(List Qab)) (o1:(List (List UInt8))):St:=⟨[(3,.own 0 9 1 (o1.map cStr))],⟨[],[(o1.map cStr).length]⟩⟩
def Q7r:Code:=((Qaz (Tryz.f45.body.getD .skip)).getD 0 .skip)
def Q1o (y:(List (List UInt8))):D :=.own 0 9 1 (y.map cStr)
def Qn2:List (Nat×List Nat):=[(0,[0,1]),(1,[0,5]),(2,[0,7]),(3,[0,7,8]),(4,[0,7,8,26]),(5,[0,7,8]),(6,[0,7,8,9]),(7,[0,7,8,9,10]),(8,[0,7,8,9,10,33]),(9,[0,7,8,9,10]),(10,[0,7,8,9,10,11]),(11,[0,7,8,9,10,13]),(12,[0,7,8,9,10,13,14]),(13,[0,7,8,9,10,13,14,50]),(14,[0,7,8,9,10,13,14]),(15,[0,7,8,9,10,13,14]),(16,[4]),(1000004,[0,7,8]),(1000008,[0,7,8,9,10]),(1000013,[0,7,8,9,10,13,14]),(9000015,[5,0,0,0])]
def Qm9 (p0:(List Qae)) (v7:(List (List UInt8))) (v8:Int) (v10:Int) (x7:(List (List UInt8))) (v7__:(List (List UInt8))) (v14:Int):St:=⟨[(0,.p (.sl false (p0.map Qaf))),(7,.own 0 9 1 (v7__.map cStr)),(8,.p (iV v8)),(9,.p (.sl false (v7.map cStr))),(10,.p (iV v10)),(13,.own 1 9 1 (x7.map cStr)),(14,.p (iV v14))],⟨[],[(v7__.map cStr).length,(x7.map cStr).length]⟩⟩
def Qsr (p0:(List Qae)) (v7:(List (List UInt8))) (v8:Int) (v10:Int) (x7:(List (List UInt8))) (o8:(List (List UInt8))):St:=⟨[(0,.p (.sl false (p0.map Qaf))),(7,.own 0 9 1 (o8.map cStr)),(8,.p (iV v8)),(9,.p (.sl false (v7.map cStr))),(10,.p (iV v10))],⟨[],[(o8.map cStr).length,(x7.map cStr).length]⟩⟩
def Q3o:Code:=((Qaz (Tryz.f46.body.getD .skip)).getD 2 .skip)
def Qna (p0:(List Qae)) (v7:(List (List UInt8))) (v8:Int) (v7_:(List (List UInt8))) (v10:Int):St:=⟨[(0,.p (.sl false (p0.map Qaf))),(7,.own 0 9 1 (v7_.map cStr)),(8,.p (iV v8)),(9,.p (.sl false (v7.map cStr))),(10,.p (iV v10))],⟨[],[(v7_.map cStr).length]⟩⟩
def Qss (p0:(List Qae)) (v7:(List (List UInt8))) (v8:Int) (o4:(List (List UInt8))):St:=⟨[(0,.p (.sl false (p0.map Qaf))),(7,.own 0 9 1 (o4.map cStr)),(8,.p (iV v8))],⟨[],[(o4.map cStr).length]⟩⟩
def Q3p:Code:=((Qaz (Tryz.f46.body.getD .skip)).getD 1 .skip)
def Qnb (p0:(List Qae)) (v7:(List (List UInt8))) (v8:Int):St:=⟨[(0,.p (.sl false (p0.map Qaf))),(7,.own 0 9 1 (v7.map cStr)),(8,.p (iV v8))],⟨[],[(v7.map cStr).length]⟩⟩
def Qst (p0:(List Qae)) (o3:(List (List UInt8))):St:=⟨[(7,.own 0 9 1 (o3.map cStr))],⟨[],[(o3.map cStr).length]⟩⟩
def Q3q:Code:=((Qaz (Tryz.f46.body.getD .skip)).getD 0 .skip)
def Qx8 (y:(List (List UInt8))):D :=.own 0 9 1 (y.map cStr)
def Q1p:List (Nat×List Nat):=[(0,[0,1]),(1,[0,1,8]),(2,[4]),(3,[0,1,5]),(4,[0,1,5,21]),(5,[0,1,5]),(6,[0,4]),(1000004,[0,1,5]),(3000004,[])]
def Q7s (p0:(List (List UInt8))) (p1:(List UInt8)) (v5:Int) (o3:Bool):St:=⟨[(0,.own 0 9 1 (p0.map cStr)),(1,.p (sV p1)),(5,.p (iV v5)),(21,.p (bV o3))],⟨[],[(p0.map cStr).length]⟩⟩
def Qou (p0:(List (List UInt8))) (p1:(List UInt8)) (v5:Int):St:=⟨[(0,.own 0 9 1 (p0.map cStr)),(1,.p (sV p1)),(5,.p (iV v5))],⟨[],[(p0.map cStr).length]⟩⟩
def Qu9 (p0:(List (List UInt8))) (p1:(List UInt8)) (o2:Int):St:=⟨[(0,.own 0 9 1 (p0.map cStr)),(1,.p (sV p1)),(5,.p (iV o2))],⟨[],[(p0.map cStr).length]⟩⟩
def Q7t:Code:=((Qaz (Tryz.f55.body.getD .skip)).getD 0 .skip)
def Qej (y:(List UInt8)×Int):D :=.tup [.p (sV y.1),.p (iV y.2)]
def Qhw:List (Nat×List Nat):=[(0,[0]),(1,[0,19]),(2,[2,3]),(3,[0,20,21,22]),(4,[0,20,21,22,23]),(5,[0,4,5,20,21,22]),(6,[0,4,5,20,21,22,36]),(7,[2,3]),(8,[0,5,7,20,21,22]),(9,[0,5,20,21,22,48]),(10,[2,3]),(11,[0,20,21,22]),(12,[0,8]),(13,[0,8,54,55,56]),(14,[0,8,54,55,56,57]),(15,[0,8,10,54,55,56]),(16,[0,8,10,54,55,56,64,65,66]),(17,[0,8,10,54,55,56,64,65,66,67]),(18,[0,8,10,12,54,55,56,64,65,66]),(19,[0,8,10,14,54,55,56,64,65,66]),(20,[0,8,10,54,55,56,64,65,66,78]),(21,[2,3]),(22,[0,8,10,54,55,56,64,65,66]),(23,[0,8,54,55,56]),(24,[8,83,84,85]),(25,[8,83,84,85,86]),(26,[8,16,83,84,85]),(27,[8,16,83,84,85,98]),(28,[2,3]),(29,[8,83,84,85]),(30,[2,3]),(1000004,[0,20,21,22]),(1000014,[0,8,54,55,56]),(1000017,[0,8,10,54,55,56,64,65,66]),(1000025,[8,83,84,85]),(3000006,[]),(5000027,[2005]),(9000016,[4,0,0,0]),(9000019,[3,0,0,0])]
def Qzg (p0:(List Qae)) (v22:Int) (x4:Qae) (o5:Bool):St:=⟨[(0,.p (.sl false (p0.map Qaf))),(4,.p (iV v22)),(5,.ptr 0 0),(20,.p (.sl false (p0.map Qaf))),(21,.p (iV (p0.length:Int))),(22,.p (iV v22)),(36,.p (bV o5))],⟨[[.p (sV x4.Name),.p (.sl false (x4.L.map Qaa))]],[]⟩⟩
def Qke (p0:(List Qae)) (v22:Int):St:=⟨[(0,.p (.sl false (p0.map Qaf))),(20,.p (.sl false (p0.map Qaf))),(21,.p (iV (p0.length:Int))),(22,.p (iV v22))],⟨[],[]⟩⟩
def Qpg (p0:(List Qae)) (y2:Unit):St:=⟨[(0,.p (.sl false (p0.map Qaf)))],⟨[],[]⟩⟩
def Qph (p0:(List Qae)) (y3:(List UInt8)×Int):St:=⟨[(2,.p (sV y3.1)),(3,.p (iV y3.2))],⟨[],[]⟩⟩
def Qzh:Code:=((Qaz (Tryz.f13.body.getD .skip)).getD 0 .skip)
def Qkf (p0:(List Qae)) (x10:(List ((List UInt8)×(List (List UInt8))))) (v56:Int) (x14:Qae) (v66:Int):St:=⟨[(0,.p (.sl false (p0.map Qaf))),(8,.ptr 1 0),(10,.ptr 2 0),(54,.p (.sl false (p0.map Qaf))),(55,.p (iV (p0.length:Int))),(56,.p (iV v56)),(64,.p (.sl false (((mget (fun a b=>a==b) x14.Name x10).getD []).map cStr))),(65,.p (iV (((mget (fun a b=>a==b) x14.Name x10).getD []).length:Int))),(66,.p (iV v66))],⟨[[mpD sV (fun x =>.sl false (x.map cStr)) x10],[.mh 0],[.p (sV x14.Name),.p (.sl false (x14.L.map Qaa))]],[]⟩⟩
def Qpi (p0:(List Qae)) (x10:(List ((List UInt8)×(List (List UInt8))))) (v56:Int) (x14:Qae) (y16:Unit):St:=⟨[(0,.p (.sl false (p0.map Qaf))),(8,.ptr 1 0),(54,.p (.sl false (p0.map Qaf))),(55,.p (iV (p0.length:Int))),(56,.p (iV v56))],⟨[[mpD sV (fun x =>.sl false (x.map cStr)) x10],[.mh 0],[.p (sV x14.Name),.p (.sl false (x14.L.map Qaa))]],[]⟩⟩
def Qpj (p0:(List Qae)) (x10:(List ((List UInt8)×(List (List UInt8))))) (v56:Int) (x14:Qae) (y17:Unit):St:=⟨[(2,.p (sV x14.Name)),(3,.p (iV 4))],⟨[[mpD sV (fun x =>.sl false (x.map cStr)) x10],[.mh 0],[.p (sV x14.Name),.p (.sl false (x14.L.map Qaa))]],[]⟩⟩
def Qzi:Code:=((Qaz (Tryz.f13.body.getD .skip)).getD 2 .skip)
def Qkg (p0:(List Qae)) (x10:(List ((List UInt8)×(List (List UInt8))))) (v56:Int):St:=⟨[(0,.p (.sl false (p0.map Qaf))),(8,.ptr 1 0),(54,.p (.sl false (p0.map Qaf))),(55,.p (iV (p0.length:Int))),(56,.p (iV v56))],⟨[[mpD sV (fun x =>.sl false (x.map cStr)) x10],[.mh 0]],[]⟩⟩
def Qpk (p0:(List Qae)) (x10:(List ((List UInt8)×(List (List UInt8))))) (y12:Unit):St:=⟨[(0,.p (.sl false (p0.map Qaf))),(8,.ptr 1 0)],⟨[[mpD sV (fun x =>.sl false (x.map cStr)) x10],[.mh 0]],[]⟩⟩
def Qpl (p0:(List Qae)) (x10:(List ((List UInt8)×(List (List UInt8))))) (y13:(List UInt8)):St:=⟨[(2,.p (sV y13)),(3,.p (iV 4))],⟨[[mpD sV (fun x =>.sl false (x.map cStr)) x10],[.mh 0]],[]⟩⟩
def Qzj:Code:=((Qaz (Tryz.f13.body.getD .skip)).getD 1 .skip)
def Qkh (p0:(List Qae)) (x10:(List ((List UInt8)×(List (List UInt8))))) (v85:Int):St:=⟨[(8,.ptr 1 0),(83,.p (.sl false (p0.map Qaf))),(84,.p (iV (p0.length:Int))),(85,.p (iV v85))],⟨[[mpD sV (fun x =>.sl false (x.map cStr)) x10],[.mh 0]],[]⟩⟩
def Qpm (p0:(List Qae)) (x10:(List ((List UInt8)×(List (List UInt8))))) (y20:Unit):St:=⟨[],⟨[[mpD sV (fun x =>.sl false (x.map cStr)) x10],[.mh 0]],[]⟩⟩
def Qpn (p0:(List Qae)) (x10:(List ((List UInt8)×(List (List UInt8))))) (y21:(List UInt8)):St:=⟨[(2,.p (sV y21)),(3,.p (iV 10))],⟨[[mpD sV (fun x =>.sl false (x.map cStr)) x10],[.mh 0]],[]⟩⟩
def Qzk:Code:=((Qaz (Tryz.f13.body.getD .skip)).getD 3 .skip)
def Qfa (y:(List Qab)×Bool):D :=.tup [.p (.sl false (y.1.map Qaa)),.p (bV y.2)]
def Qwt:List (Nat×List Nat):=[(0,[0,1]),(1,[1,8,9,10]),(2,[1,8,9,10,11]),(3,[1,7,8,9,10]),(4,[1,7,8,9,10,17]),(5,[4,5]),(6,[1,8,9,10]),(7,[4,5]),(1000002,[1,8,9,10])]
def Qlx (p0:(List Qae)) (p1:(List UInt8)) (v10:Int):St:=⟨[(1,.p (sV p1)),(8,.p (.sl false (p0.map Qaf))),(9,.p (iV (p0.length:Int))),(10,.p (iV v10))],⟨[],[]⟩⟩
def Qq4 (p0:(List Qae)) (p1:(List UInt8)) (y2:Unit):St:=⟨[],⟨[],[]⟩⟩
def Qq5 (p0:(List Qae)) (p1:(List UInt8)) (y3:(List Qab)):St:=⟨[(4,.p (.sl false (y3.map Qaa))),(5,.p (bV true))],⟨[],[]⟩⟩
def Q1q:Code:=((Qaz (Tryz.f39.body.getD .skip)).getD 0 .skip)
def Qsu (y:(List (List UInt8))):D :=.p (.sl false (y.map cStr))
def Q7u:List (Nat×List Nat):=[(0,[0]),(1,[0,3]),(2,[0,3,4]),(3,[0,3,4]),(4,[3]),(5,[3]),(6,[2]),(9000005,[1,3,0,0]),(9000006,[1,0,0,0]),(9500004,[])]
def Qov (_:(List (List UInt8))):D :=.tup []
def Qsv:List (Nat×List Nat):=[(0,[1,2,6,7,8]),(1,[1,2,6,7,8,9]),(2,[1,2,5,6,7,8]),(3,[1,2,5,6,7,8,14]),(4,[1,2,5,6,7,8]),(5,[1,2,5,6,7,8]),(6,[1,2,6,7,8]),(7,[1,2,6,7,8]),(1000001,[1,2,6,7,8]),(2003005,[]),(9000004,[4,0,0,0])]
def Qx9 (p0:(List Qab)) (v8:Int) (x2:Qab) (o3:(List (List UInt8))):St:=⟨[(1,.ptr 0 0),(2,.ptr 1 0),(5,.ptr 2 0),(6,.p (.sl false (p0.map Qaa))),(7,.p (iV (p0.length:Int))),(8,.p (iV v8))],⟨[[.x 0 (o3.length+1) (.sl 9 1 (o3.map cStr))],[.fn (.func 99) [] [.ptr 0 0,.ptr 1 0]],[.p (iV x2.Kind),.p (sV x2.Name),.p (sV x2.Text),.p (iV x2.N),.p (.sl false (x2.L.map Qaa)),.p (.sl false (x2.Then.map Qaa)),.p (.sl false (x2.Else.map Qaa))]],[(o3.length+1)]⟩⟩
def Qi4 (p0:(List Qab)) (v8:Int) (h0_0_:(List (List UInt8))):St:=⟨[(1,.ptr 0 0),(2,.ptr 1 0),(6,.p (.sl false (p0.map Qaa))),(7,.p (iV (p0.length:Int))),(8,.p (iV v8))],⟨[[.x 0 (h0_0_.length+1) (.sl 9 1 (h0_0_.map cStr))],[.fn (.func 99) [] [.ptr 0 0,.ptr 1 0]]],[(h0_0_.length+1)]⟩⟩
def Qn3 (p0:(List Qab)) (o1:(List (List UInt8))):St:=⟨[],⟨[[.x 0 (o1.length+1) (.sl 9 1 (o1.map cStr))],[.fn (.func 99) [] [.ptr 0 0,.ptr 1 0]]],[(o1.length+1)]⟩⟩
def Qya:Code:=((Qaz (Tryz.f99.body.getD .skip)).getD 0 .skip)
def Qwu (_:(List ((List UInt8)×(List (List UInt8))))):D :=.agg [.mh 0]
def Qva:List (Nat×List Nat):=[(0,[0,2]),(1,[0,2,3]),(2,[2,3,10,11,12]),(3,[2,3,10,11,12,13]),(4,[2,3,5,10,11,12]),(5,[2,3,5,7,10,11,12]),(6,[2,3,5,10,11,12,25]),(7,[2,3,10,11,12]),(8,[2,3,10,11,12]),(9,[2]),(1000003,[2,3,10,11,12]),(9000001,[0,0,0,0]),(9000005,[4,0,0,0]),(9000007,[7,0,0,0]),(9800007,[7]),(7000007,[2,3,10,11,12,27,29,32])]
def Qhh (p0:(List Qae)) (v12:Int) (h1_0:(List ((List UInt8)×(List (List UInt8))))):St:=⟨[(2,.ptr 0 0),(3,.ptr 2 0),(10,.p (.sl false (p0.map Qaf))),(11,.p (iV (p0.length:Int))),(12,.p (iV v12))],⟨[[.p (.v (.map none))],[mpD sV (fun x =>.sl false (x.map cStr)) h1_0],[.mh 1]],[]⟩⟩
def Qpo (p0:(List Qae)) (o1:(List ((List UInt8)×(List (List UInt8))))):St:=⟨[(2,.ptr 0 0),(3,.ptr 2 0)],⟨[[.p (.v (.map none))],[mpD sV (fun x =>.sl false (x.map cStr)) o1],[.mh 1]],[]⟩⟩
def Qzl:Code:=((Qaz (Tryz.f40.body.getD .skip)).getD 0 .skip)
def Qi5 (y:(List (List UInt8))):D :=.p (.sl false (y.map cStr))
def Qff:List (Nat×List Nat):=[(0,[1,2]),(1,[1,2,5]),(2,[2,5,6]),(3,[2,5,6,15,16,17]),(4,[2,5,6,15,16,17,18]),(5,[2,5,6,8,15,16,17]),(6,[2,5,6,15,16,17]),(7,[2,5,6,15,16,17]),(8,[2,5,6,9]),(9,[2,5,6,9,27]),(10,[2,5,6,9]),(11,[2,5,6,9,36,37,38]),(12,[2,5,6,9,36,37,38,39]),(13,[2,5,6,9,11,36,37,38]),(14,[2,5,6,9,11,36,37,38,45]),(15,[2,5,6,9,11,36,37,38]),(16,[2,5,6,9,36,37,38]),(17,[2,5,6,9,36,37,38]),(18,[6]),(19,[4]),(1000004,[2,5,6,15,16,17]),(1000009,[2,5,6,9]),(1000012,[2,5,6,9,36,37,38]),(5000011,[2004,2005,2006]),(9000001,[0,0,0,0]),(9000003,[1,0,0,0]),(9000005,[0,0,0,0,1,0,0,0]),(9000006,[2,0,0,0]),(9000009,[2,0,0,0]),(9000014,[2,0,0,0]),(9000015,[2,0,0,0]),(9000016,[3,0,0,0]),(9000018,[1,1,6,0])]
def Qgb (h0_0:(List ((List UInt8)×(List (List UInt8))))) (x1:(List (List UInt8))) (v17:Int) (h2_0:(List ((List UInt8)×Int))):St:=⟨[(2,.ptr 1 0),(5,.mh 2),(6,.x 0 1 (.sl 9 1 (x1.map cStr))),(15,.x 0 1 (.sl 9 1 (x1.map cStr))),(16,.p (iV (x1.length:Int))),(17,.p (iV v17))],⟨[[mpD sV (fun x =>.sl false (x.map cStr)) h0_0],[.mh 0],[mpD sV iV h2_0]],[1]⟩⟩
def Qjz (h0_0:(List ((List UInt8)×(List (List UInt8))))) (x1:(List (List UInt8))) (o2:(List ((List UInt8)×Int))):St:=⟨[(2,.ptr 1 0),(5,.mh 2),(6,.x 0 1 (.sl 9 1 (x1.map cStr)))],⟨[[mpD sV (fun x =>.sl false (x.map cStr)) h0_0],[.mh 0],[mpD sV iV o2]],[1]⟩⟩
def Qsw:Code:=((Qaz (Tryz.f42.body.getD .skip)).getD 0 .skip)
def Qee (h0_0:(List ((List UInt8)×(List (List UInt8))))) (v9:Int) (x5:(List UInt8)) (v6_:(List (List UInt8))) (v38:Int) (h2_0_:(List ((List UInt8)×Int))):St:=⟨[(2,.ptr 1 0),(5,.mh 2),(6,.x 0 1 (.sl 9 1 (v6_.map cStr))),(9,.p (iV v9)),(36,.p (.sl false (((mget (fun a b=>a==b) x5 h0_0).getD []).map cStr))),(37,.p (iV (((mget (fun a b=>a==b) x5 h0_0).getD []).length:Int))),(38,.p (iV v38))],⟨[[mpD sV (fun x =>.sl false (x.map cStr)) h0_0],[.mh 0],[mpD sV iV h2_0_]],[1]⟩⟩
def Qj0 (h0_0:(List ((List UInt8)×(List (List UInt8))))) (v9:Int) (x5:(List UInt8)) (o6:(List (List UInt8))×(List ((List UInt8)×Int))):St:=⟨[(2,.ptr 1 0),(5,.mh 2),(6,.x 0 1 (.sl 9 1 (o6.1.map cStr))),(9,.p (iV v9))],⟨[[mpD sV (fun x =>.sl false (x.map cStr)) h0_0],[.mh 0],[mpD sV iV o6.2]],[1]⟩⟩
def Qsx:Code:=((Qaz (Tryz.f42.body.getD .skip)).getD 2 .skip)
def Qgc (h0_0:(List ((List UInt8)×(List (List UInt8))))) (v6:(List (List UInt8))) (v9:Int) (h2_0:(List ((List UInt8)×Int))):St:=⟨[(2,.ptr 1 0),(5,.mh 2),(6,.x 0 1 (.sl 9 1 (v6.map cStr))),(9,.p (iV v9))],⟨[[mpD sV (fun x =>.sl false (x.map cStr)) h0_0],[.mh 0],[mpD sV iV h2_0]],[1]⟩⟩
def Qj1 (h0_0:(List ((List UInt8)×(List (List UInt8))))) (o4:(List (List UInt8))×(List ((List UInt8)×Int))):St:=⟨[(6,.x 0 1 (.sl 9 1 (o4.1.map cStr)))],⟨[[mpD sV (fun x =>.sl false (x.map cStr)) h0_0],[.mh 0],[mpD sV iV o4.2]],[1]⟩⟩
def Qsy:Code:=((Qaz (Tryz.f42.body.getD .skip)).getD 1 .skip)
def Qcz (y:Bool):D :=.p (bV y)
def Qi6:List (Nat×List Nat):=[(0,[0,1]),(1,[4]),(3000001,[])]
def Qia  (o1:Bool):St:=⟨[(4,.p (bV o1))],⟨[],[]⟩⟩
def Qge (y:Int):D :=.p (iV y)
def Qey (y:Int):D :=.p (iV y)
def Qqh (y:(List UInt8)×Bool):D :=.tup [.p (sV y.1),.p (bV y.2)]
def Qyy:List (Nat×List Nat):=[(0,[0]),(1,[0,14]),(2,[2,3]),(3,[0,4]),(4,[0,4,17,18]),(5,[0,4,17,18,19]),(6,[0,4,5,17,18]),(7,[0,4,6,17,18]),(8,[0,4,6,17,18,24]),(9,[0,4,17,18]),(10,[0,4,6,17,18,24,29]),(11,[0,4,17,18]),(12,[0,4,6,17,18,24,33]),(13,[0,4,17,18]),(14,[0,4,6,17,18,24,37]),(15,[0,4,6,17,18,37]),(16,[0,4,17,18]),(17,[0,4,17,18]),(18,[2,3]),(1000005,[0,4,17,18]),(2014005,[]),(3000001,[])]
def Q3r (p0:(List UInt8)) (o1:Bool):St:=⟨[(0,.p (sV p0)),(14,.p (bV o1))],⟨[],[]⟩⟩
def Q3s (p0:(List UInt8)) (v4:(List Int)) (v18:Int) (x5:UInt8) (o8:Bool):St:=⟨[(0,.p (sV p0)),(4,.own 0 1000005 1 (v4.map (cNum .u8))),(6,.p (nV .u8 (x5.toNat:Int))),(17,.p (iV (p0.length:Int))),(18,.p (iV v18)),(37,.p (bV o8))],⟨[],[(v4.map (cNum .u8)).length]⟩⟩
def Qe3 (p0:(List UInt8)) (v4:(List Int)) (v18:Int):St:=⟨[(0,.p (sV p0)),(4,.own 0 1000005 1 (v4.map (cNum .u8))),(17,.p (iV (p0.length:Int))),(18,.p (iV v18))],⟨[],[(v4.map (cNum .u8)).length]⟩⟩
def Qsz (p0:(List UInt8)) (o4:(List Int)):St:=⟨[(4,.own 0 1000005 1 (o4.map (cNum .u8)))],⟨[],[(o4.map (cNum .u8)).length]⟩⟩
def Q3t:Code:=((Qaz (Tryz.f154.body.getD .skip)).getD 0 .skip)
def Qmp (y:Bool):D :=.p (bV y)
def Q1r:List (Nat×List Nat):=[(0,[0]),(1,[0,5,6]),(2,[0,5,6,7]),(3,[0,3,5,6]),(4,[0,5,6,13]),(5,[2]),(6,[0,5,6]),(7,[2]),(1000002,[0,5,6]),(3000007,[])]
def Qow (p0:(List UInt8)) (v6:Int):St:=⟨[(0,.p (sV p0)),(5,.p (iV (p0.length:Int))),(6,.p (iV v6))],⟨[],[]⟩⟩
def Qvb (p0:(List UInt8)) (y2:Unit):St:=⟨[(0,.p (sV p0))],⟨[],[]⟩⟩
def Qvc (p0:(List UInt8)) (y3:Unit):St:=⟨[(2,.p (bV false))],⟨[],[]⟩⟩
def Q7v:Code:=((Qaz (Tryz.f69.body.getD .skip)).getD 0 .skip)
def Q7w  (o6:Bool):St:=⟨[(2,.p (bV o6))],⟨[],[]⟩⟩
def Qqi (y:Bool):D :=.p (bV y)
def Qaa7:List (Nat×List Nat):=[(0,[0]),(1,[2]),(3000001,[])]
def Q3u  (o1:Bool):St:=⟨[(2,.p (bV o1))],⟨[],[]⟩⟩
def Qs0 (y:Bool):D :=.p (bV y)
def Q7x:List (Nat×List Nat):=[(0,[0]),(1,[2]),(3000001,[])]
def Q1s  (o1:Bool):St:=⟨[(2,.p (bV o1))],⟨[],[]⟩⟩
def Qcl (y:(List Qab)×Int):D :=.tup [.p (.sl false (y.1.map Qaa)),.p (iV y.2)]
def Qmb:List (Nat×List Nat):=[(0,[0,1,2]),(1,[0,1,2,8]),(2,[0,1,2,8,9]),(3,[0,1,2,8,9,24]),(4,[0,1,2,8,9]),(5,[0,1,2,8,9,10]),(6,[0,1,2,8,9,10]),(7,[0,1,2,8,9,10,11]),(8,[0,1,2,8,9,10,11]),(9,[0,1,2,8,9,10,11]),(10,[0,1,2,8,9,11]),(11,[0,1,2,8,9]),(12,[6,7]),(1000003,[0,1,2,8,9]),(3000003,[])]
def Qrm (p0:(List Qab)) (p1:Int) (v2:Int) (v8:(List Qab)) (v9:Int) (o2:Bool):St:=⟨[(0,.p (.sl false (p0.map Qaa))),(1,.p (iV p1)),(2,.p (iV v2)),(8,.own 0 38 7 (v8.map Qaa)),(9,.p (iV v9)),(24,.p (bV o2))],⟨[],[(v8.map Qaa).length]⟩⟩
def Qfg (p0:(List Qab)) (p1:Int) (v2:Int) (v8:(List Qab)) (v9:Int):St:=⟨[(0,.p (.sl false (p0.map Qaa))),(1,.p (iV p1)),(2,.p (iV v2)),(8,.own 0 38 7 (v8.map Qaa)),(9,.p (iV v9))],⟨[],[(v8.map Qaa).length]⟩⟩
def Qi7 (p0:(List Qab)) (p1:Int) (o1:Int×(List Qab)):St:=⟨[(2,.p (iV o1.1)),(8,.own 0 38 7 (o1.2.map Qaa))],⟨[],[(o1.2.map Qaa).length]⟩⟩
def Qrn:Code:=((Qaz (Tryz.f22.body.getD .skip)).getD 0 .skip)
def Qki (y:(List Qae)):D :=.p (.sl false (y.map Qaf))
def Qn4:List (Nat×List Nat):=[(0,[0,1]),(1,[0,1,5]),(2,[0,1,5,6]),(3,[0,1,5,6,18]),(4,[0,1,5,6]),(5,[0,1,5,6,7]),(6,[0,1,5,6]),(7,[4]),(1000003,[0,1,5,6]),(3000003,[])]
def Qug (p0:(List Qae)) (p1:Int) (v5:(List Qae)) (v6:Int) (o2:Bool):St:=⟨[(0,.p (.sl false (p0.map Qaf))),(1,.p (iV p1)),(5,.own 0 56 2 (v5.map Qaf)),(6,.p (iV v6)),(18,.p (bV o2))],⟨[],[(v5.map Qaf).length]⟩⟩
def Qgo (p0:(List Qae)) (p1:Int) (v5:(List Qae)) (v6:Int):St:=⟨[(0,.p (.sl false (p0.map Qaf))),(1,.p (iV p1)),(5,.own 0 56 2 (v5.map Qaf)),(6,.p (iV v6))],⟨[],[(v5.map Qaf).length]⟩⟩
def Qlf (p0:(List Qae)) (p1:Int) (o1:(List Qae)):St:=⟨[(5,.own 0 56 2 (o1.map Qaf))],⟨[],[(o1.map Qaf).length]⟩⟩
def Quh:Code:=((Qaz (Tryz.f12.body.getD .skip)).getD 0 .skip)
def Qdu (y:(List (List UInt8))):D :=.x 0 1 (.sl 9 1 (y.map cStr))
def Qly:List (Nat×List Nat):=[(0,[0]),(1,[0,4]),(2,[2]),(3,[2]),(9000001,[1,0,0,0]),(9000003,[2,0,0,0])]
def Qb3 (y:Bool):D :=.p (bV y)
def Qd0:List (Nat×List Nat):=[(0,[0,1]),(1,[4])]
def Qc6 (y:Bool):D :=.p (bV y)
def Qjw:List (Nat×List Nat):=[(0,[0,1]),(1,[4])]
def Qbl (y:Int):D :=.p (iV y)
def Qca:List (Nat×List Nat):=[(0,[0,1]),(1,[0,1,7,8]),(2,[0,1,7,8,9]),(3,[0,1,5,7,8]),(4,[0,1,5,7,8,16]),(5,[4]),(6,[0,1,7,8]),(7,[4]),(1000002,[0,1,7,8])]
def Qbg (p0:(List Qab)) (v8:Int):St:=⟨[(0,.p (.sl false (p0.map Qaa))),(1,.fn (.func 155) [] []),(7,.p (iV (p0.length:Int))),(8,.p (iV v8))],⟨[],[]⟩⟩
def Qb0 (p0:(List Qab)) (y2:Unit):St:=⟨[],⟨[],[]⟩⟩
def Qb1 (p0:(List Qab)) (y3:Int):St:=⟨[(4,.p (iV y3))],⟨[],[]⟩⟩
def Qd4:Code:=((Qaz (Tryz.f83.body.getD .skip)).getD 0 .skip)
def Qcp (y:Int):D :=.p (iV y)
def Qfy:List (Nat×List Nat):=[(0,[0,1]),(1,[0,1,7,8]),(2,[0,1,7,8,9]),(3,[0,1,5,7,8]),(4,[0,1,5,7,8,16]),(5,[4]),(6,[0,1,7,8]),(7,[4]),(1000002,[0,1,7,8])]
def Qc0 (p0:(List (List UInt8))) (p1:(List UInt8)) (v8:Int):St:=⟨[(0,.p (.sl false (p0.map cStr))),(1,.p (sV p1)),(7,.p (iV (p0.length:Int))),(8,.p (iV v8))],⟨[],[]⟩⟩
def Qez (p0:(List (List UInt8))) (p1:(List UInt8)) (y2:Unit):St:=⟨[],⟨[],[]⟩⟩
def Qe0 (p0:(List (List UInt8))) (p1:(List UInt8)) (y3:Int):St:=⟨[(4,.p (iV y3))],⟨[],[]⟩⟩
def Qkj:Code:=((Qaz (Tryz.f74.body.getD .skip)).getD 0 .skip)
def Qi8 (y:Bool):D :=.p (bV y)
def Qvr:List (Nat×List Nat):=[(0,[0,1]),(1,[4])]
def Qc7 (y:Bool):D :=.p (bV y)
def Qui:List (Nat×List Nat):=[(0,[0,1]),(1,[4])]
def Qnc (y:Int):D :=.p (iV y)
def Qzm:List (Nat×List Nat):=[(0,[0,1]),(1,[4])]
def Qib (y:Int):D :=.p (iV y)
def Quj:List (Nat×List Nat):=[(0,[0,1]),(1,[4])]
def Qs1 (y:Int):D :=.p (iV y)
def Qqj:List (Nat×List Nat):=[(0,[0]),(1,[0,3]),(2,[3,5]),(3,[3,5]),(4,[2]),(4000003,[3,5])]
def Qh4 (x1:(List Qab)×Int) (h0_0:Int):St:=⟨[(3,.ptr 0 0),(5,.fn (.func 125) [] [.p (.ep [.sl false (x1.1.map Qaa)]),.p (.ep [iV x1.2])])],⟨[[.p (iV h0_0)]],[]⟩⟩
def Qq6 (x1:(List Qab)×Int) (o6:Int):St:=⟨[(3,.ptr 0 0),(5,.fn (.func 125) [] [.p (.ep [.sl false (x1.1.map Qaa)]),.p (.ep [iV x1.2])])],⟨[[.p (iV o6)]],[]⟩⟩
def Qnd:Code:=((Qaz (Tryz.f71.body.getD .skip)).getD 0 .skip)
def Qvs (y:Int):D :=.p (iV y)
def Qs2:List (Nat×List Nat):=[(0,[0,5]),(1,[0,3,5]),(2,[3,5,7]),(3,[3,5,7]),(4,[3,5,7]),(5,[2]),(4000003,[3,5,7])]
def Qi9 (x1:(List Qab)×Int) (h0_0:Int):St:=⟨[(3,.ptr 0 0),(7,.fn (.func 125) [] [.p (.ep [.sl false (x1.1.map Qaa)]),.p (.ep [iV x1.2])])],⟨[[.p (iV h0_0)]],[]⟩⟩
def Qs3 (x1:(List Qab)×Int) (o6:Int):St:=⟨[(3,.ptr 0 0),(7,.fn (.func 125) [] [.p (.ep [.sl false (x1.1.map Qaa)]),.p (.ep [iV x1.2])])],⟨[[.p (iV o6)]],[]⟩⟩
def Qox:Code:=((Qaz (Tryz.f70.body.getD .skip)).getD 0 .skip)
def Q1t (y:Bool):D :=.p (bV y)
def Qags:List (Nat×List Nat):=[(0,[0]),(1,[2]),(3000001,[])]
def Qaa8  (o1:Bool):St:=⟨[(2,.p (bV o1))],⟨[],[]⟩⟩
def Qgp (y:Bool):D :=.p (bV y)
def Qaa9:List (Nat×List Nat):=[(0,[0]),(1,[0,3]),(2,[0,3,4]),(3,[0,3,4]),(4,[0,3,4]),(5,[0,3,4]),(6,[0,3,4]),(7,[0,3,4]),(8,[0,3,4]),(9,[0,3,4]),(10,[0,3,4]),(11,[0,4]),(12,[2]),(13,[2]),(2002037,[])]
def Q3v (p0:(List UInt8)) (o1:Bool):St:=⟨[(0,.p (sV p0)),(4,.p (bV o1))],⟨[],[]⟩⟩
def Qpp (y:(List Qab)×Int):D :=.fn (.func 125) [] [.p (.ep [.sl false (y.1.map Qaa)]),.p (.ep [iV y.2])]
def Qadt:List (Nat×List Nat):=[(0,[2,3]),(1,[4])]
def Qcn (y:(Qab×Int)):List V:=[.agg [iV y.1.Kind,sV y.1.Name,sV y.1.Text,iV y.1.N,.sl false (y.1.L.map Qaa),.sl false (y.1.Then.map Qaa),.sl false (y.1.Else.map Qaa)],iV y.2]
def Qja:List (Nat×List Nat):=[(0,[1,2,3,8,9]),(1,[2,3,8,9,10,11,12]),(2,[2,3,8,9,10,11,12,13]),(3,[2,3,5,8,9,10,11,12]),(4,[2,3,5,8,9,10,11,12,20]),(5,[2,3,8,9,10,11,12,27,28]),(6,[2,3,8,9,10,11,12,27,28,29]),(7,[2,3,7,8,9,10,11,12,27,28]),(8,[2,3,8,9,10,11,12,27,28,34]),(9,[2,3,8,10,11,12,27,28,34,36]),(10,[2,3,8,9,10,11,12,27,28,34]),(11,[2,3,8,9,10,11,12,27,28,34,41]),(12,[2,3,8,9,10,11,12,27,28]),(13,[2,3,8,9,10,11,12]),(1000002,[2,3,8,9,10,11,12]),(1000006,[2,3,8,9,10,11,12,27,28]),(4000009,[2,3,8,9,10,11,12,27,28,34])]
def Qh5 (p0:(List Qab)) (p1:Int) (v12:Int) (x3:Qab) (v28:Int) (x7:(List Qab)×Int) (gxs gp:List (List V)):St:=⟨[(2,.p (.ep [iV p1])),(3,.ptr 0 0),(10,.p (.sl false (p0.map Qaa))),(11,.p (iV (p0.length:Int))),(12,.p (iV v12)),(27,.p (.agg [.sl false (x3.L.map Qaa),.sl false (x3.Then.map Qaa),.sl false (x3.Else.map Qaa)])),(28,.p (iV v28)),(34,.fn (.func 125) [] [.p (.ep [.sl false (x7.1.map Qaa)]),.p (.ep [iV x7.2])])],⟨[[.yld Tryz.prog 0 gxs],[.p (iV x3.Kind),.p (sV x3.Name),.p (sV x3.Text),.p (iV x3.N),.p (.sl false (x3.L.map Qaa)),.p (.sl false (x3.Then.map Qaa)),.p (.sl false (x3.Else.map Qaa))]],[gp.length]⟩⟩
def Qq7 (p0:(List Qab)) (p1:Int) (v12:Int) (x3:Qab) (v28:Int) (x7:(List Qab)×Int) (gxs:List (List V)) (gq12:List (List V)) (oy:Unit):St:=⟨[(2,.p (.ep [iV p1])),(3,.ptr 0 0),(10,.p (.sl false (p0.map Qaa))),(11,.p (iV (p0.length:Int))),(12,.p (iV v12)),(27,.p (.agg [.sl false (x3.L.map Qaa),.sl false (x3.Then.map Qaa),.sl false (x3.Else.map Qaa)])),(28,.p (iV v28)),(34,.fn (.func 125) [] [.p (.ep [.sl false (x7.1.map Qaa)]),.p (.ep [iV x7.2])])],⟨[[.yld Tryz.prog 0 gxs],[.p (iV x3.Kind),.p (sV x3.Name),.p (sV x3.Text),.p (iV x3.N),.p (.sl false (x3.L.map Qaa)),.p (.sl false (x3.Then.map Qaa)),.p (.sl false (x3.Else.map Qaa))]],[gq12.length]⟩⟩
def Qne:Code:=((Qaz (Tryz.f125.body.getD .skip)).getD 2 .skip)
def Qlz (p0:(List Qab)) (p1:Int) (v12:Int) (x3:Qab) (v28:Int) (gxs gp:List (List V)):St:=⟨[(2,.p (.ep [iV p1])),(3,.ptr 0 0),(10,.p (.sl false (p0.map Qaa))),(11,.p (iV (p0.length:Int))),(12,.p (iV v12)),(27,.p (.agg [.sl false (x3.L.map Qaa),.sl false (x3.Then.map Qaa),.sl false (x3.Else.map Qaa)])),(28,.p (iV v28))],⟨[[.yld Tryz.prog 0 gxs],[.p (iV x3.Kind),.p (sV x3.Name),.p (sV x3.Text),.p (iV x3.N),.p (.sl false (x3.L.map Qaa)),.p (.sl false (x3.Then.map Qaa)),.p (.sl false (x3.Else.map Qaa))]],[gp.length]⟩⟩
def Qq8 (p0:(List Qab)) (p1:Int) (v12:Int) (x3:Qab) (gxs:List (List V)) (gq4:List (List V)) (oy:Unit):St:=⟨[(2,.p (.ep [iV p1])),(3,.ptr 0 0),(10,.p (.sl false (p0.map Qaa))),(11,.p (iV (p0.length:Int))),(12,.p (iV v12))],⟨[[.yld Tryz.prog 0 gxs],[.p (iV x3.Kind),.p (sV x3.Name),.p (sV x3.Text),.p (iV x3.N),.p (.sl false (x3.L.map Qaa)),.p (.sl false (x3.Then.map Qaa)),.p (.sl false (x3.Else.map Qaa))]],[gq4.length]⟩⟩
def Q1u:Code:=((Qaz (Tryz.f125.body.getD .skip)).getD 1 .skip)
def Ql0 (p0:(List Qab)) (p1:Int) (v12:Int) (gxs gp:List (List V)):St:=⟨[(2,.p (.ep [iV p1])),(3,.ptr 0 0),(10,.p (.sl false (p0.map Qaa))),(11,.p (iV (p0.length:Int))),(12,.p (iV v12))],⟨[[.yld Tryz.prog 0 gxs]],[gp.length]⟩⟩
def Qq9 (p0:(List Qab)) (p1:Int) (gxs:List (List V)) (gq1:List (List V)) (oy:Unit):St:=⟨[],⟨[[.yld Tryz.prog 0 gxs]],[gq1.length]⟩⟩
def Q1v:Code:=((Qaz (Tryz.f125.body.getD .skip)).getD 0 .skip)
def Qgq (y:Bool):D :=.p (bV y)
def Qwv:List (Nat×List Nat):=[(0,[0,1]),(1,[0,1,8,9,10]),(2,[0,1,8,9,10,11]),(3,[0,1,5,6,8,9,10]),(4,[0,1,5,6,8,9,10,17]),(5,[4]),(6,[0,1,5,6,7,8,9,10]),(7,[0,1,8,9,10,50]),(8,[4]),(9,[0,1,8,9,10]),(10,[4]),(1000002,[0,1,8,9,10]),(3000007,[])]
def Q1w (p0:(List Qab)) (p1:Bool) (v10:Int) (x4:Qab) (o6:Bool):St:=⟨[(0,.p (.sl false (p0.map Qaa))),(1,.p (bV p1)),(8,.p (.sl false (p0.map Qaa))),(9,.p (iV (p0.length:Int))),(10,.p (iV v10)),(50,.p (bV o6))],⟨[[.p (iV x4.Kind),.p (sV x4.Name),.p (sV x4.Text),.p (iV x4.N),.p (.sl false (x4.L.map Qaa)),.p (.sl false (x4.Then.map Qaa)),.p (.sl false (x4.Else.map Qaa))]],[]⟩⟩
def Ql1 (p0:(List Qab)) (p1:Bool) (v10:Int):St:=⟨[(0,.p (.sl false (p0.map Qaa))),(1,.p (bV p1)),(8,.p (.sl false (p0.map Qaa))),(9,.p (iV (p0.length:Int))),(10,.p (iV v10))],⟨[],[]⟩⟩
def Qra (p0:(List Qab)) (p1:Bool) (y2:Unit):St:=⟨[],⟨[],[]⟩⟩
def Qrb (p0:(List Qab)) (p1:Bool) (y3:Unit):St:=⟨[(4,.p (bV false))],⟨[],[]⟩⟩
def Q1x:Code:=((Qaz (Tryz.f72.body.getD .skip)).getD 0 .skip)
def Qc8 (y:Bool):D :=.p (bV y)
def Qaba:List (Nat×List Nat):=[(0,[1]),(1,[1,3]),(2,[1,3,4]),(3,[1,3,4,11]),(4,[1,3,4,11,12]),(5,[3,6]),(6,[2]),(7,[1,3,4,11,28]),(8,[2]),(9,[1,3,4,11,35]),(10,[2]),(11,[1,3,4,11,48]),(12,[2]),(13,[1,3,4,11,58]),(14,[2]),(15,[1,3,4,11,68]),(16,[1,3,4]),(17,[2]),(18,[1,3,4,86]),(19,[1,3,4]),(20,[2]),(21,[2]),(3000006,[]),(3000010,[]),(3000012,[]),(3000014,[]),(3000017,[]),(3000020,[])]
def Q3w (p0:Qab) (x1:Qdr) (o3:Bool):St:=⟨[(2,.p (bV o3))],⟨[[.p (iV p0.Kind),.p (sV p0.Name),.p (sV p0.Text),.p (iV p0.N),.p (.sl false (p0.L.map Qaa)),.p (.sl false (p0.Then.map Qaa)),.p (.sl false (p0.Else.map Qaa))],[.p (bV x1.name_),.p (bV x1.text_),.p (bV x1.num_),.p (bV x1.then_),.p (bV x1.other_),.p (iV x1.l_)],[.p (bV true),.p (bV false),.p (bV false),.p (bV false),.p (bV false),.p (iV 0)]],[]⟩⟩
def Q3x (p0:Qab) (x1:Qdr) (o4:Bool):St:=⟨[(2,.p (bV o4))],⟨[[.p (iV p0.Kind),.p (sV p0.Name),.p (sV p0.Text),.p (iV p0.N),.p (.sl false (p0.L.map Qaa)),.p (.sl false (p0.Then.map Qaa)),.p (.sl false (p0.Else.map Qaa))],[.p (bV x1.name_),.p (bV x1.text_),.p (bV x1.num_),.p (bV x1.then_),.p (bV x1.other_),.p (iV x1.l_)],[.p (bV true),.p (bV false),.p (bV false),.p (bV false),.p (bV false),.p (iV 0)]],[]⟩⟩
def Q3y (p0:Qab) (x1:Qdr) (o5:Bool):St:=⟨[(2,.p (bV o5))],⟨[[.p (iV p0.Kind),.p (sV p0.Name),.p (sV p0.Text),.p (iV p0.N),.p (.sl false (p0.L.map Qaa)),.p (.sl false (p0.Then.map Qaa)),.p (.sl false (p0.Else.map Qaa))],[.p (bV x1.name_),.p (bV x1.text_),.p (bV x1.num_),.p (bV x1.then_),.p (bV x1.other_),.p (iV x1.l_)],[.p (bV true),.p (bV false),.p (bV false),.p (bV false),.p (bV false),.p (iV 0)]],[]⟩⟩
def Q3z (p0:Qab) (x1:Qdr) (o7:Bool):St:=⟨[(2,.p (bV o7))],⟨[[.p (iV p0.Kind),.p (sV p0.Name),.p (sV p0.Text),.p (iV p0.N),.p (.sl false (p0.L.map Qaa)),.p (.sl false (p0.Then.map Qaa)),.p (.sl false (p0.Else.map Qaa))],[.p (bV x1.name_),.p (bV x1.text_),.p (bV x1.num_),.p (bV x1.then_),.p (bV x1.other_),.p (iV x1.l_)],[.p (bV true),.p (bV false),.p (bV false),.p (bV false),.p (bV false),.p (iV 0)]],[]⟩⟩
def Q30 (p0:Qab) (x1:Qdr) (o9:Bool):St:=⟨[(2,.p (bV o9))],⟨[[.p (iV p0.Kind),.p (sV p0.Name),.p (sV p0.Text),.p (iV p0.N),.p (.sl false (p0.L.map Qaa)),.p (.sl false (p0.Then.map Qaa)),.p (.sl false (p0.Else.map Qaa))],[.p (bV x1.name_),.p (bV x1.text_),.p (bV x1.num_),.p (bV x1.then_),.p (bV x1.other_),.p (iV x1.l_)],[.p (bV true),.p (bV false),.p (bV false),.p (bV false),.p (bV false),.p (iV 1)]],[]⟩⟩
def Q31 (p0:Qab) (x1:Qdr) (o13:Bool):St:=⟨[(2,.p (bV o13))],⟨[[.p (iV p0.Kind),.p (sV p0.Name),.p (sV p0.Text),.p (iV p0.N),.p (.sl false (p0.L.map Qaa)),.p (.sl false (p0.Then.map Qaa)),.p (.sl false (p0.Else.map Qaa))],[.p (bV x1.name_),.p (bV x1.text_),.p (bV x1.num_),.p (bV x1.then_),.p (bV x1.other_),.p (iV x1.l_)],[.p (bV true),.p (bV false),.p (bV false),.p (bV false),.p (bV false),.p (iV (if 3<x1.l_ then 3 else x1.l_))]],[]⟩⟩
def Qqk (y:Bool):D :=.p (bV y)
def Q32:List (Nat×List Nat):=[(0,[1]),(1,[2])]
def Qk5 (y:Qdr):D :=.p (.agg [bV y.name_,bV y.text_,bV y.num_,bV y.then_,bV y.other_,iV y.l_])
def Q1y:List (Nat×List Nat):=[(0,[1,2]),(1,[2])]
def Qql (y:Bool):D :=.p (bV y)
def Qabb:List (Nat×List Nat):=[(0,[1]),(1,[1,3]),(2,[1,3,4]),(3,[1,3,4,10]),(4,[2]),(5,[1,3,4,10,11]),(6,[2]),(7,[1,3,4,10,22]),(8,[1,3,4,10,24]),(9,[1,3,4]),(10,[1,3,4,10,32]),(11,[1,3,4,10,32]),(12,[1,3,4]),(13,[1,3,4,42]),(14,[1,3,4]),(15,[1,3,4,5]),(16,[2]),(2003032,[]),(2010005,[]),(3000006,[]),(3000015,[]),(3000016,[]),(5000009,[1005,1007]),(5000012,[1006,1008]),(8000009,[2]),(8000012,[2])]
def Q33 (p0:Qab) (x1:Qdr) (y3:Bool×Bool×Bool):St:=⟨[(1,.ptr 0 0),(3,.ptr 1 0),(4,.ptr 2 0)],⟨[[.p (iV p0.Kind),.p (sV p0.Name),.p (sV p0.Text),.p (iV p0.N),.p (.sl false (p0.L.map Qaa)),.p (.sl false (p0.Then.map Qaa)),.p (.sl false (p0.Else.map Qaa))],[.p (bV x1.name_),.p (bV x1.text_),.p (bV x1.num_),.p (bV x1.then_),.p (bV x1.other_),.p (iV x1.l_)],[.p (bV y3.1),.p (bV false),.p (bV false),.p (bV y3.2.1),.p (bV y3.2.2),.p (iV 1)]],[]⟩⟩
def Q34 (p0:Qab) (x1:Qdr) (y4:Bool):St:=⟨[(2,.p (bV y4))],⟨[[.p (iV p0.Kind),.p (sV p0.Name),.p (sV p0.Text),.p (iV p0.N),.p (.sl false (p0.L.map Qaa)),.p (.sl false (p0.Then.map Qaa)),.p (.sl false (p0.Else.map Qaa))],[.p (bV x1.name_),.p (bV x1.text_),.p (bV x1.num_),.p (bV x1.then_),.p (bV x1.other_),.p (iV x1.l_)],[.p (bV false),.p (bV false),.p (bV false),.p (bV false),.p (bV false),.p (iV 1)]],[]⟩⟩
def Q35 (p0:Qab) (x1:Qdr) (o5:Bool):St:=⟨[(2,.p (bV o5))],⟨[[.p (iV p0.Kind),.p (sV p0.Name),.p (sV p0.Text),.p (iV p0.N),.p (.sl false (p0.L.map Qaa)),.p (.sl false (p0.Then.map Qaa)),.p (.sl false (p0.Else.map Qaa))],[.p (bV x1.name_),.p (bV x1.text_),.p (bV x1.num_),.p (bV x1.then_),.p (bV x1.other_),.p (iV x1.l_)],[.p (bV false),.p (bV false),.p (bV false),.p (bV false),.p (bV false),.p (iV 1)]],[]⟩⟩
def Q36 (p0:Qab) (x1:Qdr) (o7:Bool):St:=⟨[(1,.ptr 0 0),(3,.ptr 1 0),(4,.ptr 2 0),(10,.p (iV p0.Kind)),(32,.p (bV o7))],⟨[[.p (iV p0.Kind),.p (sV p0.Name),.p (sV p0.Text),.p (iV p0.N),.p (.sl false (p0.L.map Qaa)),.p (.sl false (p0.Then.map Qaa)),.p (.sl false (p0.Else.map Qaa))],[.p (bV x1.name_),.p (bV x1.text_),.p (bV x1.num_),.p (bV x1.then_),.p (bV x1.other_),.p (iV x1.l_)],[.p (bV false),.p (bV false),.p (bV false),.p (bV false),.p (bV false),.p (iV 1)]],[]⟩⟩
def Q37 (p0:Qab) (x1:Qdr) (y3:Bool×Bool×Bool) (o10:Bool):St:=⟨[(1,.ptr 0 0),(3,.ptr 1 0),(4,.ptr 2 0),(5,.p (bV o10))],⟨[[.p (iV p0.Kind),.p (sV p0.Name),.p (sV p0.Text),.p (iV p0.N),.p (.sl false (p0.L.map Qaa)),.p (.sl false (p0.Then.map Qaa)),.p (.sl false (p0.Else.map Qaa))],[.p (bV x1.name_),.p (bV x1.text_),.p (bV x1.num_),.p (bV x1.then_),.p (bV x1.other_),.p (iV x1.l_)],[.p (bV y3.1),.p (bV false),.p (bV false),.p (bV y3.2.1),.p (bV y3.2.2),.p (iV 1)]],[]⟩⟩
def Q38 (p0:Qab) (x1:Qdr) (y3:Bool×Bool×Bool) (o11:Bool):St:=⟨[(2,.p (bV o11))],⟨[[.p (iV p0.Kind),.p (sV p0.Name),.p (sV p0.Text),.p (iV p0.N),.p (.sl false (p0.L.map Qaa)),.p (.sl false (p0.Then.map Qaa)),.p (.sl false (p0.Else.map Qaa))],[.p (bV x1.name_),.p (bV x1.text_),.p (bV x1.num_),.p (bV x1.then_),.p (bV x1.other_),.p (iV x1.l_)],[.p (bV y3.1),.p (bV false),.p (bV false),.p (bV y3.2.1),.p (bV y3.2.2),.p (iV 1)]],[]⟩⟩
def Q0g (y:Bool):D :=.p (bV y)
def Q1z:List (Nat×List Nat):=[(0,[0,2,3,4]),(1,[2,3,4,6]),(2,[2,3,6,8]),(3,[2,3,4,6]),(4,[2,3,4,6,14]),(5,[2]),(6,[2]),(4000002,[2,3,4,6]),(3000004,[])]
def Qadu (x1:(List UInt8)) (x2:(Int×Int)) (o9:Bool):St:=⟨[(2,.ptr 0 0),(3,.p (nV .i32 x2.1)),(4,.p (iV x2.2)),(6,.fn (.func 185) [] [.p (.ep [sV x1])]),(14,.p (bV o9))],⟨[[.p (bV false)]],[]⟩⟩
def Qn5 (x1:(List UInt8)):St:=⟨[(2,.ptr 0 0),(6,.fn (.func 185) [] [.p (.ep [sV x1])])],⟨[[.p (bV false)]],[]⟩⟩
def Qyz (x1:(List UInt8)) (y7:Unit):St:=⟨[(2,.ptr 0 0),(6,.fn (.func 185) [] [.p (.ep [sV x1])])],⟨[[.p (bV false)]],[]⟩⟩
def Qy0 (x1:(List UInt8)) (y8:Unit):St:=⟨[(2,.ptr 0 0)],⟨[[.p (bV false)]],[]⟩⟩
def Qvt:Code:=((Qaz (Tryz.f168.body.getD .skip)).getD 0 .skip)
def Qmq (y:Int×Int):D :=.tup [.p (nV .i32 y.1),.p (iV y.2)]
def Qadv:List (Nat×List Nat):=[(0,[0,1]),(1,[0,1,17]),(2,[4,5]),(3,[0,1,6]),(4,[4,5]),(5,[0,1,6,21]),(6,[4,5]),(7,[0,1,6,26]),(8,[0,1,4,7,8]),(9,[0,1,6,36]),(10,[0,1,4,7,8]),(11,[0,1,6,46]),(12,[0,1,4,7,8]),(13,[4,7,8,9]),(14,[4,8,77]),(15,[4,5]),(16,[4,5]),(2004022,[]),(3000001,[]),(3000007,[]),(3000009,[]),(3000011,[]),(3000014,[])]
def Q7y (p0:(List UInt8)) (p1:Int) (o1:Bool):St:=⟨[(0,.p (sV p0)),(1,.p (iV p1)),(17,.p (bV o1))],⟨[],[]⟩⟩
def Q7z (p0:(List UInt8)) (p1:Int) (y4:Int×Int×Int):St:=⟨[(0,.p (sV p0)),(1,.p (iV p1)),(4,.p (nV .i32 y4.1)),(7,.p (nV .i32 y4.2.1)),(8,.p (iV y4.2.2))],⟨[],[]⟩⟩
def Q70 (p0:(List UInt8)) (p1:Int) (y5:Int):St:=⟨[(4,.p (nV .i32 y5)),(5,.p (iV 1))],⟨[],[]⟩⟩
def Q71 (p0:(List UInt8)) (p1:Int) (x2:UInt8) (o6:Bool):St:=⟨[(0,.p (sV p0)),(1,.p (iV p1)),(6,.p (nV .u8 (x2.toNat:Int))),(26,.p (bV o6))],⟨[],[]⟩⟩
def Q72 (p0:(List UInt8)) (p1:Int) (x2:UInt8) (o7:Bool):St:=⟨[(0,.p (sV p0)),(1,.p (iV p1)),(6,.p (nV .u8 (x2.toNat:Int))),(36,.p (bV o7))],⟨[],[]⟩⟩
def Q73 (p0:(List UInt8)) (p1:Int) (x2:UInt8) (o8:Bool):St:=⟨[(0,.p (sV p0)),(1,.p (iV p1)),(6,.p (nV .u8 (x2.toNat:Int))),(46,.p (bV o8))],⟨[],[]⟩⟩
def Q74 (y4:Int×Int×Int) (x10:Int×Bool) (o11:Bool):St:=⟨[(4,.p (nV .i32 x10.1)),(8,.p (iV y4.2.2)),(77,.p (bV o11))],⟨[],[]⟩⟩
def Q10 (y:(List UInt8)):D :=.fn (.func 185) [] [.p (.ep [sV y])]
def Qagt:List (Nat×List Nat):=[(0,[1]),(1,[2])]
def Qkk (y:(Int×Int)):List V:=[nV .i32 y.1,iV y.2]
def Qy1:List (Nat×List Nat):=[(0,[0,1,3]),(1,[0,1,3,9]),(2,[0,1,3,4,5]),(3,[0,1,3,5,20]),(4,[0,1,3]),(1000001,[0,1,3])]
def Qnf (p0:(List UInt8)) (v3:Int) (gxs gp:List (List V)):St:=⟨[(0,.yld Tryz.prog 0 gxs),(1,.p (.ep [sV p0])),(3,.p (iV v3))],⟨[],[gp.length]⟩⟩
def Qs4 (p0:(List UInt8)) (gxs:List (List V)) (gq1:List (List V)) (oy:Unit):St:=⟨[],⟨[],[gq1.length]⟩⟩
def Q39:Code:=((Qaz (Tryz.f185.body.getD .skip)).getD 0 .skip)
def Q75 (y:Bool):D :=.p (bV y)
def Qajb:List (Nat×List Nat):=[(0,[0]),(1,[2]),(3000001,[])]
def Qadw  (o1:Bool):St:=⟨[(2,.p (bV o1))],⟨[],[]⟩⟩
def Qpq (y:Int×Bool):D :=.tup [.p (nV .i32 y.1),.p (bV y.2)]
def Q11:List (Nat×List Nat):=[(0,[0,1,2]),(1,[0,1,2,12]),(2,[6,7]),(3,[0,1,13,14]),(4,[0,1,13,14,15]),(5,[0,1,8,13,14]),(6,[0,1,8,13,14,21]),(7,[6,7]),(8,[0,1,13,14]),(9,[0,1,13,14]),(10,[6,7]),(1000004,[0,1,13,14])]
def Qoy (p0:(List UInt8)) (p2:Int) (v1:Int) (v14:Int):St:=⟨[(0,.p (sV p0)),(1,.p (nV .i32 v1)),(13,.p (iV p2)),(14,.p (iV v14))],⟨[],[]⟩⟩
def Qvd (p0:(List UInt8)) (p2:Int) (y2:Int):St:=⟨[(1,.p (nV .i32 y2))],⟨[],[]⟩⟩
def Qve (p0:(List UInt8)) (p2:Int) (y3:Unit):St:=⟨[(6,.p (nV .i32 0)),(7,.p (bV false))],⟨[],[]⟩⟩
def Q76:Code:=((Qaz (Tryz.f187.body.getD .skip)).getD 0 .skip)
def Qe4 (p0:(List UInt8)) (p1:(List UInt8)) (p2:Int):Option (Bool) :=
 ( if(decide (p2 ≥ 0)) then
   if(decide (p2≤(p0.length:Int))) then
    if(decide ((p1.length:Int)≤(wr ((p0.length:Int)-p2)))) then
     cutL p0 p2 (wr (p2+(p1.length:Int)))>>=fun x2 =>
     some (x2==p1)
    else
     some false
   else
    some false
  else
   some false:Option (Bool))>>=fun o1 =>
 some o1
theorem Qmf:∀ (p0:(List UInt8)) (p1:(List UInt8)) (p2:Int) (o:Bool),Qe4 p0 p1 p2=some o→PCall Tryz.prog 141 [sV p0,sV p1,iV p2] (Qir o):=by
 intro p0 p1 p2 o h;unfold Qe4 at h;refine PCall.ofB mixed tbOk Q6x Tryz.func141 rfl (by kernel_rfl) (Nat.le_of_ble_eq_true rfl) ?_;refine Qaj h (fun o1 ho hk=>?_);refine Exists.intro (JP1 _ _ o1 .normal (Q1i )) (And.intro ?_ (Qa5 ?_))
 ·have h:=ho;refine Qac h (fun hb h=>?_) (fun hb h=>?_)
  ·refine vrfl ?_;refine Qac h (fun hb h=>?_) (fun hb h=>?_)
   ·refine vrfl ?_;refine vrfl ?_;refine Qac h (fun hb h=>?_) (fun hb h=>?_)
    ·refine vrfl ?_;refine Qi2 (some p2) (some (wr (p2+(p1.length:Int)))) h (fun x2 hi h=>?_);refine JP1.a h ?_;exact Le.tz 0 0 rfl rfl rfl
    ·refine JP1.a h ?_;exact Le.tz 0 0 rfl rfl rfl
   ·refine bF ?_;refine JP1.a h ?_;exact Le.tz 0 0 rfl rfl rfl
  ·refine bF ?_;refine bF ?_;refine JP1.a h ?_;exact Le.tz 0 0 rfl rfl rfl
 ·have h:=hk;refine Qar (t:=Qir) h ?_;exact .refl _
def Q12 (p0:(List (List UInt8))) (p1:(List (List UInt8))) (v5:Int):Option (Unit⊕Unit) :=
 if(decide (v5<(p0.length:Int))) then
  idx p0 v5>>=fun x4 =>
  idx p1 v5>>=fun x5 =>
  if(!(x4==x5)) then
   some (.inr ())
  else
   Q12 p0 p1 (wr (v5+1))
 else
  some (.inl ())
 partial_fixpoint
def Qap9 (p0:(List (List UInt8))) (p1:(List (List UInt8))):Option (Bool) :=
 if((p0.length:Int) != (p1.length:Int)) then
  some false
 else
  (Q12 p0 p1 0)>>=fun o1 =>
  match o1 with
  | .inl y2 =>
   some true
  | .inr y3 =>
   some false
def Qn6 (p0:Int):Option (Bool) :=
 ( if(decide (p0 ≥ 0)) then
   if(decide (p0≤1114111)) then
    if(decide (p0 ≥ 55296)) then
     some (!(decide (p0≤57343)))
    else
     some true
   else
    some false
  else
   some false:Option (Bool))>>=fun o1 =>
 some o1
theorem Q13:∀ (p0:Int) (o:Bool),Qn6 p0=some o→PCall Tryz.prog 180 [iV p0] (Qt3 o):=by
 intro p0 o h;unfold Qn6 at h;refine PCall.ofB mixed tbOk Qadn Tryz.func180 rfl (by kernel_rfl) (Nat.le_of_ble_eq_true rfl) ?_;refine Qaj h (fun o1 ho hk=>?_);refine Exists.intro (JP1 _ _ o1 .normal (Q63 )) (And.intro ?_ (Qa5 ?_))
 ·have h:=ho;refine Qac h (fun hb h=>?_) (fun hb h=>?_)
  ·refine Qac h (fun hb h=>?_) (fun hb h=>?_)
   ·refine Qac h (fun hb h=>?_) (fun hb h=>?_)
    ·refine JP1.a h ?_;exact Le.tz 0 0 rfl rfl rfl
    ·refine JP1.a h ?_;exact Le.tz 0 0 rfl rfl rfl
   ·refine JP1.a h ?_;exact Le.tz 0 0 rfl rfl rfl
  ·refine bF ?_;refine JP1.a h ?_;exact Le.tz 0 0 rfl rfl rfl
 ·have h:=hk;refine Qar (t:=Qt3) h ?_;exact .refl _
def Qng (p0:Int):Option ((List UInt8)) :=
 ( Qn6 p0>>=fun x2 =>
  if(!x2) then
   some 65533
  else
   some p0:Option (Int))>>=fun o1 =>
 if(decide (o1<128)) then
  b2s [(IntKind.u8.wrap o1)]>>=fun x3 =>
  some x3
 else
  if(decide (o1<2048)) then
   b2s [(IntKind.u8.wrap (wr (192+(wr (o1.tdiv 64))))),(IntKind.u8.wrap (wr (128+(o1.tmod 64))))]>>=fun x4 =>
   some x4
  else
   if(decide (o1<65536)) then
    b2s [(IntKind.u8.wrap (wr (224+(wr (o1.tdiv 4096))))),(IntKind.u8.wrap (wr (128+((wr (o1.tdiv 64)).tmod 64)))),(IntKind.u8.wrap (wr (128+(o1.tmod 64))))]>>=fun x5 =>
    some x5
   else
    b2s [(IntKind.u8.wrap (wr (240+(wr (o1.tdiv 262144))))),(IntKind.u8.wrap (wr (128+((wr (o1.tdiv 4096)).tmod 64)))),(IntKind.u8.wrap (wr (128+((wr (o1.tdiv 64)).tmod 64)))),(IntKind.u8.wrap (wr (128+(o1.tmod 64))))]>>=fun x6 =>
    some x6
theorem Qabc:∀ (p0:Int) (o:(List UInt8)),Qng p0=some o→PCall Tryz.prog 181 [iV p0] (Qkb o):=by
 intro p0 o h;unfold Qng at h;refine PCall.ofB mixed tbOk Qaa1 Tryz.func181 rfl (by kernel_rfl) (Nat.le_of_ble_eq_true rfl) ?_;refine Qaj h (fun o1 ho hk=>?_);refine Exists.intro (JP1 _ _ o1 .normal (Q29 )) (And.intro ?_ (Qa5 ?_))
 ·have h:=ho;refine Qam [iV p0] Qt3 h (fun x2 hy=>(Q13 p0 x2 hy)) (fun x2 hy h=>?_);refine Qac h (fun hb h=>?_) (fun hb h=>?_)
  ·refine JP1.a h ?_;exact Le.tz 0 0 rfl rfl rfl
  ·refine JP1.a h ?_;exact Le.tz 0 0 rfl rfl rfl
 ·have h:=hk;refine Qac h (fun hb h=>?_) (fun hb h=>?_)
  ·refine vrfl ?_;refine Qaav (l:=[(IntKind.u8.wrap o1)]) h (fun x3 hi h=>?_);refine Qar (t:=Qkb) h ?_;exact .refl _
  ·refine Qac h (fun hb h=>?_) (fun hb h=>?_)
   ·refine And.intro (by decide) ?_;refine vrfl ?_;refine And.intro (by decide) ?_;refine vrfl ?_;refine Qaav (l:=[(IntKind.u8.wrap (wr (192+(wr (o1.tdiv 64))))),(IntKind.u8.wrap (wr (128+(o1.tmod 64))))]) h (fun x4 hi h=>?_);refine Qar (t:=Qkb) h ?_;exact .refl _
   ·refine Qac h (fun hb h=>?_) (fun hb h=>?_)
    ·refine And.intro (by decide) ?_;refine vrfl ?_;refine And.intro (by decide) ?_;refine And.intro (by decide) ?_;refine vrfl ?_;refine And.intro (by decide) ?_;refine vrfl ?_;refine Qaav (l:=[(IntKind.u8.wrap (wr (224+(wr (o1.tdiv 4096))))),(IntKind.u8.wrap (wr (128+((wr (o1.tdiv 64)).tmod 64)))),(IntKind.u8.wrap (wr (128+(o1.tmod 64))))]) h (fun x5 hi h=>?_);refine Qar (t:=Qkb) h ?_;exact .refl _
    ·refine And.intro (by decide) ?_;refine vrfl ?_;refine And.intro (by decide) ?_;refine And.intro (by decide) ?_;refine vrfl ?_;refine And.intro (by decide) ?_;refine And.intro (by decide) ?_;refine vrfl ?_;refine And.intro (by decide) ?_;refine vrfl ?_;refine Qaav (l:=[(IntKind.u8.wrap (wr (240+(wr (o1.tdiv 262144))))),(IntKind.u8.wrap (wr (128+((wr (o1.tdiv 4096)).tmod 64)))),(IntKind.u8.wrap (wr (128+((wr (o1.tdiv 64)).tmod 64)))),(IntKind.u8.wrap (wr (128+(o1.tmod 64))))]) h (fun x6 hi h=>?_);refine Qar (t:=Qkb) h ?_;exact .refl _
def Qer (p0:(List UInt8)) (p1:Int) (v6:(List Int)) (v7:Int) (v8:Int) (v9:Int):Option (Int) :=
 if(decide (v9<v7)) then
  idx p0 (wr (p1+v9))>>=fun x9 =>
  Qer p0 p1 v6 v7 (wr ((wr ((wr (64*v8))+(wr (x9.toNat:Int))))-128)) (wr (v9+1))
 else
  some v8
 partial_fixpoint
theorem Qajc:∀ (p0:(List UInt8)) (p1:Int) (v6:(List Int)) (v7:Int),(∀ (v8:Int) (v9:Int) (o8:Int),Qer p0 p1 v6 v7 v8 v9=some o8→TL (0,0) Tryz.prog 74 Q60 (JP1 (0,0) 74 o8 (.exit 2) (Qux p0 p1 v6 v7)) (Qom p0 p1 v6 v7 v8 v9)):=by
 intro p0 p1 v6 v7;refine Qer.partial_correctness p0 p1 v6 v7 _ ?_;intro Qer' iQer v8 v9 o8 h;refine TL.round (Qaq mixed tbOk (lv:=Qvo) _ _ _ ?_);refine Qac h (fun hb h=>?_) (fun hb h=>?_)
 ·refine Qdg h (fun x9 hi h=>?_);refine vrfl ?_;refine TL.le (τ := Qom p0 p1 v6 v7 (wr ((wr ((wr (64*v8))+(wr (x9.toNat:Int))))-128)) (wr (v9+1))) ?_ ((iQer (wr ((wr ((wr (64*v8))+(wr (x9.toNat:Int))))-128)) (wr (v9+1)) _ h));exact Le.tz 0 0 rfl rfl rfl
 ·exact JP1.a h (Le.tz 0 0 rfl rfl rfl)
def Qc9 (p0:(List UInt8)) (p1:Int) (v6:(List Int)) (v7:Int):Option (Unit⊕(Int×Int)) :=
 ( if(decide (v7≤4)) then
   some (decide (v7≤(wr ((p0.length:Int)-p1))))
  else
   some false:Option (Bool))>>=fun o5 =>
 if o5 then
  idx p0 p1>>=fun x6 =>
  idx v6 v7>>=fun x7 =>
  (Qer p0 p1 v6 v7 (wr ((wr (x6.toNat:Int))-x7)) 1)>>=fun o8 =>
  ( if(decide (o8 ≥ 0)) then
    Qn6 o8>>=fun x11 =>
    if x11 then
     Qng o8>>=fun x12 =>
     cutL p0 p1 (wr (p1+v7))>>=fun x13 =>
     some (x12==x13)
    else
     some false
   else
    some false:Option (Bool))>>=fun o10 =>
  if o10 then
   some (.inr (o8,v7))
  else
   Qc9 p0 p1 v6 (wr (v7+1))
 else
  some (.inl ())
 partial_fixpoint
theorem Qajd:∀ (p0:(List UInt8)) (p1:Int) (v6:(List Int)),(∀ (v7:Int) (o2:Unit⊕(Int×Int)),Qc9 p0 p1 v6 v7=some o2→TL (0,0) Tryz.prog 74 Q62 (JP2 (0,0) 74 o2 (.exit 0) (Quy p0 p1) .ret (Quz p0 p1)) (Qon p0 p1 v6 v7)):=by
 intro p0 p1 v6;refine Qc9.partial_correctness p0 p1 v6 _ ?_;intro Qc9' iQc9 v7 o2 h;refine TL.round (Qaq mixed tbOk (lv:=Qvo) _ _ _ ?_);refine Qaj h (fun o5 ho hk=>?_);refine Exists.intro (JP1 _ _ o5 .normal (Q6z p0 p1 v6 v7)) (And.intro ?_ (Qa5 ?_))
 ·have h:=ho;refine Qac h (fun hb h=>?_) (fun hb h=>?_)
  ·refine vrfl ?_;refine JP1.a h ?_;exact Le.tz 0 0 rfl rfl rfl
  ·refine JP1.a h ?_;exact Le.tz 0 0 rfl rfl rfl
 ·have h:=hk;refine Qac h (fun hb h=>?_) (fun hb h=>?_)
  ·refine And.intro (by decide +kernel) (And.intro rfl ?_);refine Qdg h (fun x6 hi h=>?_);refine vrfl ?_;refine Qa7 (l:=v6) (c:=cInt) (c' := cInt) h (fun _=>rfl) (fun _=>rfl) (by decide) (fun x7 hi h=>?_);refine Qaj h (fun o8 ho hk=>?_);refine Exists.intro (JP1 _ _ o8 (.exit 2) (Qux p0 p1 v6 v7)) (And.intro (Qhn (τ := Qom p0 p1 v6 v7 (wr ((wr (x6.toNat:Int))-x7)) 1) ?_ (TL.loop (Qajc p0 p1 v6 v7 (wr ((wr (x6.toNat:Int))-x7)) 1 o8 ho))) (Qa5 ?_))
   ·exact Le.tz 0 0 rfl rfl rfl
   have h:=hk;refine Qaj h (fun o10 ho hk=>?_);refine Exists.intro (JP1 _ _ o10 .normal (Q61 p0 p1 v6 v7 o8)) (And.intro ?_ (Qa5 ?_))
   ·have h:=ho;refine And.intro (by decide +kernel) (And.intro rfl ?_);refine Qac h (fun hb h=>?_) (fun hb h=>?_)
    ·refine Qdm [iV o8] Qt3 h (fun x11 hy=>(Q13 o8 x11 hy)) (fun x11 hy h=>?_);refine Qac h (fun hb h=>?_) (fun hb h=>?_)
     ·refine Qdm [iV o8] Qkb h (fun x12 hy=>(Qabc o8 x12 hy)) (fun x12 hy h=>?_);refine Qi2 (some p1) (some (wr (p1+v7))) h (fun x13 hi h=>?_);refine JP1.a h ?_;exact Le.tz 0 0 rfl rfl rfl
     ·refine JP1.a h ?_;exact Le.tz 0 0 rfl rfl rfl
    ·refine bF ?_;refine JP1.a h ?_;exact Le.tz 0 0 rfl rfl rfl
   ·have h:=hk;refine Qac h (fun hb h=>?_) (fun hb h=>?_)
    ·exact JP2.b h (Le.tz 0 0 rfl rfl rfl)
    ·refine TL.le (τ := Qon p0 p1 v6 (wr (v7+1))) ?_ ((iQc9 (wr (v7+1)) _ h));exact Le.tz 0 0 rfl rfl rfl
  ·exact JP2.a h (Le.tz 0 0 rfl rfl rfl)
def Qmg (p0:(List UInt8)) (p1:Int):Option (Int×Int) :=
 ( if(decide (p1<0)) then
   some true
  else
   some (decide (p1 ≥ (p0.length:Int))):Option (Bool))>>=fun o1 =>
 if o1 then
  some (0,0)
 else
  (Qc9 p0 p1 [0,0,192,224,240] 1)>>=fun o2 =>
  match o2 with
  | .inl y3 =>
   some (65533,1)
  | .inr y4 =>
   some (y4.1,y4.2)
theorem Q14:∀ (p0:(List UInt8)) (p1:Int) (o:Int×Int),Qmg p0 p1=some o→PCall Tryz.prog 171 [sV p0,iV p1] (Qmo o):=by
 intro p0 p1 o h;unfold Qmg at h;refine PCall.ofB mixed tbOk Qvo Tryz.func171 rfl (by kernel_rfl) (Nat.le_of_ble_eq_true rfl) ?_;refine Qaj h (fun o1 ho hk=>?_);refine Exists.intro (JP1 _ _ o1 .normal (Q6y p0 p1)) (And.intro ?_ (Qa5 ?_))
 ·have h:=ho;refine Qac h (fun hb h=>?_) (fun hb h=>?_)
  ·refine JP1.a h ?_;exact Le.tz 0 0 rfl rfl rfl
  ·refine vrfl ?_;refine JP1.a h ?_;exact Le.tz 0 0 rfl rfl rfl
 ·have h:=hk;refine Qac h (fun hb h=>?_) (fun hb h=>?_)
  ·refine Qar (t:=Qmo) h ?_;exact .refl _
  ·refine Qaj h (fun o2 ho hk=>?_);refine Exists.intro (JP2 _ _ o2 (.exit 0) (Quy p0 p1) .ret (Quz p0 p1)) (And.intro (Qhn (τ := Qon p0 p1 [0,0,192,224,240] 1) ?_ (TL.loop (Qajd p0 p1 [0,0,192,224,240] 1 o2 ho))) (Qfx (fun y3 hy=>?_) (fun y4 hy=>?_)))
   ·exact Le.tz 0 0 rfl rfl rfl
   ·have h:=(by rw[hy] at hk; exact hk);refine Qar (t:=Qmo) h ?_;exact .refl _
   ·have h:=(by rw[hy] at hk; exact hk);refine Qar (t:=Qmo) h ?_;exact .refl _
def Qlg (p0:(List UInt8)) (v3:Int):Option (Unit⊕Unit) :=
 if(decide (v3<(p0.length:Int))) then
  Qmg p0 v3>>=fun x4 =>
  ( if(x4.1==65533) then
    some (x4.2==1)
   else
    some false:Option (Bool))>>=fun o5 =>
  if o5 then
   some (.inr ())
  else
   Qlg p0 (wr (v3+x4.2))
 else
  some (.inl ())
 partial_fixpoint
theorem Qalp:∀ (p0:(List UInt8)),(∀ (v3:Int) (o1:Unit⊕Unit),Qlg p0 v3=some o1→TL (0,0) Tryz.prog 25 Qadm (JP2 (0,0) 25 o1 (.exit 0) (Qyq p0) .ret (Qyr p0)) (Qsa p0 v3)):=by
 intro p0;refine Qlg.partial_correctness p0 _ ?_;intro Qlg' iQlg v3 o1 h;refine TL.round (Qaq mixed tbOk (lv:=Qaa2) _ _ _ ?_);refine vrfl ?_;refine Qac h (fun hb h=>?_) (fun hb h=>?_)
 ·refine Qam [sV p0,iV v3] Qmo h (fun x4 hy=>(Q14 p0 v3 x4 hy)) (fun x4 hy h=>?_);refine Qaj h (fun o5 ho hk=>?_);refine Exists.intro (JP1 _ _ o5 .normal (Qadl p0 v3 x4)) (And.intro ?_ (Qa5 ?_))
  ·have h:=ho;refine Qac h (fun hb h=>?_) (fun hb h=>?_)
   ·refine JP1.a h ?_;exact Le.tz 0 0 rfl rfl rfl
   ·refine JP1.a h ?_;exact Le.tz 0 0 rfl rfl rfl
  ·have h:=hk;refine Qac h (fun hb h=>?_) (fun hb h=>?_)
   ·exact JP2.b h (Le.tz 0 0 rfl rfl rfl)
   ·refine TL.le (τ := Qsa p0 (wr (v3+x4.2))) ?_ ((iQlg (wr (v3+x4.2)) _ h));exact Le.tz 0 0 rfl rfl rfl
 ·exact JP2.a h (Le.tz 0 0 rfl rfl rfl)
def Qabd (p0:(List UInt8)):Option (Bool) :=
 (Qlg p0 0)>>=fun o1 =>
 match o1 with
 | .inl y2 =>
  some true
 | .inr y3 =>
  some false
theorem Qaje:∀ (p0:(List UInt8)) (o:Bool),Qabd p0=some o→PCall Tryz.prog 179 [sV p0] (Q0f o):=by
 intro p0 o h;unfold Qabd at h;refine PCall.ofB mixed tbOk Qaa2 Tryz.func179 rfl (by kernel_rfl) (Nat.le_of_ble_eq_true rfl) ?_;refine Qaj h (fun o1 ho hk=>?_);refine Exists.intro (JP2 _ _ o1 (.exit 0) (Qyq p0) .ret (Qyr p0)) (And.intro (Qhn (τ := Qsa p0 0) ?_ (TL.loop (Qalp p0 0 o1 ho))) (Qfx (fun y2 hy=>?_) (fun y3 hy=>?_)))
 ·exact Le.tz 0 0 rfl rfl rfl
 ·have h:=(by rw[hy] at hk; exact hk);refine Qar (t:=Q0f) h ?_;exact .refl _
 ·have h:=(by rw[hy] at hk; exact hk);refine Qar (t:=Q0f) h ?_;exact .refl _
def Qfb (p0:(List UInt8)) (v4:(List UInt8)) (v5:Int):Option ((List UInt8)⊕Unit) :=
 if(decide (v5<(p0.length:Int))) then
  cutL p0 v5 (wr (v5+1))>>=fun x5 =>
  if(x5==[13]) then
   some (.inr ())
  else
   ( if(x5==[10]) then
     some [92,110]
    else
     if(x5==[9]) then
      some [92,116]
     else
      ( if(x5==[34]) then
        some true
       else
        some (x5==[92]):Option (Bool))>>=fun o7 =>
      if o7 then
       need ([92].length+x5.length≤9223372036854775807)>>=fun _ =>
       some ([92]++x5)
      else
       some x5:Option ((List UInt8)))>>=fun o6 =>
   need (v4.length+o6.length≤9223372036854775807)>>=fun _ =>
   Qfb p0 (v4++o6) (wr (v5+1))
 else
  some (.inl v4)
 partial_fixpoint
theorem Qahc:∀ (p0:(List UInt8)),(∀ (v4:(List UInt8)) (v5:Int) (o2:(List UInt8)⊕Unit),Qfb p0 v4 v5=some o2→TL (0,0) Tryz.prog 40 Q3c (JP2 (0,0) 40 o2 (.exit 0) (Qsb p0) .ret (Qsc p0)) (Qm2 p0 v4 v5)):=by
 intro p0;refine Qfb.partial_correctness p0 _ ?_;intro Qfb' iQfb v4 v5 o2 h;refine TL.round (Qaq mixed tbOk (lv:=Qys) _ _ _ ?_);refine vrfl ?_;refine Qac h (fun hb h=>?_) (fun hb h=>?_)
 ·refine Qi2 (some v5) (some (wr (v5+1))) h (fun x5 hi h=>?_);refine Qac h (fun hb h=>?_) (fun hb h=>?_)
  ·exact JP2.b h (Le.tz 0 0 rfl rfl rfl)
  ·refine Qaj h (fun o6 ho hk=>?_);refine Exists.intro (JP1 _ _ o6 .normal (Q3a p0 v4 v5)) (And.intro ?_ (Qa5 ?_))
   ·have h:=ho;refine Qac h (fun hb h=>?_) (fun hb h=>?_)
    ·refine JP1.a h ?_;exact Le.tz 0 0 rfl rfl rfl
    ·refine Qac h (fun hb h=>?_) (fun hb h=>?_)
     ·refine JP1.a h ?_;exact Le.tz 0 0 rfl rfl rfl
     ·refine Qaj h (fun o7 ho hk=>?_);refine Exists.intro (JP1 _ _ o7 .normal (Q3b p0 v4 v5 x5)) (And.intro ?_ (Qa5 ?_))
      ·have h:=ho;refine Qac h (fun hb h=>?_) (fun hb h=>?_)
       ·refine JP1.a h ?_;exact Le.tz 0 0 rfl rfl rfl
       ·refine JP1.a h ?_;exact Le.tz 0 0 rfl rfl rfl
      ·have h:=hk;refine Qac h (fun hb h=>?_) (fun hb h=>?_)
       ·refine Qr6 h (fun h=>?_);refine JP1.a h ?_;exact Le.tz 0 0 rfl rfl rfl
       ·refine JP1.a h ?_;exact Le.tz 0 0 rfl rfl rfl
   ·have h:=hk;refine Qr6 h (fun h=>?_);refine TL.le (τ := Qm2 p0 (v4++o6) (wr (v5+1))) ?_ ((iQfb (v4++o6) (wr (v5+1)) _ h));exact Le.tz 0 0 rfl rfl rfl
 ·exact JP2.a h (Le.tz 0 0 rfl rfl rfl)
def Qnh (p0:(List UInt8)):Option ((List UInt8)×Bool) :=
 Qabd p0>>=fun x1 =>
 if(!x1) then
  some ([],false)
 else
  (Qfb p0 [34] 0)>>=fun o2 =>
  match o2 with
  | .inl y3 =>
   need (y3.length+[34].length≤9223372036854775807)>>=fun _ =>
   some ((y3++[34]),true)
  | .inr y4 =>
   some ([],false)
theorem Qabe:∀ (p0:(List UInt8)) (o:(List UInt8)×Bool),Qnh p0=some o→PCall Tryz.prog 170 [sV p0] (Qm1 o):=by
 intro p0 o h;unfold Qnh at h;refine PCall.ofB mixed tbOk Qys Tryz.func170 rfl (by kernel_rfl) (Nat.le_of_ble_eq_true rfl) ?_;refine Qam [sV p0] Q0f h (fun x1 hy=>(Qaje p0 x1 hy)) (fun x1 hy h=>?_);refine Qac h (fun hb h=>?_) (fun hb h=>?_)
 ·refine Qar (t:=Qm1) h ?_;exact .refl _
 ·refine Qaj h (fun o2 ho hk=>?_);refine Exists.intro (JP2 _ _ o2 (.exit 0) (Qsb p0) .ret (Qsc p0)) (And.intro (Qhn (τ := Qm2 p0 [34] 0) ?_ (TL.loop (Qahc p0 [34] 0 o2 ho))) (Qfx (fun y3 hy=>?_) (fun y4 hy=>?_)))
  ·exact Le.tz 0 0 rfl rfl rfl
  ·have h:=(by rw[hy] at hk; exact hk);refine Qr6 h (fun h=>?_);refine Qar (t:=Qm1) h ?_;exact .refl _
  ·have h:=(by rw[hy] at hk; exact hk);refine Qar (t:=Qm1) h ?_;exact .refl _
def Qfz (p0:Int):Option (Bool) :=
 ( if(decide (p0 ≥ 48)) then
   some (decide (p0≤57))
  else
   some false:Option (Bool))>>=fun o1 =>
 some o1
theorem Qn7:∀ (p0:Int) (o:Bool),Qfz p0=some o→PCall Tryz.prog 102 [nV .u8 p0] (Qkc o):=by
 intro p0 o h;unfold Qfz at h;refine PCall.ofB mixed tbOk Qaa3 Tryz.func102 rfl (by kernel_rfl) (Nat.le_of_ble_eq_true rfl) ?_;refine Qaj h (fun o1 ho hk=>?_);refine Exists.intro (JP1 _ _ o1 .normal (Q3d )) (And.intro ?_ (Qa5 ?_))
 ·have h:=ho;refine Qac h (fun hb h=>?_) (fun hb h=>?_)
  ·refine JP1.a h ?_;exact Le.tz 0 0 rfl rfl rfl
  ·refine JP1.a h ?_;exact Le.tz 0 0 rfl rfl rfl
 ·have h:=hk;refine Qar (t:=Qkc) h ?_;exact .refl _
def Qf0 (p0:Int):Option (Bool) :=
 ( if(decide (p0 ≥ 97)) then
   some (decide (p0≤122))
  else
   some false:Option (Bool))>>=fun o1 =>
 some o1
theorem Qn8:∀ (p0:Int) (o:Bool),Qf0 p0=some o→PCall Tryz.prog 101 [nV .u8 p0] (Qkd o):=by
 intro p0 o h;unfold Qf0 at h;refine PCall.ofB mixed tbOk Qaa4 Tryz.func101 rfl (by kernel_rfl) (Nat.le_of_ble_eq_true rfl) ?_;refine Qaj h (fun o1 ho hk=>?_);refine Exists.intro (JP1 _ _ o1 .normal (Q3e )) (And.intro ?_ (Qa5 ?_))
 ·have h:=ho;refine Qac h (fun hb h=>?_) (fun hb h=>?_)
  ·refine JP1.a h ?_;exact Le.tz 0 0 rfl rfl rfl
  ·refine JP1.a h ?_;exact Le.tz 0 0 rfl rfl rfl
 ·have h:=hk;refine Qar (t:=Qkd) h ?_;exact .refl _
def Qes (p0:(List UInt8)) (v3:Int):Option (Unit⊕Unit) :=
 if(decide (v3<(p0.length:Int))) then
  ( idx p0 v3>>=fun x8 =>
   Qf0 (x8.toNat:Int)>>=fun x9 =>
   if(!x9) then
    idx p0 v3>>=fun x10 =>
    Qfz (x10.toNat:Int)>>=fun x11 =>
    if(!x11) then
     idx p0 v3>>=fun x12 =>
     some ((x12.toNat:Int) != 95)
    else
     some false
   else
    some false:Option (Bool))>>=fun o7 =>
  if o7 then
   some (.inr ())
  else
   Qes p0 (wr (v3+1))
 else
  some (.inl ())
 partial_fixpoint
theorem Qajf:∀ (p0:(List UInt8)),(∀ (v3:Int) (o4:Unit⊕Unit),Qes p0 v3=some o4→TL (0,0) Tryz.prog 42 Q66 (JP2 (0,0) 42 o4 (.exit 0) (Qu0 p0) .ret (Qu1 p0)) (Qoo p0 v3)):=by
 intro p0;refine Qes.partial_correctness p0 _ ?_;intro Qes' iQes v3 o4 h;refine TL.round (Qaq mixed tbOk (lv:=Q1j) _ _ _ ?_);refine vrfl ?_;refine Qac h (fun hb h=>?_) (fun hb h=>?_)
 ·refine Qaj h (fun o7 ho hk=>?_);refine Exists.intro (JP1 _ _ o7 .normal (Q65 p0 v3)) (And.intro ?_ (Qa5 ?_))
  ·have h:=ho;refine Qdg h (fun x8 hi h=>?_);refine Qam [nV .u8 (x8.toNat:Int)] Qkd h (fun x9 hy=>(Qn8 (x8.toNat:Int) x9 hy)) (fun x9 hy h=>?_);refine Qac h (fun hb h=>?_) (fun hb h=>?_)
   ·refine Qdg h (fun x10 hi h=>?_);refine Qam [nV .u8 (x10.toNat:Int)] Qkc h (fun x11 hy=>(Qn7 (x10.toNat:Int) x11 hy)) (fun x11 hy h=>?_);refine Qac h (fun hb h=>?_) (fun hb h=>?_)
    ·refine Qdg h (fun x12 hi h=>?_);refine JP1.a h ?_;exact Le.tz 0 0 rfl rfl rfl
    ·refine JP1.a h ?_;exact Le.tz 0 0 rfl rfl rfl
   ·refine bF ?_;refine JP1.a h ?_;exact Le.tz 0 0 rfl rfl rfl
  ·have h:=hk;refine Qac h (fun hb h=>?_) (fun hb h=>?_)
   ·exact JP2.b h (Le.tz 0 0 rfl rfl rfl)
   ·refine TL.le (τ := Qoo p0 (wr (v3+1))) ?_ ((iQes (wr (v3+1)) _ h));exact Le.tz 0 0 rfl rfl rfl
 ·exact JP2.a h (Le.tz 0 0 rfl rfl rfl)
def Qh6 (p0:(List UInt8)):Option (Bool) :=
 ( if(decide ((p0.length:Int)<1)) then
   some true
  else
   if(decide ((p0.length:Int)>32)) then
    some true
   else
    idx p0 0>>=fun x2 =>
    Qf0 (x2.toNat:Int)>>=fun x3 =>
    some (!x3):Option (Bool))>>=fun o1 =>
 if o1 then
  some false
 else
  (Qes p0 0)>>=fun o4 =>
  match o4 with
  | .inl y5 =>
   some true
  | .inr y6 =>
   some false
theorem Qni:∀ (p0:(List UInt8)) (o:Bool),Qh6 p0=some o→PCall Tryz.prog 77 [sV p0] (Qhf o):=by
 intro p0 o h;unfold Qh6 at h;refine PCall.ofB mixed tbOk Q1j Tryz.func77 rfl (by kernel_rfl) (Nat.le_of_ble_eq_true rfl) ?_;refine Qaj h (fun o1 ho hk=>?_);refine Exists.intro (JP1 _ _ o1 .normal (Q64 p0)) (And.intro ?_ (Qa5 ?_))
 ·have h:=ho;refine vrfl ?_;refine Qac h (fun hb h=>?_) (fun hb h=>?_)
  ·refine bT ?_;refine JP1.a h ?_;exact Le.tz 0 0 rfl rfl rfl
  ·refine vrfl ?_;refine Qac h (fun hb h=>?_) (fun hb h=>?_)
   ·refine JP1.a h ?_;exact Le.tz 0 0 rfl rfl rfl
   ·refine Qdg h (fun x2 hi h=>?_);refine Qam [nV .u8 (x2.toNat:Int)] Qkd h (fun x3 hy=>(Qn8 (x2.toNat:Int) x3 hy)) (fun x3 hy h=>?_);refine JP1.a h ?_;exact Le.tz 0 0 rfl rfl rfl
 ·have h:=hk;refine Qac h (fun hb h=>?_) (fun hb h=>?_)
  ·refine Qar (t:=Qhf) h ?_;exact .refl _
  ·refine Qaj h (fun o4 ho hk=>?_);refine Exists.intro (JP2 _ _ o4 (.exit 0) (Qu0 p0) .ret (Qu1 p0)) (And.intro (Qhn (τ := Qoo p0 0) ?_ (TL.loop (Qajf p0 0 o4 ho))) (Qfx (fun y5 hy=>?_) (fun y6 hy=>?_)))
   ·exact Le.tz 0 0 rfl rfl rfl
   ·have h:=(by rw[hy] at hk; exact hk);refine Qar (t:=Qhf) h ?_;exact .refl _
   ·have h:=(by rw[hy] at hk; exact hk);refine Qar (t:=Qhf) h ?_;exact .refl _
mutual
def Qd5 (p0:(List Qab)):Option (Int) :=
 (Qek p0 0 0)>>=fun o1 =>
 some o1
 partial_fixpoint
def Qek (p0:(List Qab)) (v3:Int) (v4:Int):Option (Int) :=
 if(decide (v4<(p0.length:Int))) then
  idx p0 v4>>=fun x2 =>
  Qd5 x2.L>>=fun x3 =>
  idx p0 v4>>=fun x4 =>
  Qd5 x4.Then>>=fun x5 =>
  idx p0 v4>>=fun x6 =>
  Qd5 x6.Else>>=fun x7 =>
  Qek p0 (wr ((wr ((wr ((wr (v3+1))+x3))+x5))+x7)) (wr (v4+1))
 else
  some v3
 partial_fixpoint
end
theorem Q77:(∀ (p0:(List Qab)) (o:Int),Qd5 p0=some o→PCall Tryz.prog 80 [.sl false (p0.map Qaa)] (Qgl o))∧(∀ (p0:(List Qab)) (v3:Int) (v4:Int) (o1:Int),Qek p0 v3 v4=some o1→TL (0,0) Tryz.prog 35 Q3f (JP1 (0,0) 35 o1 (.exit 0) (Qsd p0)) (Qm3 p0 v3 v4)):=by
 refine Qd5.mutual_partial_correctness _ _ ?_ ?_
 ·intro Qek' iQek p0 o h;refine PCall.ofB mixed tbOk Qyt Tryz.func80 rfl (by kernel_rfl) (Nat.le_of_ble_eq_true rfl) ?_;refine Qaj h (fun o1 ho hk=>?_);refine Exists.intro (JP1 _ _ o1 (.exit 0) (Qsd p0)) (And.intro (Qhn (τ := Qm3 p0 0 0) ?_ (TL.loop (iQek p0 0 0 o1 ho))) (Qa5 ?_))
  ·exact Le.tz 0 0 rfl rfl rfl
  have h:=hk;refine Qar (t:=Qgl) h ?_;exact .refl _
 ·intro Qd5' Qek' iQd5 iQek p0 v3 v4 o1 h;refine TL.round (Qaq mixed tbOk (lv:=Qyt) _ _ _ ?_);refine view (Qax _ _) rfl ?_;refine Qac h (fun hb h=>?_) (fun hb h=>?_)
  ·refine And.intro (by decide +kernel) (And.intro rfl ?_);refine Qa7 (l:=p0) (c:=Qaa) (c' := Qa2) h Qan (fun _=>rfl) (by decide) (fun x2 hi h=>?_);refine Qdm [.sl false (x2.L.map Qaa)] Qgl h (fun x3 hy=>(iQd5 x2.L x3 hy)) (fun x3 hy h=>?_);refine Qa7 (l:=p0) (c:=Qaa) (c' := Qa2) h Qan (fun _=>rfl) (by decide) (fun x4 hi h=>?_);refine Qdm [.sl false (x4.Then.map Qaa)] Qgl h (fun x5 hy=>(iQd5 x4.Then x5 hy)) (fun x5 hy h=>?_);refine Qa7 (l:=p0) (c:=Qaa) (c' := Qa2) h Qan (fun _=>rfl) (by decide) (fun x6 hi h=>?_);refine Qdm [.sl false (x6.Else.map Qaa)] Qgl h (fun x7 hy=>(iQd5 x6.Else x7 hy)) (fun x7 hy h=>?_);refine TL.le (τ := Qm3 p0 (wr ((wr ((wr ((wr (v3+1))+x3))+x5))+x7)) (wr (v4+1))) ?_ ((iQek p0 (wr ((wr ((wr ((wr (v3+1))+x3))+x5))+x7)) (wr (v4+1)) _ h));exact Le.tz 0 0 rfl rfl rfl
  ·exact JP1.a h (Le.tz 0 0 rfl rfl rfl)
theorem Qy2:∀ (p0:(List Qab)) (o:Int),Qd5 p0=some o→PCall Tryz.prog 80 [.sl false (p0.map Qaa)] (Qgl o):=fun p0=>Q77.1 p0
mutual
def Qfh (p0:(List Qab)):Option (Int) :=
 (Qfi p0 0 0)>>=fun o1 =>
 some o1
 partial_fixpoint
def Qfi (p0:(List Qab)) (v3:Int) (v4:Int):Option (Int) :=
 if(decide (v4<(p0.length:Int))) then
  idx p0 v4>>=fun x2 =>
  Qfh x2.L>>=fun x3 =>
  idx p0 v4>>=fun x4 =>
  Qfh x4.Then>>=fun x5 =>
  idx p0 v4>>=fun x6 =>
  Qfh x6.Else>>=fun x7 =>
  Qfi p0 (if(wr (1+(if x7>(if x5>x3 then x5 else x3) then x7 else(if x5>x3 then x5 else x3))))>v3 then(wr (1+(if x7>(if x5>x3 then x5 else x3) then x7 else(if x5>x3 then x5 else x3)))) else v3) (wr (v4+1))
 else
  some v3
 partial_fixpoint
end
theorem Qabf:(∀ (p0:(List Qab)) (o:Int),Qfh p0=some o→PCall Tryz.prog 79 [.sl false (p0.map Qaa)] (Qis o))∧(∀ (p0:(List Qab)) (v3:Int) (v4:Int) (o1:Int),Qfi p0 v3 v4=some o1→TL (0,0) Tryz.prog 34 Q67 (JP1 (0,0) 34 o1 (.exit 0) (Qu2 p0)) (Qop p0 v3 v4)):=by
 refine Qfh.mutual_partial_correctness _ _ ?_ ?_
 ·intro Qfi' iQfi p0 o h;refine PCall.ofB mixed tbOk Q1k Tryz.func79 rfl (by kernel_rfl) (Nat.le_of_ble_eq_true rfl) ?_;refine Qaj h (fun o1 ho hk=>?_);refine Exists.intro (JP1 _ _ o1 (.exit 0) (Qu2 p0)) (And.intro (Qhn (τ := Qop p0 0 0) ?_ (TL.loop (iQfi p0 0 0 o1 ho))) (Qa5 ?_))
  ·exact Le.tz 0 0 rfl rfl rfl
  have h:=hk;refine Qar (t:=Qis) h ?_;exact .refl _
 ·intro Qfh' Qfi' iQfh iQfi p0 v3 v4 o1 h;refine TL.round (Qaq mixed tbOk (lv:=Q1k) _ _ _ ?_);refine view (Qax _ _) rfl ?_;refine Qac h (fun hb h=>?_) (fun hb h=>?_)
  ·refine And.intro (by decide +kernel) (And.intro rfl ?_);refine Qa7 (l:=p0) (c:=Qaa) (c' := Qa2) h Qan (fun _=>rfl) (by decide) (fun x2 hi h=>?_);refine Qdm [.sl false (x2.L.map Qaa)] Qis h (fun x3 hy=>(iQfh x2.L x3 hy)) (fun x3 hy h=>?_);refine Qa7 (l:=p0) (c:=Qaa) (c' := Qa2) h Qan (fun _=>rfl) (by decide) (fun x4 hi h=>?_);refine Qdm [.sl false (x4.Then.map Qaa)] Qis h (fun x5 hy=>(iQfh x4.Then x5 hy)) (fun x5 hy h=>?_);refine Qa7 (l:=p0) (c:=Qaa) (c' := Qa2) h Qan (fun _=>rfl) (by decide) (fun x6 hi h=>?_);refine Qdm [.sl false (x6.Else.map Qaa)] Qis h (fun x7 hy=>(iQfh x6.Else x7 hy)) (fun x7 hy h=>?_);refine TL.le (τ := Qop p0 (if(wr (1+(if x7>(if x5>x3 then x5 else x3) then x7 else(if x5>x3 then x5 else x3))))>v3 then(wr (1+(if x7>(if x5>x3 then x5 else x3) then x7 else(if x5>x3 then x5 else x3)))) else v3) (wr (v4+1))) ?_ ((iQfi p0 (if(wr (1+(if x7>(if x5>x3 then x5 else x3) then x7 else(if x5>x3 then x5 else x3))))>v3 then(wr (1+(if x7>(if x5>x3 then x5 else x3) then x7 else(if x5>x3 then x5 else x3)))) else v3) (wr (v4+1)) _ h));exact Le.tz 0 0 rfl rfl rfl
  ·exact JP1.a h (Le.tz 0 0 rfl rfl rfl)
theorem Q15:∀ (p0:(List Qab)) (o:Int),Qfh p0=some o→PCall Tryz.prog 79 [.sl false (p0.map Qaa)] (Qis o):=fun p0=>Qabf.1 p0
def Qd6 (p0:(List UInt8)) (x1:(List (List UInt8))) (v4:Int):Option (Unit⊕Unit) :=
 if(decide (v4<(x1.length:Int))) then
  idx x1 v4>>=fun x5 =>
  if(x5==p0) then
   some (.inr ())
  else
   Qd6 p0 x1 (wr (v4+1))
 else
  some (.inl ())
 partial_fixpoint
theorem Qajg:∀ (p0:(List UInt8)) (x1:(List (List UInt8))),(∀ (v4:Int) (o2:Unit⊕Unit),Qd6 p0 x1 v4=some o2→TL (0,0) Tryz.prog 20 Q69 (JP2 (0,0) 20 o2 (.exit 0) (Qu3 p0 x1) .ret (Qu4 p0 x1)) (Qoq p0 x1 v4)):=by
 intro p0 x1;refine Qd6.partial_correctness p0 x1 _ ?_;intro Qd6' iQd6 v4 o2 h;refine TL.round (Qaq mixed tbOk (lv:=Q1l) _ _ _ ?_);refine view (Qax _ _) rfl ?_;refine Qac h (fun hb h=>?_) (fun hb h=>?_)
 ·refine Qa7 (l:=x1) (c:=cStr) (c' := cStr) h (fun _=>rfl) (fun _=>rfl) (by decide) (fun x5 hi h=>?_);refine Qac h (fun hb h=>?_) (fun hb h=>?_)
  ·exact JP2.b h (Le.tz 0 0 rfl rfl rfl)
  ·refine TL.le (τ := Qoq p0 x1 (wr (v4+1))) ?_ ((iQd6 (wr (v4+1)) _ h));exact Le.tz 0 0 rfl rfl rfl
 ·exact JP2.a h (Le.tz 0 0 rfl rfl rfl)
def Qs5:Option ((List (List UInt8))) :=
 some ([[105,102],[101,108,115,101],[101,110,100],[101,97,99,104],[105,110],[108,101,116],[117,115,101],[116,114,117,101],[102,97,108,115,101],[115,101,99,114,101,116]])
theorem Qabg:∀ (o:(List (List UInt8))),Qs5  = some o→PCall Tryz.prog 76 [] (Qvp o):=by
 intro o h;unfold Qs5 at h;refine PCall.ofB mixed tbOk Qaa5 Tryz.func76 rfl (by kernel_rfl) (Nat.le_of_ble_eq_true rfl) ?_;refine Qar (t:=Qvp) h ?_;exact .p (.not)
def Qhi (p0:(List UInt8)):Option (Bool) :=
 Qs5>>=fun x1 =>
 (Qd6 p0 x1 0)>>=fun o2 =>
 match o2 with
 | .inl y3 =>
  Qh6 p0>>=fun x6 =>
  some x6
 | .inr y4 =>
  some false
theorem Qkl:∀ (p0:(List UInt8)) (o:Bool),Qhi p0=some o→PCall Tryz.prog 43 [sV p0] (Qhg o):=by
 intro p0 o h;unfold Qhi at h;refine PCall.ofB mixed tbOk Q1l Tryz.func43 rfl (by kernel_rfl) (Nat.le_of_ble_eq_true rfl) ?_;refine Qam [] Qvp h (fun x1 hy=>(Qabg x1 hy)) (fun x1 hy h=>?_);refine Qaj h (fun o2 ho hk=>?_);refine Exists.intro (JP2 _ _ o2 (.exit 0) (Qu3 p0 x1) .ret (Qu4 p0 x1)) (And.intro (Qhn (τ := Qoq p0 x1 0) ?_ (TL.loop (Qajg p0 x1 0 o2 ho))) (Qfx (fun y3 hy=>?_) (fun y4 hy=>?_)))
 ·exact Le.tz 0 0 rfl rfl rfl
 ·have h:=(by rw[hy] at hk; exact hk);refine Qam [sV p0] Qhf h (fun x6 hy=>(Qni p0 x6 hy)) (fun x6 hy h=>?_);refine Qar (t:=Qhg) h ?_;exact .refl _
 ·have h:=(by rw[hy] at hk; exact hk);refine Qar (t:=Qhg) h ?_;exact .refl _
def Qel (p0:Qab) (p1:Bool) (p2:Bool) (p3:Bool) (p4:Bool) (p5:Bool):Option (Bool) :=
 ( if p1 then
   if p2 then
    if p3 then
     if p4 then
      if p5 then
       if(p0.Kind==10) then
        some true
       else
        some ((p0.Else.length:Int)==0)
      else
       if((p0.Then.length:Int)==0) then
        if(p0.Kind==10) then
         some true
        else
         some ((p0.Else.length:Int)==0)
       else
        some false
     else
      if((p0.L.length:Int)==0) then
       if p5 then
        if(p0.Kind==10) then
         some true
        else
         some ((p0.Else.length:Int)==0)
       else
        if((p0.Then.length:Int)==0) then
         if(p0.Kind==10) then
          some true
         else
          some ((p0.Else.length:Int)==0)
        else
         some false
      else
       some false
    else
     if(p0.N==0) then
      if p4 then
       if p5 then
        if(p0.Kind==10) then
         some true
        else
         some ((p0.Else.length:Int)==0)
       else
        if((p0.Then.length:Int)==0) then
         if(p0.Kind==10) then
          some true
         else
          some ((p0.Else.length:Int)==0)
        else
         some false
      else
       if((p0.L.length:Int)==0) then
        if p5 then
         if(p0.Kind==10) then
          some true
         else
          some ((p0.Else.length:Int)==0)
        else
         if((p0.Then.length:Int)==0) then
          if(p0.Kind==10) then
           some true
          else
           some ((p0.Else.length:Int)==0)
         else
          some false
       else
        some false
     else
      some false
   else
    if(p0.Text==[]) then
     if p3 then
      if p4 then
       if p5 then
        if(p0.Kind==10) then
         some true
        else
         some ((p0.Else.length:Int)==0)
       else
        if((p0.Then.length:Int)==0) then
         if(p0.Kind==10) then
          some true
         else
          some ((p0.Else.length:Int)==0)
        else
         some false
      else
       if((p0.L.length:Int)==0) then
        if p5 then
         if(p0.Kind==10) then
          some true
         else
          some ((p0.Else.length:Int)==0)
        else
         if((p0.Then.length:Int)==0) then
          if(p0.Kind==10) then
           some true
          else
           some ((p0.Else.length:Int)==0)
         else
          some false
       else
        some false
     else
      if(p0.N==0) then
       if p4 then
        if p5 then
         if(p0.Kind==10) then
          some true
         else
          some ((p0.Else.length:Int)==0)
        else
         if((p0.Then.length:Int)==0) then
          if(p0.Kind==10) then
           some true
          else
           some ((p0.Else.length:Int)==0)
         else
          some false
       else
        if((p0.L.length:Int)==0) then
         if p5 then
          if(p0.Kind==10) then
           some true
          else
           some ((p0.Else.length:Int)==0)
         else
          if((p0.Then.length:Int)==0) then
           if(p0.Kind==10) then
            some true
           else
            some ((p0.Else.length:Int)==0)
          else
           some false
        else
         some false
      else
       some false
    else
     some false
  else
   if(p0.Name==[]) then
    if p2 then
     if p3 then
      if p4 then
       if p5 then
        if(p0.Kind==10) then
         some true
        else
         some ((p0.Else.length:Int)==0)
       else
        if((p0.Then.length:Int)==0) then
         if(p0.Kind==10) then
          some true
         else
          some ((p0.Else.length:Int)==0)
        else
         some false
      else
       if((p0.L.length:Int)==0) then
        if p5 then
         if(p0.Kind==10) then
          some true
         else
          some ((p0.Else.length:Int)==0)
        else
         if((p0.Then.length:Int)==0) then
          if(p0.Kind==10) then
           some true
          else
           some ((p0.Else.length:Int)==0)
         else
          some false
       else
        some false
     else
      if(p0.N==0) then
       if p4 then
        if p5 then
         if(p0.Kind==10) then
          some true
         else
          some ((p0.Else.length:Int)==0)
        else
         if((p0.Then.length:Int)==0) then
          if(p0.Kind==10) then
           some true
          else
           some ((p0.Else.length:Int)==0)
         else
          some false
       else
        if((p0.L.length:Int)==0) then
         if p5 then
          if(p0.Kind==10) then
           some true
          else
           some ((p0.Else.length:Int)==0)
         else
          if((p0.Then.length:Int)==0) then
           if(p0.Kind==10) then
            some true
           else
            some ((p0.Else.length:Int)==0)
          else
           some false
        else
         some false
      else
       some false
    else
     if(p0.Text==[]) then
      if p3 then
       if p4 then
        if p5 then
         if(p0.Kind==10) then
          some true
         else
          some ((p0.Else.length:Int)==0)
        else
         if((p0.Then.length:Int)==0) then
          if(p0.Kind==10) then
           some true
          else
           some ((p0.Else.length:Int)==0)
         else
          some false
       else
        if((p0.L.length:Int)==0) then
         if p5 then
          if(p0.Kind==10) then
           some true
          else
           some ((p0.Else.length:Int)==0)
         else
          if((p0.Then.length:Int)==0) then
           if(p0.Kind==10) then
            some true
           else
            some ((p0.Else.length:Int)==0)
          else
           some false
        else
         some false
      else
       if(p0.N==0) then
        if p4 then
         if p5 then
          if(p0.Kind==10) then
           some true
          else
           some ((p0.Else.length:Int)==0)
         else
          if((p0.Then.length:Int)==0) then
           if(p0.Kind==10) then
            some true
           else
            some ((p0.Else.length:Int)==0)
          else
           some false
        else
         if((p0.L.length:Int)==0) then
          if p5 then
           if(p0.Kind==10) then
            some true
           else
            some ((p0.Else.length:Int)==0)
          else
           if((p0.Then.length:Int)==0) then
            if(p0.Kind==10) then
             some true
            else
             some ((p0.Else.length:Int)==0)
           else
            some false
         else
          some false
       else
        some false
     else
      some false
   else
    some false:Option (Bool))>>=fun o1 =>
 some o1
theorem Qda:∀ (p0:Qab) (p1:Bool) (p2:Bool) (p3:Bool) (p4:Bool) (p5:Bool) (o:Bool),Qel p0 p1 p2 p3 p4 p5=some o→PCall Tryz.prog 132 [.agg [iV p0.Kind,sV p0.Name,sV p0.Text,iV p0.N,.sl false (p0.L.map Qaa),.sl false (p0.Then.map Qaa),.sl false (p0.Else.map Qaa)],bV p1,bV p2,bV p3,bV p4,bV p5] (Qc5 o):=by
 intro p0 p1 p2 p3 p4 p5 o h;unfold Qel at h;refine PCall.ofB mixed tbOk Qadp Tryz.func132 rfl (by kernel_rfl) (Nat.le_of_ble_eq_true rfl) ?_;refine Qaj h (fun o1 ho hk=>?_);refine Exists.intro (JP1 _ _ o1 .normal (Q7a p0)) (And.intro ?_ (Qa5 ?_))
 ·have h:=ho;refine Qac h (fun hb h=>?_) (fun hb h=>?_)
  ·refine bT ?_;refine Qac h (fun hb h=>?_) (fun hb h=>?_)
   ·refine bT ?_;refine Qac h (fun hb h=>?_) (fun hb h=>?_)
    ·refine bT ?_;refine Qac h (fun hb h=>?_) (fun hb h=>?_)
     ·refine bT ?_;refine Qac h (fun hb h=>?_) (fun hb h=>?_)
      ·refine bT ?_;refine Qac h (fun hb h=>?_) (fun hb h=>?_)
       ·refine JP1.a h ?_;exact Le.tz 1 0 rfl rfl rfl
       ·refine view (Qax _ _) rfl ?_;refine JP1.a h ?_;exact Le.tz 1 0 rfl rfl rfl
      ·refine view (Qax _ _) rfl ?_;refine Qac h (fun hb h=>?_) (fun hb h=>?_)
       ·refine Qac h (fun hb h=>?_) (fun hb h=>?_)
        ·refine JP1.a h ?_;exact Le.tz 1 0 rfl rfl rfl
        ·refine view (Qax _ _) rfl ?_;refine JP1.a h ?_;exact Le.tz 1 0 rfl rfl rfl
       ·refine JP1.a h ?_;exact Le.tz 1 0 rfl rfl rfl
     ·refine view (Qax _ _) rfl ?_;refine Qac h (fun hb h=>?_) (fun hb h=>?_)
      ·refine Qac h (fun hb h=>?_) (fun hb h=>?_)
       ·refine bT ?_;refine Qac h (fun hb h=>?_) (fun hb h=>?_)
        ·refine JP1.a h ?_;exact Le.tz 1 0 rfl rfl rfl
        ·refine view (Qax _ _) rfl ?_;refine JP1.a h ?_;exact Le.tz 1 0 rfl rfl rfl
       ·refine view (Qax _ _) rfl ?_;refine Qac h (fun hb h=>?_) (fun hb h=>?_)
        ·refine Qac h (fun hb h=>?_) (fun hb h=>?_)
         ·refine JP1.a h ?_;exact Le.tz 1 0 rfl rfl rfl
         ·refine view (Qax _ _) rfl ?_;refine JP1.a h ?_;exact Le.tz 1 0 rfl rfl rfl
        ·refine JP1.a h ?_;exact Le.tz 1 0 rfl rfl rfl
      ·refine bF ?_;refine JP1.a h ?_;exact Le.tz 1 0 rfl rfl rfl
    ·refine Qac h (fun hb h=>?_) (fun hb h=>?_)
     ·refine Qac h (fun hb h=>?_) (fun hb h=>?_)
      ·refine bT ?_;refine Qac h (fun hb h=>?_) (fun hb h=>?_)
       ·refine bT ?_;refine Qac h (fun hb h=>?_) (fun hb h=>?_)
        ·refine JP1.a h ?_;exact Le.tz 1 0 rfl rfl rfl
        ·refine view (Qax _ _) rfl ?_;refine JP1.a h ?_;exact Le.tz 1 0 rfl rfl rfl
       ·refine view (Qax _ _) rfl ?_;refine Qac h (fun hb h=>?_) (fun hb h=>?_)
        ·refine Qac h (fun hb h=>?_) (fun hb h=>?_)
         ·refine JP1.a h ?_;exact Le.tz 1 0 rfl rfl rfl
         ·refine view (Qax _ _) rfl ?_;refine JP1.a h ?_;exact Le.tz 1 0 rfl rfl rfl
        ·refine JP1.a h ?_;exact Le.tz 1 0 rfl rfl rfl
      ·refine view (Qax _ _) rfl ?_;refine Qac h (fun hb h=>?_) (fun hb h=>?_)
       ·refine Qac h (fun hb h=>?_) (fun hb h=>?_)
        ·refine bT ?_;refine Qac h (fun hb h=>?_) (fun hb h=>?_)
         ·refine JP1.a h ?_;exact Le.tz 1 0 rfl rfl rfl
         ·refine view (Qax _ _) rfl ?_;refine JP1.a h ?_;exact Le.tz 1 0 rfl rfl rfl
        ·refine view (Qax _ _) rfl ?_;refine Qac h (fun hb h=>?_) (fun hb h=>?_)
         ·refine Qac h (fun hb h=>?_) (fun hb h=>?_)
          ·refine JP1.a h ?_;exact Le.tz 1 0 rfl rfl rfl
          ·refine view (Qax _ _) rfl ?_;refine JP1.a h ?_;exact Le.tz 1 0 rfl rfl rfl
         ·refine JP1.a h ?_;exact Le.tz 1 0 rfl rfl rfl
       ·refine bF ?_;refine JP1.a h ?_;exact Le.tz 1 0 rfl rfl rfl
     ·refine bF ?_;refine bF ?_;refine JP1.a h ?_;exact Le.tz 1 0 rfl rfl rfl
   ·refine Qac h (fun hb h=>?_) (fun hb h=>?_)
    ·refine Qac h (fun hb h=>?_) (fun hb h=>?_)
     ·refine bT ?_;refine Qac h (fun hb h=>?_) (fun hb h=>?_)
      ·refine bT ?_;refine Qac h (fun hb h=>?_) (fun hb h=>?_)
       ·refine bT ?_;refine Qac h (fun hb h=>?_) (fun hb h=>?_)
        ·refine JP1.a h ?_;exact Le.tz 1 0 rfl rfl rfl
        ·refine view (Qax _ _) rfl ?_;refine JP1.a h ?_;exact Le.tz 1 0 rfl rfl rfl
       ·refine view (Qax _ _) rfl ?_;refine Qac h (fun hb h=>?_) (fun hb h=>?_)
        ·refine Qac h (fun hb h=>?_) (fun hb h=>?_)
         ·refine JP1.a h ?_;exact Le.tz 1 0 rfl rfl rfl
         ·refine view (Qax _ _) rfl ?_;refine JP1.a h ?_;exact Le.tz 1 0 rfl rfl rfl
        ·refine JP1.a h ?_;exact Le.tz 1 0 rfl rfl rfl
      ·refine view (Qax _ _) rfl ?_;refine Qac h (fun hb h=>?_) (fun hb h=>?_)
       ·refine Qac h (fun hb h=>?_) (fun hb h=>?_)
        ·refine bT ?_;refine Qac h (fun hb h=>?_) (fun hb h=>?_)
         ·refine JP1.a h ?_;exact Le.tz 1 0 rfl rfl rfl
         ·refine view (Qax _ _) rfl ?_;refine JP1.a h ?_;exact Le.tz 1 0 rfl rfl rfl
        ·refine view (Qax _ _) rfl ?_;refine Qac h (fun hb h=>?_) (fun hb h=>?_)
         ·refine Qac h (fun hb h=>?_) (fun hb h=>?_)
          ·refine JP1.a h ?_;exact Le.tz 1 0 rfl rfl rfl
          ·refine view (Qax _ _) rfl ?_;refine JP1.a h ?_;exact Le.tz 1 0 rfl rfl rfl
         ·refine JP1.a h ?_;exact Le.tz 1 0 rfl rfl rfl
       ·refine bF ?_;refine JP1.a h ?_;exact Le.tz 1 0 rfl rfl rfl
     ·refine Qac h (fun hb h=>?_) (fun hb h=>?_)
      ·refine Qac h (fun hb h=>?_) (fun hb h=>?_)
       ·refine bT ?_;refine Qac h (fun hb h=>?_) (fun hb h=>?_)
        ·refine bT ?_;refine Qac h (fun hb h=>?_) (fun hb h=>?_)
         ·refine JP1.a h ?_;exact Le.tz 1 0 rfl rfl rfl
         ·refine view (Qax _ _) rfl ?_;refine JP1.a h ?_;exact Le.tz 1 0 rfl rfl rfl
        ·refine view (Qax _ _) rfl ?_;refine Qac h (fun hb h=>?_) (fun hb h=>?_)
         ·refine Qac h (fun hb h=>?_) (fun hb h=>?_)
          ·refine JP1.a h ?_;exact Le.tz 1 0 rfl rfl rfl
          ·refine view (Qax _ _) rfl ?_;refine JP1.a h ?_;exact Le.tz 1 0 rfl rfl rfl
         ·refine JP1.a h ?_;exact Le.tz 1 0 rfl rfl rfl
       ·refine view (Qax _ _) rfl ?_;refine Qac h (fun hb h=>?_) (fun hb h=>?_)
        ·refine Qac h (fun hb h=>?_) (fun hb h=>?_)
         ·refine bT ?_;refine Qac h (fun hb h=>?_) (fun hb h=>?_)
          ·refine JP1.a h ?_;exact Le.tz 1 0 rfl rfl rfl
          ·refine view (Qax _ _) rfl ?_;refine JP1.a h ?_;exact Le.tz 1 0 rfl rfl rfl
         ·refine view (Qax _ _) rfl ?_;refine Qac h (fun hb h=>?_) (fun hb h=>?_)
          ·refine Qac h (fun hb h=>?_) (fun hb h=>?_)
           ·refine JP1.a h ?_;exact Le.tz 1 0 rfl rfl rfl
           ·refine view (Qax _ _) rfl ?_;refine JP1.a h ?_;exact Le.tz 1 0 rfl rfl rfl
          ·refine JP1.a h ?_;exact Le.tz 1 0 rfl rfl rfl
        ·refine bF ?_;refine JP1.a h ?_;exact Le.tz 1 0 rfl rfl rfl
      ·refine bF ?_;refine bF ?_;refine JP1.a h ?_;exact Le.tz 1 0 rfl rfl rfl
    ·refine bF ?_;refine bF ?_;refine bF ?_;refine JP1.a h ?_;exact Le.tz 1 0 rfl rfl rfl
  ·refine Qac h (fun hb h=>?_) (fun hb h=>?_)
   ·refine Qac h (fun hb h=>?_) (fun hb h=>?_)
    ·refine bT ?_;refine Qac h (fun hb h=>?_) (fun hb h=>?_)
     ·refine bT ?_;refine Qac h (fun hb h=>?_) (fun hb h=>?_)
      ·refine bT ?_;refine Qac h (fun hb h=>?_) (fun hb h=>?_)
       ·refine bT ?_;refine Qac h (fun hb h=>?_) (fun hb h=>?_)
        ·refine JP1.a h ?_;exact Le.tz 1 0 rfl rfl rfl
        ·refine view (Qax _ _) rfl ?_;refine JP1.a h ?_;exact Le.tz 1 0 rfl rfl rfl
       ·refine view (Qax _ _) rfl ?_;refine Qac h (fun hb h=>?_) (fun hb h=>?_)
        ·refine Qac h (fun hb h=>?_) (fun hb h=>?_)
         ·refine JP1.a h ?_;exact Le.tz 1 0 rfl rfl rfl
         ·refine view (Qax _ _) rfl ?_;refine JP1.a h ?_;exact Le.tz 1 0 rfl rfl rfl
        ·refine JP1.a h ?_;exact Le.tz 1 0 rfl rfl rfl
      ·refine view (Qax _ _) rfl ?_;refine Qac h (fun hb h=>?_) (fun hb h=>?_)
       ·refine Qac h (fun hb h=>?_) (fun hb h=>?_)
        ·refine bT ?_;refine Qac h (fun hb h=>?_) (fun hb h=>?_)
         ·refine JP1.a h ?_;exact Le.tz 1 0 rfl rfl rfl
         ·refine view (Qax _ _) rfl ?_;refine JP1.a h ?_;exact Le.tz 1 0 rfl rfl rfl
        ·refine view (Qax _ _) rfl ?_;refine Qac h (fun hb h=>?_) (fun hb h=>?_)
         ·refine Qac h (fun hb h=>?_) (fun hb h=>?_)
          ·refine JP1.a h ?_;exact Le.tz 1 0 rfl rfl rfl
          ·refine view (Qax _ _) rfl ?_;refine JP1.a h ?_;exact Le.tz 1 0 rfl rfl rfl
         ·refine JP1.a h ?_;exact Le.tz 1 0 rfl rfl rfl
       ·refine bF ?_;refine JP1.a h ?_;exact Le.tz 1 0 rfl rfl rfl
     ·refine Qac h (fun hb h=>?_) (fun hb h=>?_)
      ·refine Qac h (fun hb h=>?_) (fun hb h=>?_)
       ·refine bT ?_;refine Qac h (fun hb h=>?_) (fun hb h=>?_)
        ·refine bT ?_;refine Qac h (fun hb h=>?_) (fun hb h=>?_)
         ·refine JP1.a h ?_;exact Le.tz 1 0 rfl rfl rfl
         ·refine view (Qax _ _) rfl ?_;refine JP1.a h ?_;exact Le.tz 1 0 rfl rfl rfl
        ·refine view (Qax _ _) rfl ?_;refine Qac h (fun hb h=>?_) (fun hb h=>?_)
         ·refine Qac h (fun hb h=>?_) (fun hb h=>?_)
          ·refine JP1.a h ?_;exact Le.tz 1 0 rfl rfl rfl
          ·refine view (Qax _ _) rfl ?_;refine JP1.a h ?_;exact Le.tz 1 0 rfl rfl rfl
         ·refine JP1.a h ?_;exact Le.tz 1 0 rfl rfl rfl
       ·refine view (Qax _ _) rfl ?_;refine Qac h (fun hb h=>?_) (fun hb h=>?_)
        ·refine Qac h (fun hb h=>?_) (fun hb h=>?_)
         ·refine bT ?_;refine Qac h (fun hb h=>?_) (fun hb h=>?_)
          ·refine JP1.a h ?_;exact Le.tz 1 0 rfl rfl rfl
          ·refine view (Qax _ _) rfl ?_;refine JP1.a h ?_;exact Le.tz 1 0 rfl rfl rfl
         ·refine view (Qax _ _) rfl ?_;refine Qac h (fun hb h=>?_) (fun hb h=>?_)
          ·refine Qac h (fun hb h=>?_) (fun hb h=>?_)
           ·refine JP1.a h ?_;exact Le.tz 1 0 rfl rfl rfl
           ·refine view (Qax _ _) rfl ?_;refine JP1.a h ?_;exact Le.tz 1 0 rfl rfl rfl
          ·refine JP1.a h ?_;exact Le.tz 1 0 rfl rfl rfl
        ·refine bF ?_;refine JP1.a h ?_;exact Le.tz 1 0 rfl rfl rfl
      ·refine bF ?_;refine bF ?_;refine JP1.a h ?_;exact Le.tz 1 0 rfl rfl rfl
    ·refine Qac h (fun hb h=>?_) (fun hb h=>?_)
     ·refine Qac h (fun hb h=>?_) (fun hb h=>?_)
      ·refine bT ?_;refine Qac h (fun hb h=>?_) (fun hb h=>?_)
       ·refine bT ?_;refine Qac h (fun hb h=>?_) (fun hb h=>?_)
        ·refine bT ?_;refine Qac h (fun hb h=>?_) (fun hb h=>?_)
         ·refine JP1.a h ?_;exact Le.tz 1 0 rfl rfl rfl
         ·refine view (Qax _ _) rfl ?_;refine JP1.a h ?_;exact Le.tz 1 0 rfl rfl rfl
        ·refine view (Qax _ _) rfl ?_;refine Qac h (fun hb h=>?_) (fun hb h=>?_)
         ·refine Qac h (fun hb h=>?_) (fun hb h=>?_)
          ·refine JP1.a h ?_;exact Le.tz 1 0 rfl rfl rfl
          ·refine view (Qax _ _) rfl ?_;refine JP1.a h ?_;exact Le.tz 1 0 rfl rfl rfl
         ·refine JP1.a h ?_;exact Le.tz 1 0 rfl rfl rfl
       ·refine view (Qax _ _) rfl ?_;refine Qac h (fun hb h=>?_) (fun hb h=>?_)
        ·refine Qac h (fun hb h=>?_) (fun hb h=>?_)
         ·refine bT ?_;refine Qac h (fun hb h=>?_) (fun hb h=>?_)
          ·refine JP1.a h ?_;exact Le.tz 1 0 rfl rfl rfl
          ·refine view (Qax _ _) rfl ?_;refine JP1.a h ?_;exact Le.tz 1 0 rfl rfl rfl
         ·refine view (Qax _ _) rfl ?_;refine Qac h (fun hb h=>?_) (fun hb h=>?_)
          ·refine Qac h (fun hb h=>?_) (fun hb h=>?_)
           ·refine JP1.a h ?_;exact Le.tz 1 0 rfl rfl rfl
           ·refine view (Qax _ _) rfl ?_;refine JP1.a h ?_;exact Le.tz 1 0 rfl rfl rfl
          ·refine JP1.a h ?_;exact Le.tz 1 0 rfl rfl rfl
        ·refine bF ?_;refine JP1.a h ?_;exact Le.tz 1 0 rfl rfl rfl
      ·refine Qac h (fun hb h=>?_) (fun hb h=>?_)
       ·refine Qac h (fun hb h=>?_) (fun hb h=>?_)
        ·refine bT ?_;refine Qac h (fun hb h=>?_) (fun hb h=>?_)
         ·refine bT ?_;refine Qac h (fun hb h=>?_) (fun hb h=>?_)
          ·refine JP1.a h ?_;exact Le.tz 1 0 rfl rfl rfl
          ·refine view (Qax _ _) rfl ?_;refine JP1.a h ?_;exact Le.tz 1 0 rfl rfl rfl
         ·refine view (Qax _ _) rfl ?_;refine Qac h (fun hb h=>?_) (fun hb h=>?_)
          ·refine Qac h (fun hb h=>?_) (fun hb h=>?_)
           ·refine JP1.a h ?_;exact Le.tz 1 0 rfl rfl rfl
           ·refine view (Qax _ _) rfl ?_;refine JP1.a h ?_;exact Le.tz 1 0 rfl rfl rfl
          ·refine JP1.a h ?_;exact Le.tz 1 0 rfl rfl rfl
        ·refine view (Qax _ _) rfl ?_;refine Qac h (fun hb h=>?_) (fun hb h=>?_)
         ·refine Qac h (fun hb h=>?_) (fun hb h=>?_)
          ·refine bT ?_;refine Qac h (fun hb h=>?_) (fun hb h=>?_)
           ·refine JP1.a h ?_;exact Le.tz 1 0 rfl rfl rfl
           ·refine view (Qax _ _) rfl ?_;refine JP1.a h ?_;exact Le.tz 1 0 rfl rfl rfl
          ·refine view (Qax _ _) rfl ?_;refine Qac h (fun hb h=>?_) (fun hb h=>?_)
           ·refine Qac h (fun hb h=>?_) (fun hb h=>?_)
            ·refine JP1.a h ?_;exact Le.tz 1 0 rfl rfl rfl
            ·refine view (Qax _ _) rfl ?_;refine JP1.a h ?_;exact Le.tz 1 0 rfl rfl rfl
           ·refine JP1.a h ?_;exact Le.tz 1 0 rfl rfl rfl
         ·refine bF ?_;refine JP1.a h ?_;exact Le.tz 1 0 rfl rfl rfl
       ·refine bF ?_;refine bF ?_;refine JP1.a h ?_;exact Le.tz 1 0 rfl rfl rfl
     ·refine bF ?_;refine bF ?_;refine bF ?_;refine JP1.a h ?_;exact Le.tz 1 0 rfl rfl rfl
   ·refine bF ?_;refine bF ?_;refine bF ?_;refine bF ?_;refine JP1.a h ?_;exact Le.tz 1 0 rfl rfl rfl
 ·have h:=hk;refine Qar (t:=Qc5) h ?_;exact .refl _
mutual
def Qt4 (p0:Qab):Option (Bool) :=
 if(p0.Kind==1) then
  Qnh p0.Text>>=fun x1 =>
  ( if x1.2 then
    Qel p0 false true false false false>>=fun x3 =>
    some x3
   else
    some false:Option (Bool))>>=fun o2 =>
  some o2
 else
  if(p0.Kind==2) then
   Qel p0 false false true false false>>=fun x4 =>
   some x4
  else
   if(p0.Kind==3) then
    ( if(p0.N==0) then
      Qel p0 false false true false false>>=fun x6 =>
      some x6
     else
      if(p0.N==1) then
       Qel p0 false false true false false>>=fun x7 =>
       some x7
      else
       some false:Option (Bool))>>=fun o5 =>
    some o5
   else
    if(p0.Kind==4) then
     ( Qhi p0.Name>>=fun x9 =>
      if x9 then
       Qel p0 true false false false false>>=fun x10 =>
       some x10
      else
       some false:Option (Bool))>>=fun o8 =>
     some o8
    else
     if(p0.Kind==5) then
      ( Qh6 p0.Name>>=fun x12 =>
       if x12 then
        if((p0.L.length:Int)==1) then
         Qnj p0.L>>=fun x13 =>
         if x13 then
          Qel p0 true false false true false>>=fun x14 =>
          some x14
         else
          some false
        else
         some false
       else
        some false:Option (Bool))>>=fun o11 =>
      some o11
     else
      if(p0.Kind==6) then
       ( Qhi p0.Name>>=fun x16 =>
        if x16 then
         if(decide ((p0.L.length:Int)≤3)) then
          Qnj p0.L>>=fun x17 =>
          if x17 then
           Qel p0 true false false true false>>=fun x18 =>
           some x18
          else
           some false
         else
          some false
        else
         some false:Option (Bool))>>=fun o15 =>
       some o15
      else
       if(p0.Kind==7) then
        ( Qh6 p0.Name>>=fun x20 =>
         if x20 then
          Qel p0 true false false false false>>=fun x21 =>
          some x21
         else
          some false:Option (Bool))>>=fun o19 =>
        some o19
       else
        some false
 partial_fixpoint
def Qnj (p0:(List Qab)):Option (Bool) :=
 (Qiu p0 0)>>=fun o1 =>
 match o1 with
 | .inl y2 =>
  some true
 | .inr y3 =>
  some false
 partial_fixpoint
def Qiu (p0:(List Qab)) (v3:Int):Option (Unit⊕Unit) :=
 if(decide (v3<(p0.length:Int))) then
  idx p0 v3>>=fun x4 =>
  Qt4 x4>>=fun x5 =>
  if(!x5) then
   some (.inr ())
  else
   Qiu p0 (wr (v3+1))
 else
  some (.inl ())
 partial_fixpoint
end
theorem Qabh:(∀ (p0:Qab) (o:Bool),Qt4 p0=some o→PCall Tryz.prog 156 [.agg [iV p0.Kind,sV p0.Name,sV p0.Text,iV p0.N,.sl false (p0.L.map Qaa),.sl false (p0.Then.map Qaa),.sl false (p0.Else.map Qaa)]] (Qf7 o))∧(∀ (p0:(List Qab)) (o:Bool),Qnj p0=some o→PCall Tryz.prog 130 [.sl false (p0.map Qaa)] (Qh9 o))∧(∀ (p0:(List Qab)) (v3:Int) (o1:Unit⊕Unit),Qiu p0 v3=some o1→TL (0,0) Tryz.prog 16 Q3i (JP2 (0,0) 16 o1 (.exit 0) (Qsg p0) .ret (Qsh p0)) (Qm4 p0 v3)):=by
 refine Qt4.mutual_partial_correctness _ _ _ ?_ ?_ ?_
 ·intro Qnj' iQnj p0 o h;refine PCall.ofB mixed tbOk Qadq Tryz.func156 rfl (by kernel_rfl) (Nat.le_of_ble_eq_true rfl) ?_;refine Qac h (fun hb h=>?_) (fun hb h=>?_)
  ·refine Qam [sV p0.Text] Qm1 h (fun x1 hy=>(Qabe p0.Text x1 hy)) (fun x1 hy h=>?_);refine Qaj h (fun o2 ho hk=>?_);refine Exists.intro (JP1 _ _ o2 .normal (Q7b p0)) (And.intro ?_ (Qa5 ?_))
   ·have h:=ho;refine Qac h (fun hb h=>?_) (fun hb h=>?_)
    ·refine Qam [.agg [iV p0.Kind,sV p0.Name,sV p0.Text,iV p0.N,.sl false (p0.L.map Qaa),.sl false (p0.Then.map Qaa),.sl false (p0.Else.map Qaa)],bV false,bV true,bV false,bV false,bV false] Qc5 h (fun x3 hy=>(Qda p0 false true false false false x3 hy)) (fun x3 hy h=>?_);refine JP1.a h ?_;exact Le.tz 1 0 rfl rfl rfl
    ·refine JP1.a h ?_;exact Le.tz 1 0 rfl rfl rfl
   ·have h:=hk;refine Qar (t:=Qf7) h ?_;exact .refl _
  ·refine Qac h (fun hb h=>?_) (fun hb h=>?_)
   ·refine Qam [.agg [iV p0.Kind,sV p0.Name,sV p0.Text,iV p0.N,.sl false (p0.L.map Qaa),.sl false (p0.Then.map Qaa),.sl false (p0.Else.map Qaa)],bV false,bV false,bV true,bV false,bV false] Qc5 h (fun x4 hy=>(Qda p0 false false true false false x4 hy)) (fun x4 hy h=>?_);refine Qar (t:=Qf7) h ?_;exact .refl _
   ·refine Qac h (fun hb h=>?_) (fun hb h=>?_)
    ·refine Qaj h (fun o5 ho hk=>?_);refine Exists.intro (JP1 _ _ o5 .normal (Q7c p0)) (And.intro ?_ (Qa5 ?_))
     ·have h:=ho;refine Qac h (fun hb h=>?_) (fun hb h=>?_)
      ·refine bT ?_;refine Qam [.agg [iV p0.Kind,sV p0.Name,sV p0.Text,iV p0.N,.sl false (p0.L.map Qaa),.sl false (p0.Then.map Qaa),.sl false (p0.Else.map Qaa)],bV false,bV false,bV true,bV false,bV false] Qc5 h (fun x6 hy=>(Qda p0 false false true false false x6 hy)) (fun x6 hy h=>?_);refine JP1.a h ?_;exact Le.tz 1 0 rfl rfl rfl
      ·refine Qac h (fun hb h=>?_) (fun hb h=>?_)
       ·refine Qam [.agg [iV p0.Kind,sV p0.Name,sV p0.Text,iV p0.N,.sl false (p0.L.map Qaa),.sl false (p0.Then.map Qaa),.sl false (p0.Else.map Qaa)],bV false,bV false,bV true,bV false,bV false] Qc5 h (fun x7 hy=>(Qda p0 false false true false false x7 hy)) (fun x7 hy h=>?_);refine JP1.a h ?_;exact Le.tz 1 0 rfl rfl rfl
       ·refine JP1.a h ?_;exact Le.tz 1 0 rfl rfl rfl
     ·have h:=hk;refine Qar (t:=Qf7) h ?_;exact .refl _
    ·refine Qac h (fun hb h=>?_) (fun hb h=>?_)
     ·refine Qaj h (fun o8 ho hk=>?_);refine Exists.intro (JP1 _ _ o8 .normal (Q7d p0)) (And.intro ?_ (Qa5 ?_))
      ·have h:=ho;refine Qam [sV p0.Name] Qhg h (fun x9 hy=>(Qkl p0.Name x9 hy)) (fun x9 hy h=>?_);refine Qac h (fun hb h=>?_) (fun hb h=>?_)
       ·refine Qam [.agg [iV p0.Kind,sV p0.Name,sV p0.Text,iV p0.N,.sl false (p0.L.map Qaa),.sl false (p0.Then.map Qaa),.sl false (p0.Else.map Qaa)],bV true,bV false,bV false,bV false,bV false] Qc5 h (fun x10 hy=>(Qda p0 true false false false false x10 hy)) (fun x10 hy h=>?_);refine JP1.a h ?_;exact Le.tz 1 0 rfl rfl rfl
       ·refine JP1.a h ?_;exact Le.tz 1 0 rfl rfl rfl
      ·have h:=hk;refine Qar (t:=Qf7) h ?_;exact .refl _
     ·refine Qac h (fun hb h=>?_) (fun hb h=>?_)
      ·refine Qaj h (fun o11 ho hk=>?_);refine Exists.intro (JP1 _ _ o11 .normal (Q7e p0)) (And.intro ?_ (Qa5 ?_))
       ·have h:=ho;refine Qam [sV p0.Name] Qhf h (fun x12 hy=>(Qni p0.Name x12 hy)) (fun x12 hy h=>?_);refine Qac h (fun hb h=>?_) (fun hb h=>?_)
        ·refine view (Qax _ _) rfl ?_;refine Qac h (fun hb h=>?_) (fun hb h=>?_)
         ·refine Qam [.sl false (p0.L.map Qaa)] Qh9 h (fun x13 hy=>(iQnj p0.L x13 hy)) (fun x13 hy h=>?_);refine Qac h (fun hb h=>?_) (fun hb h=>?_)
          ·refine Qam [.agg [iV p0.Kind,sV p0.Name,sV p0.Text,iV p0.N,.sl false (p0.L.map Qaa),.sl false (p0.Then.map Qaa),.sl false (p0.Else.map Qaa)],bV true,bV false,bV false,bV true,bV false] Qc5 h (fun x14 hy=>(Qda p0 true false false true false x14 hy)) (fun x14 hy h=>?_);refine JP1.a h ?_;exact Le.tz 1 0 rfl rfl rfl
          ·refine JP1.a h ?_;exact Le.tz 1 0 rfl rfl rfl
         ·refine bF ?_;refine JP1.a h ?_;exact Le.tz 1 0 rfl rfl rfl
        ·refine bF ?_;refine bF ?_;refine JP1.a h ?_;exact Le.tz 1 0 rfl rfl rfl
       ·have h:=hk;refine Qar (t:=Qf7) h ?_;exact .refl _
      ·refine Qac h (fun hb h=>?_) (fun hb h=>?_)
       ·refine Qaj h (fun o15 ho hk=>?_);refine Exists.intro (JP1 _ _ o15 .normal (Q7f p0)) (And.intro ?_ (Qa5 ?_))
        ·have h:=ho;refine Qam [sV p0.Name] Qhg h (fun x16 hy=>(Qkl p0.Name x16 hy)) (fun x16 hy h=>?_);refine Qac h (fun hb h=>?_) (fun hb h=>?_)
         ·refine view (Qax _ _) rfl ?_;refine Qac h (fun hb h=>?_) (fun hb h=>?_)
          ·refine Qam [.sl false (p0.L.map Qaa)] Qh9 h (fun x17 hy=>(iQnj p0.L x17 hy)) (fun x17 hy h=>?_);refine Qac h (fun hb h=>?_) (fun hb h=>?_)
           ·refine Qam [.agg [iV p0.Kind,sV p0.Name,sV p0.Text,iV p0.N,.sl false (p0.L.map Qaa),.sl false (p0.Then.map Qaa),.sl false (p0.Else.map Qaa)],bV true,bV false,bV false,bV true,bV false] Qc5 h (fun x18 hy=>(Qda p0 true false false true false x18 hy)) (fun x18 hy h=>?_);refine JP1.a h ?_;exact Le.tz 1 0 rfl rfl rfl
           ·refine JP1.a h ?_;exact Le.tz 1 0 rfl rfl rfl
          ·refine bF ?_;refine JP1.a h ?_;exact Le.tz 1 0 rfl rfl rfl
         ·refine bF ?_;refine bF ?_;refine JP1.a h ?_;exact Le.tz 1 0 rfl rfl rfl
        ·have h:=hk;refine Qar (t:=Qf7) h ?_;exact .refl _
       ·refine Qac h (fun hb h=>?_) (fun hb h=>?_)
        ·refine Qaj h (fun o19 ho hk=>?_);refine Exists.intro (JP1 _ _ o19 .normal (Q7g p0)) (And.intro ?_ (Qa5 ?_))
         ·have h:=ho;refine Qam [sV p0.Name] Qhf h (fun x20 hy=>(Qni p0.Name x20 hy)) (fun x20 hy h=>?_);refine Qac h (fun hb h=>?_) (fun hb h=>?_)
          ·refine Qam [.agg [iV p0.Kind,sV p0.Name,sV p0.Text,iV p0.N,.sl false (p0.L.map Qaa),.sl false (p0.Then.map Qaa),.sl false (p0.Else.map Qaa)],bV true,bV false,bV false,bV false,bV false] Qc5 h (fun x21 hy=>(Qda p0 true false false false false x21 hy)) (fun x21 hy h=>?_);refine JP1.a h ?_;exact Le.tz 1 0 rfl rfl rfl
          ·refine JP1.a h ?_;exact Le.tz 1 0 rfl rfl rfl
         ·have h:=hk;refine Qar (t:=Qf7) h ?_;exact .refl _
        ·refine Qar (t:=Qf7) h ?_;exact .refl _
 ·intro Qiu' iQiu p0 o h;refine PCall.ofB mixed tbOk Qyv Tryz.func130 rfl (by kernel_rfl) (Nat.le_of_ble_eq_true rfl) ?_;refine Qaj h (fun o1 ho hk=>?_);refine Exists.intro (JP2 _ _ o1 (.exit 0) (Qsg p0) .ret (Qsh p0)) (And.intro (Qhn (τ := Qm4 p0 0) ?_ (TL.loop (iQiu p0 0 o1 ho))) (Qfx (fun y2 hy=>?_) (fun y3 hy=>?_)))
  ·exact Le.tz 0 0 rfl rfl rfl
  ·have h:=(by rw[hy] at hk; exact hk);refine Qar (t:=Qh9) h ?_;exact .refl _
  ·have h:=(by rw[hy] at hk; exact hk);refine Qar (t:=Qh9) h ?_;exact .refl _
 ·intro Qt4' Qiu' iQt4 iQiu p0 v3 o1 h;refine TL.round (Qaq mixed tbOk (lv:=Qyv) _ _ _ ?_);refine view (Qax _ _) rfl ?_;refine Qac h (fun hb h=>?_) (fun hb h=>?_)
  ·refine Qa7 (l:=p0) (c:=Qaa) (c' := Qa2) h Qan (fun _=>rfl) (by decide) (fun x4 hi h=>?_);refine Qam [.agg [iV x4.Kind,sV x4.Name,sV x4.Text,iV x4.N,.sl false (x4.L.map Qaa),.sl false (x4.Then.map Qaa),.sl false (x4.Else.map Qaa)]] Qf7 h (fun x5 hy=>(iQt4 x4 x5 hy)) (fun x5 hy h=>?_);refine Qac h (fun hb h=>?_) (fun hb h=>?_)
   ·exact JP2.b h (Le.tz 0 0 rfl rfl rfl)
   ·refine TL.le (τ := Qm4 p0 (wr (v3+1))) ?_ ((iQiu p0 (wr (v3+1)) _ h));exact Le.tz 0 0 rfl rfl rfl
  ·exact JP2.a h (Le.tz 0 0 rfl rfl rfl)
theorem Qabi:∀ (p0:(List Qab)) (o:Bool),Qnj p0=some o→PCall Tryz.prog 130 [.sl false (p0.map Qaa)] (Qh9 o):=fun p0=>Qabh.2.1 p0
def Qfj (p0:(List UInt8)) (p1:(List UInt8)) (v5:Int):Option (Unit⊕Unit) :=
 if(decide (v5<(p0.length:Int))) then
  Qe4 p0 p1 v5>>=fun x4 =>
  if x4 then
   some (.inr ())
  else
   Qfj p0 p1 (wr (v5+1))
 else
  some (.inl ())
 partial_fixpoint
theorem Qagu:∀ (p0:(List UInt8)) (p1:(List UInt8)),(∀ (v5:Int) (o1:Unit⊕Unit),Qfj p0 p1 v5=some o1→TL (0,0) Tryz.prog 16 Q1m (JP2 (0,0) 16 o1 (.exit 0) (Qq2 p0 p1) .ret (Qq3 p0 p1)) (Qlw p0 p1 v5)):=by
 intro p0 p1;refine Qfj.partial_correctness p0 p1 _ ?_;intro Qfj' iQfj v5 o1 h;refine TL.round (Qaq mixed tbOk (lv:=Qwr) _ _ _ ?_);refine vrfl ?_;refine Qac h (fun hb h=>?_) (fun hb h=>?_)
 ·refine Qam [sV p0,sV p1,iV v5] Qir h (fun x4 hy=>(Qmf p0 p1 v5 x4 hy)) (fun x4 hy h=>?_);refine Qac h (fun hb h=>?_) (fun hb h=>?_)
  ·exact JP2.b h (Le.tz 0 0 rfl rfl rfl)
  ·refine TL.le (τ := Qlw p0 p1 (wr (v5+1))) ?_ ((iQfj (wr (v5+1)) _ h));exact Le.tz 0 0 rfl rfl rfl
 ·exact JP2.a h (Le.tz 0 0 rfl rfl rfl)
def Qpr (p0:(List UInt8)) (p1:(List UInt8)):Option (Bool) :=
 (Qfj p0 p1 0)>>=fun o1 =>
 match o1 with
 | .inl y2 =>
  some false
 | .inr y3 =>
  some true
theorem Q78:∀ (p0:(List UInt8)) (p1:(List UInt8)) (o:Bool),Qpr p0 p1=some o→PCall Tryz.prog 131 [sV p0,sV p1] (Qn1 o):=by
 intro p0 p1 o h;unfold Qpr at h;refine PCall.ofB mixed tbOk Qwr Tryz.func131 rfl (by kernel_rfl) (Nat.le_of_ble_eq_true rfl) ?_;refine Qaj h (fun o1 ho hk=>?_);refine Exists.intro (JP2 _ _ o1 (.exit 0) (Qq2 p0 p1) .ret (Qq3 p0 p1)) (And.intro (Qhn (τ := Qlw p0 p1 0) ?_ (TL.loop (Qagu p0 p1 0 o1 ho))) (Qfx (fun y2 hy=>?_) (fun y3 hy=>?_)))
 ·exact Le.tz 0 0 rfl rfl rfl
 ·have h:=(by rw[hy] at hk; exact hk);refine Qar (t:=Qn1) h ?_;exact .refl _
 ·have h:=(by rw[hy] at hk; exact hk);refine Qar (t:=Qn1) h ?_;exact .refl _
mutual
def Qjb (p0:(List Qab)) (p1:Bool):Option (Bool) :=
 (Qgr p0 p1 0)>>=fun o1 =>
 match o1 with
 | .inl y2 =>
  some true
 | .inr y3 =>
  some false
 partial_fixpoint
def Qgr (p0:(List Qab)) (p1:Bool) (v5:Int):Option (Unit⊕Unit) :=
 if(decide (v5<(p0.length:Int))) then
  idx p0 v5>>=fun x4 =>
  Qww x4>>=fun x5 =>
  if(!x5) then
   some (.inr ())
  else
   idx p0 v5>>=fun x6 =>
   if(x6.Kind != 8) then
    Qgr p0 p1 (wr (v5+1))
   else
    idx p0 v5>>=fun x7 =>
    ( if(!(v5==(wr ((p0.length:Int)-1)))) then
      idx p0 (wr (v5+1))>>=fun x9 =>
      if(x9.Kind==8) then
       some true
      else
       if(!(v5==(wr ((p0.length:Int)-1)))) then
        idx x7.Text (wr ((x7.Text.length:Int)-1))>>=fun x10 =>
        some ((x10.toNat:Int)==123)
       else
        if p1 then
         idx x7.Text (wr ((x7.Text.length:Int)-1))>>=fun x11 =>
         some ((x11.toNat:Int)==123)
        else
         some false
     else
      if(!(v5==(wr ((p0.length:Int)-1)))) then
       idx x7.Text (wr ((x7.Text.length:Int)-1))>>=fun x12 =>
       some ((x12.toNat:Int)==123)
      else
       if p1 then
        idx x7.Text (wr ((x7.Text.length:Int)-1))>>=fun x13 =>
        some ((x13.toNat:Int)==123)
       else
        some false:Option (Bool))>>=fun o8 =>
    if o8 then
     some (.inr ())
    else
     Qgr p0 p1 (wr (v5+1))
 else
  some (.inl ())
 partial_fixpoint
def Qww (p0:Qab):Option (Bool) :=
 ( if((p0.L.length:Int)==1) then
   Qnj p0.L>>=fun x2 =>
   some x2
  else
   some false:Option (Bool))>>=fun o1 =>
 if(p0.Kind==8) then
  ( if(!(p0.Text==[])) then
    Qpr p0.Text [123,123]>>=fun x4 =>
    if(!x4) then
     Qel p0 false true false false false>>=fun x5 =>
     some x5
    else
     some false
   else
    some false:Option (Bool))>>=fun o3 =>
  some o3
 else
  if(p0.Kind==9) then
   ( if o1 then
     Qel p0 false false false true false>>=fun x7 =>
     some x7
    else
     some false:Option (Bool))>>=fun o6 =>
   some o6
  else
   if(p0.Kind==10) then
    ( if o1 then
      Qjb p0.Then true>>=fun x9 =>
      if x9 then
       Qjb p0.Else true>>=fun x10 =>
       if x10 then
        Qel p0 false false false true true>>=fun x11 =>
        some x11
       else
        some false
      else
       some false
     else
      some false:Option (Bool))>>=fun o8 =>
    some o8
   else
    ( if(p0.Kind==11) then
      some (p0.Kind==11)
     else
      some (p0.Kind==12):Option (Bool))>>=fun o12 =>
    if o12 then
     ( Qhi p0.Name>>=fun x14 =>
      if x14 then
       if o1 then
        Qjb p0.Then true>>=fun x15 =>
        if x15 then
         Qel p0 true false false true true>>=fun x16 =>
         some x16
        else
         some false
       else
        some false
      else
       some false:Option (Bool))>>=fun o13 =>
     some o13
    else
     if(p0.Kind==13) then
      ( Qhi p0.Name>>=fun x18 =>
       if x18 then
        if o1 then
         Qel p0 true false false true false>>=fun x19 =>
         some x19
        else
         some false
       else
        some false:Option (Bool))>>=fun o17 =>
      some o17
     else
      some false
 partial_fixpoint
end
theorem Q79:(∀ (p0:(List Qab)) (p1:Bool) (o:Bool),Qjb p0 p1=some o→PCall Tryz.prog 78 [.sl false (p0.map Qaa),bV p1] (Qgm o))∧(∀ (p0:(List Qab)) (p1:Bool) (v5:Int) (o1:Unit⊕Unit),Qgr p0 p1 v5=some o1→TL (0,0) Tryz.prog 62 Q3h (JP2 (0,0) 62 o1 (.exit 0) (Qse p0 p1) .ret (Qsf p0 p1)) (Qi3 p0 p1 v5))∧(∀ (p0:Qab) (o:Bool),Qww p0=some o→PCall Tryz.prog 103 [.agg [iV p0.Kind,sV p0.Name,sV p0.Text,iV p0.N,.sl false (p0.L.map Qaa),.sl false (p0.Then.map Qaa),.sl false (p0.Else.map Qaa)]] (Qit o)):=by
 refine Qjb.mutual_partial_correctness _ _ _ ?_ ?_ ?_
 ·intro Qgr' iQgr p0 p1 o h;refine PCall.ofB mixed tbOk Qyu Tryz.func78 rfl (by kernel_rfl) (Nat.le_of_ble_eq_true rfl) ?_;refine Qaj h (fun o1 ho hk=>?_);refine Exists.intro (JP2 _ _ o1 (.exit 0) (Qse p0 p1) .ret (Qsf p0 p1)) (And.intro (Qhn (τ := Qi3 p0 p1 0) ?_ (TL.loop (iQgr p0 p1 0 o1 ho))) (Qfx (fun y2 hy=>?_) (fun y3 hy=>?_)))
  ·exact Le.tz 0 0 rfl rfl rfl
  ·have h:=(by rw[hy] at hk; exact hk);refine Qar (t:=Qgm) h ?_;exact .refl _
  ·have h:=(by rw[hy] at hk; exact hk);refine Qar (t:=Qgm) h ?_;exact .refl _
 ·intro Qgr' Qww' iQgr iQww p0 p1 v5 o1 h;refine TL.round (Qaq mixed tbOk (lv:=Qyu) _ _ _ ?_);refine view (Qax _ _) rfl ?_;refine Qac h (fun hb h=>?_) (fun hb h=>?_)
  ·refine Qa7 (l:=p0) (c:=Qaa) (c' := Qa2) h Qan (fun _=>rfl) (by decide) (fun x4 hi h=>?_);refine Qam [.agg [iV x4.Kind,sV x4.Name,sV x4.Text,iV x4.N,.sl false (x4.L.map Qaa),.sl false (x4.Then.map Qaa),.sl false (x4.Else.map Qaa)]] Qit h (fun x5 hy=>(iQww x4 x5 hy)) (fun x5 hy h=>?_);refine Qac h (fun hb h=>?_) (fun hb h=>?_)
   ·exact JP2.b h (Le.tz 0 0 rfl rfl rfl)
   ·refine Qa7 (l:=p0) (c:=Qaa) (c' := Qa2) h Qan (fun _=>rfl) (by decide) (fun x6 hi h=>?_);refine Qac h (fun hb h=>?_) (fun hb h=>?_)
    ·refine TL.le (τ := Qi3 p0 p1 (wr (v5+1))) ?_ ((iQgr p0 p1 (wr (v5+1)) _ h));exact Le.tz 0 0 rfl rfl rfl
    ·refine Qa7 (l:=p0) (c:=Qaa) (c' := Qa2) h Qan (fun _=>rfl) (by decide) (fun x7 hi h=>?_);refine view (Qax _ _) rfl ?_;refine Qaj h (fun o8 ho hk=>?_);refine Exists.intro (JP1 _ _ o8 .normal (Q3g p0 p1 v5)) (And.intro ?_ (Qa5 ?_))
     ·have h:=ho;refine Qac h (fun hb h=>?_) (fun hb h=>?_)
      ·refine Qa7 (l:=p0) (c:=Qaa) (c' := Qa2) h Qan (fun _=>rfl) (by decide) (fun x9 hi h=>?_);refine Qac h (fun hb h=>?_) (fun hb h=>?_)
       ·refine JP1.a h ?_;exact Le.tz 0 0 rfl rfl rfl
       ·refine Qac h (fun hb h=>?_) (fun hb h=>?_)
        ·refine bT ?_;refine vrfl ?_;refine Qdg h (fun x10 hi h=>?_);refine JP1.a h ?_;exact Le.tz 0 0 rfl rfl rfl
        ·refine Qac h (fun hb h=>?_) (fun hb h=>?_)
         ·refine vrfl ?_;refine Qdg h (fun x11 hi h=>?_);refine JP1.a h ?_;exact Le.tz 0 0 rfl rfl rfl
         ·refine JP1.a h ?_;exact Le.tz 0 0 rfl rfl rfl
      ·refine bF ?_;refine Qac h (fun hb h=>?_) (fun hb h=>?_)
       ·refine bT ?_;refine vrfl ?_;refine Qdg h (fun x12 hi h=>?_);refine JP1.a h ?_;exact Le.tz 0 0 rfl rfl rfl
       ·refine Qac h (fun hb h=>?_) (fun hb h=>?_)
        ·refine vrfl ?_;refine Qdg h (fun x13 hi h=>?_);refine JP1.a h ?_;exact Le.tz 0 0 rfl rfl rfl
        ·refine JP1.a h ?_;exact Le.tz 0 0 rfl rfl rfl
     ·have h:=hk;refine Qac h (fun hb h=>?_) (fun hb h=>?_)
      ·exact JP2.b h (Le.tz 0 0 rfl rfl rfl)
      ·refine TL.le (τ := Qi3 p0 p1 (wr (v5+1))) ?_ ((iQgr p0 p1 (wr (v5+1)) _ h));exact Le.tz 0 0 rfl rfl rfl
  ·exact JP2.a h (Le.tz 0 0 rfl rfl rfl)
 ·intro Qjb' iQjb p0 o h;refine PCall.ofB mixed tbOk Qadr Tryz.func103 rfl (by kernel_rfl) (Nat.le_of_ble_eq_true rfl) ?_;refine Qaj h (fun o1 ho hk=>?_);refine Exists.intro (JP1 _ _ o1 .normal (Q7h p0)) (And.intro ?_ (Qa5 ?_))
  ·have h:=ho;refine view (Qax _ _) rfl ?_;refine Qac h (fun hb h=>?_) (fun hb h=>?_)
   ·refine Qam [.sl false (p0.L.map Qaa)] Qh9 h (fun x2 hy=>(Qabi p0.L x2 hy)) (fun x2 hy h=>?_);refine JP1.a h ?_;exact Le.tz 1 0 rfl rfl rfl
   ·refine JP1.a h ?_;exact Le.tz 1 0 rfl rfl rfl
  ·have h:=hk;refine Qac h (fun hb h=>?_) (fun hb h=>?_)
   ·refine Qaj h (fun o3 ho hk=>?_);refine Exists.intro (JP1 _ _ o3 .normal (Q7i p0)) (And.intro ?_ (Qa5 ?_))
    ·have h:=ho;refine Qac h (fun hb h=>?_) (fun hb h=>?_)
     ·refine Qam [sV p0.Text,sV [123,123]] Qn1 h (fun x4 hy=>(Q78 p0.Text [123,123] x4 hy)) (fun x4 hy h=>?_);refine Qac h (fun hb h=>?_) (fun hb h=>?_)
      ·refine Qam [.agg [iV p0.Kind,sV p0.Name,sV p0.Text,iV p0.N,.sl false (p0.L.map Qaa),.sl false (p0.Then.map Qaa),.sl false (p0.Else.map Qaa)],bV false,bV true,bV false,bV false,bV false] Qc5 h (fun x5 hy=>(Qda p0 false true false false false x5 hy)) (fun x5 hy h=>?_);refine JP1.a h ?_;exact Le.tz 1 0 rfl rfl rfl
      ·refine JP1.a h ?_;exact Le.tz 1 0 rfl rfl rfl
     ·refine bF ?_;refine JP1.a h ?_;exact Le.tz 1 0 rfl rfl rfl
    ·have h:=hk;refine Qar (t:=Qit) h ?_;exact .refl _
   ·refine Qac h (fun hb h=>?_) (fun hb h=>?_)
    ·refine Qaj h (fun o6 ho hk=>?_);refine Exists.intro (JP1 _ _ o6 .normal (Q7j p0)) (And.intro ?_ (Qa5 ?_))
     ·have h:=ho;refine Qac h (fun hb h=>?_) (fun hb h=>?_)
      ·refine Qam [.agg [iV p0.Kind,sV p0.Name,sV p0.Text,iV p0.N,.sl false (p0.L.map Qaa),.sl false (p0.Then.map Qaa),.sl false (p0.Else.map Qaa)],bV false,bV false,bV false,bV true,bV false] Qc5 h (fun x7 hy=>(Qda p0 false false false true false x7 hy)) (fun x7 hy h=>?_);refine JP1.a h ?_;exact Le.tz 1 0 rfl rfl rfl
      ·refine JP1.a h ?_;exact Le.tz 1 0 rfl rfl rfl
     ·have h:=hk;refine Qar (t:=Qit) h ?_;exact .refl _
    ·refine Qac h (fun hb h=>?_) (fun hb h=>?_)
     ·refine Qaj h (fun o8 ho hk=>?_);refine Exists.intro (JP1 _ _ o8 .normal (Q7k p0)) (And.intro ?_ (Qa5 ?_))
      ·have h:=ho;refine Qac h (fun hb h=>?_) (fun hb h=>?_)
       ·refine Qam [.sl false (p0.Then.map Qaa),bV true] Qgm h (fun x9 hy=>(iQjb p0.Then true x9 hy)) (fun x9 hy h=>?_);refine Qac h (fun hb h=>?_) (fun hb h=>?_)
        ·refine Qam [.sl false (p0.Else.map Qaa),bV true] Qgm h (fun x10 hy=>(iQjb p0.Else true x10 hy)) (fun x10 hy h=>?_);refine Qac h (fun hb h=>?_) (fun hb h=>?_)
         ·refine Qam [.agg [iV p0.Kind,sV p0.Name,sV p0.Text,iV p0.N,.sl false (p0.L.map Qaa),.sl false (p0.Then.map Qaa),.sl false (p0.Else.map Qaa)],bV false,bV false,bV false,bV true,bV true] Qc5 h (fun x11 hy=>(Qda p0 false false false true true x11 hy)) (fun x11 hy h=>?_);refine JP1.a h ?_;exact Le.tz 1 0 rfl rfl rfl
         ·refine JP1.a h ?_;exact Le.tz 1 0 rfl rfl rfl
        ·refine bF ?_;refine JP1.a h ?_;exact Le.tz 1 0 rfl rfl rfl
       ·refine bF ?_;refine bF ?_;refine JP1.a h ?_;exact Le.tz 1 0 rfl rfl rfl
      ·have h:=hk;refine Qar (t:=Qit) h ?_;exact .refl _
     ·refine Qaj h (fun o12 ho hk=>?_);refine Exists.intro (JP1 _ _ o12 .normal (Q7l p0 o1)) (And.intro ?_ (Qa5 ?_))
      ·have h:=ho;refine Qac h (fun hb h=>?_) (fun hb h=>?_)
       ·refine JP1.a h ?_;exact Le.tz 1 0 rfl rfl rfl
       ·refine JP1.a h ?_;exact Le.tz 1 0 rfl rfl rfl
      ·have h:=hk;refine Qac h (fun hb h=>?_) (fun hb h=>?_)
       ·refine Qaj h (fun o13 ho hk=>?_);refine Exists.intro (JP1 _ _ o13 .normal (Q7m p0)) (And.intro ?_ (Qa5 ?_))
        ·have h:=ho;refine Qam [sV p0.Name] Qhg h (fun x14 hy=>(Qkl p0.Name x14 hy)) (fun x14 hy h=>?_);refine Qac h (fun hb h=>?_) (fun hb h=>?_)
         ·refine Qac h (fun hb h=>?_) (fun hb h=>?_)
          ·refine Qam [.sl false (p0.Then.map Qaa),bV true] Qgm h (fun x15 hy=>(iQjb p0.Then true x15 hy)) (fun x15 hy h=>?_);refine Qac h (fun hb h=>?_) (fun hb h=>?_)
           ·refine Qam [.agg [iV p0.Kind,sV p0.Name,sV p0.Text,iV p0.N,.sl false (p0.L.map Qaa),.sl false (p0.Then.map Qaa),.sl false (p0.Else.map Qaa)],bV true,bV false,bV false,bV true,bV true] Qc5 h (fun x16 hy=>(Qda p0 true false false true true x16 hy)) (fun x16 hy h=>?_);refine JP1.a h ?_;exact Le.tz 1 0 rfl rfl rfl
           ·refine JP1.a h ?_;exact Le.tz 1 0 rfl rfl rfl
          ·refine bF ?_;refine JP1.a h ?_;exact Le.tz 1 0 rfl rfl rfl
         ·refine bF ?_;refine bF ?_;refine JP1.a h ?_;exact Le.tz 1 0 rfl rfl rfl
        ·have h:=hk;refine Qar (t:=Qit) h ?_;exact .refl _
       ·refine Qac h (fun hb h=>?_) (fun hb h=>?_)
        ·refine Qaj h (fun o17 ho hk=>?_);refine Exists.intro (JP1 _ _ o17 .normal (Q7n p0)) (And.intro ?_ (Qa5 ?_))
         ·have h:=ho;refine Qam [sV p0.Name] Qhg h (fun x18 hy=>(Qkl p0.Name x18 hy)) (fun x18 hy h=>?_);refine Qac h (fun hb h=>?_) (fun hb h=>?_)
          ·refine Qac h (fun hb h=>?_) (fun hb h=>?_)
           ·refine Qam [.agg [iV p0.Kind,sV p0.Name,sV p0.Text,iV p0.N,.sl false (p0.L.map Qaa),.sl false (p0.Then.map Qaa),.sl false (p0.Else.map Qaa)],bV true,bV false,bV false,bV true,bV false] Qc5 h (fun x19 hy=>(Qda p0 true false false true false x19 hy)) (fun x19 hy h=>?_);refine JP1.a h ?_;exact Le.tz 1 0 rfl rfl rfl
           ·refine JP1.a h ?_;exact Le.tz 1 0 rfl rfl rfl
          ·refine bF ?_;refine JP1.a h ?_;exact Le.tz 1 0 rfl rfl rfl
         ·have h:=hk;refine Qar (t:=Qit) h ?_;exact .refl _
        ·refine Qar (t:=Qit) h ?_;exact .refl _
theorem Qabj:∀ (p0:(List Qab)) (p1:Bool) (o:Bool),Qjb p0 p1=some o→PCall Tryz.prog 78 [.sl false (p0.map Qaa),bV p1] (Qgm o):=fun p0 p1=>Q79.1 p0 p1
def Qabk (p0:(List Qab)):Option (Bool) :=
 ( Qjb p0 false>>=fun x2 =>
  if x2 then
   Qfh p0>>=fun x3 =>
   if(decide (x3≤12)) then
    Qd5 p0>>=fun x4 =>
    some (decide (x4≤1024))
   else
    some false
  else
   some false:Option (Bool))>>=fun o1 =>
 some o1
theorem Qajh:∀ (p0:(List Qab)) (o:Bool),Qabk p0=some o→PCall Tryz.prog 44 [.sl false (p0.map Qaa)] (Q68 o):=by
 intro p0 o h;unfold Qabk at h;refine PCall.ofB mixed tbOk Qaja Tryz.func44 rfl (by kernel_rfl) (Nat.le_of_ble_eq_true rfl) ?_;refine Qaj h (fun o1 ho hk=>?_);refine Exists.intro (JP1 _ _ o1 .normal (Qado )) (And.intro ?_ (Qa5 ?_))
 ·have h:=ho;refine Qam [.sl false (p0.map Qaa),bV false] Qgm h (fun x2 hy=>(Qabj p0 false x2 hy)) (fun x2 hy h=>?_);refine Qac h (fun hb h=>?_) (fun hb h=>?_)
  ·refine Qam [.sl false (p0.map Qaa)] Qis h (fun x3 hy=>(Q15 p0 x3 hy)) (fun x3 hy h=>?_);refine Qac h (fun hb h=>?_) (fun hb h=>?_)
   ·refine Qam [.sl false (p0.map Qaa)] Qgl h (fun x4 hy=>(Qy2 p0 x4 hy)) (fun x4 hy h=>?_);refine JP1.a h ?_;exact Le.tz 0 0 rfl rfl rfl
   ·refine JP1.a h ?_;exact Le.tz 0 0 rfl rfl rfl
  ·refine bF ?_;refine JP1.a h ?_;exact Le.tz 0 0 rfl rfl rfl
 ·have h:=hk;refine Qar (t:=Q68) h ?_;exact .refl _
def Qic (p0:(List Qae)) (p1:(List UInt8)) (v6:Int):Option (Unit⊕(List Qab)) :=
 if(decide (v6<(p0.length:Int))) then
  idx p0 v6>>=fun x4 =>
  if(x4.Name==p1) then
   idx p0 v6>>=fun x5 =>
   some (.inr x5.L)
  else
   Qic p0 p1 (wr (v6+1))
 else
  some (.inl ())
 partial_fixpoint
theorem Qaji:∀ (p0:(List Qae)) (p1:(List UInt8)),(∀ (v6:Int) (o1:Unit⊕(List Qab)),Qic p0 p1 v6=some o1→TL (0,0) Tryz.prog 25 Q7o (JP2 (0,0) 25 o1 (.exit 0) (Qu5 p0 p1) .ret (Qu6 p0 p1)) (Qor p0 p1 v6)):=by
 intro p0 p1;refine Qic.partial_correctness p0 p1 _ ?_;intro Qic' iQic v6 o1 h;refine TL.round (Qaq mixed tbOk (lv:=Q1n) _ _ _ ?_);refine view (Qax _ _) rfl ?_;refine Qac h (fun hb h=>?_) (fun hb h=>?_)
 ·refine Qa7 (l:=p0) (c:=Qaf) (c' := Qaf) h (fun _=>rfl) (fun _=>rfl) (by decide) (fun x4 hi h=>?_);refine Qac h (fun hb h=>?_) (fun hb h=>?_)
  ·refine Qa7 (l:=p0) (c:=Qaf) (c' := Qaf) h (fun _=>rfl) (fun _=>rfl) (by decide) (fun x5 hi h=>?_);exact JP2.b h (Le.tz 0 0 rfl rfl rfl)
  ·refine TL.le (τ := Qor p0 p1 (wr (v6+1))) ?_ ((iQic (wr (v6+1)) _ h));exact Le.tz 0 0 rfl rfl rfl
 ·exact JP2.a h (Le.tz 0 0 rfl rfl rfl)
def Qjc (p0:(List Qae)) (p1:(List UInt8)):Option ((List Qab)×Bool) :=
 (Qic p0 p1 0)>>=fun o1 =>
 match o1 with
 | .inl y2 =>
  some ([],false)
 | .inr y3 =>
  some (y3,true)
theorem Qid:∀ (p0:(List Qae)) (p1:(List UInt8)) (o:(List Qab)×Bool),Qjc p0 p1=some o→PCall Tryz.prog 31 [.sl false (p0.map Qaf),sV p1] (Qf8 o):=by
 intro p0 p1 o h;unfold Qjc at h;refine PCall.ofB mixed tbOk Q1n Tryz.func31 rfl (by kernel_rfl) (Nat.le_of_ble_eq_true rfl) ?_;refine Qaj h (fun o1 ho hk=>?_);refine Exists.intro (JP2 _ _ o1 (.exit 0) (Qu5 p0 p1) .ret (Qu6 p0 p1)) (And.intro (Qhn (τ := Qor p0 p1 0) ?_ (TL.loop (Qaji p0 p1 0 o1 ho))) (Qfx (fun y2 hy=>?_) (fun y3 hy=>?_)))
 ·exact Le.tz 0 0 rfl rfl rfl
 ·have h:=(by rw[hy] at hk; exact hk);refine Qar (t:=Qf8) h ?_;exact .tup (xs:=[.sl true [],bV false]) (ys:=[.sl false [],bV false]) (.cons (.not) (.cons (.refl _) (.nil)))
 ·have h:=(by rw[hy] at hk; exact hk);refine Qar (t:=Qf8) h ?_;exact .refl _
def Qgs (p0:(List Qae)) (v4:Int):Option (Unit⊕((List UInt8)×Int)) :=
 if(decide (v4<(p0.length:Int))) then
  ( idx p0 v4>>=fun x5 =>
   Qhi x5.Name>>=fun x6 =>
   if(!x6) then
    some true
   else
    idx p0 v4>>=fun x7 =>
    Qabk x7.L>>=fun x8 =>
    some (!x8):Option (Bool))>>=fun o4 =>
  if o4 then
   idx p0 v4>>=fun x9 =>
   some (.inr (x9.Name,7))
  else
   cutL p0 0 v4>>=fun x10 =>
   idx p0 v4>>=fun x11 =>
   Qjc x10 x11.Name>>=fun x12 =>
   if x12.2 then
    idx p0 v4>>=fun x13 =>
    some (.inr (x13.Name,9))
   else
    Qgs p0 (wr (v4+1))
 else
  some (.inl ())
 partial_fixpoint
theorem Qahd:∀ (p0:(List Qae)),(∀ (v4:Int) (o1:Unit⊕((List UInt8)×Int)),Qgs p0 v4=some o1→TL (0,0) Tryz.prog 119 Q3k (JP2 (0,0) 119 o1 (.exit 0) (Qsi p0) .ret (Qsj p0)) (Qm5 p0 v4)):=by
 intro p0;refine Qgs.partial_correctness p0 _ ?_;intro Qgs' iQgs v4 o1 h;refine TL.round (Qaq mixed tbOk (lv:=Qle) _ _ _ ?_);refine view (Qax _ _) rfl ?_;refine Qac h (fun hb h=>?_) (fun hb h=>?_)
 ·refine Qaj h (fun o4 ho hk=>?_);refine Exists.intro (JP1 _ _ o4 .normal (Q3j p0 v4)) (And.intro ?_ (Qa5 ?_))
  ·have h:=ho;refine Qa7 (l:=p0) (c:=Qaf) (c' := Qaf) h (fun _=>rfl) (fun _=>rfl) (by decide) (fun x5 hi h=>?_);refine Qam [sV x5.Name] Qhg h (fun x6 hy=>(Qkl x5.Name x6 hy)) (fun x6 hy h=>?_);refine Qac h (fun hb h=>?_) (fun hb h=>?_)
   ·refine JP1.a h ?_;exact Le.tz 0 0 rfl rfl rfl
   ·refine Qa7 (l:=p0) (c:=Qaf) (c' := Qaf) h (fun _=>rfl) (fun _=>rfl) (by decide) (fun x7 hi h=>?_);refine Qam [.sl false (x7.L.map Qaa)] Q68 h (fun x8 hy=>(Qajh x7.L x8 hy)) (fun x8 hy h=>?_);refine JP1.a h ?_;exact Le.tz 0 0 rfl rfl rfl
  ·have h:=hk;refine Qac h (fun hb h=>?_) (fun hb h=>?_)
   ·refine Qa7 (l:=p0) (c:=Qaf) (c' := Qaf) h (fun _=>rfl) (fun _=>rfl) (by decide) (fun x9 hi h=>?_);exact JP2.b h (Le.tz 0 0 rfl rfl rfl)
   ·refine And.intro (by decide +kernel) (And.intro rfl ?_);refine Qae8 (c:=Qaf) none (some v4) h (fun _=>rfl) (fun x10 hi h=>?_);refine Qa7 (l:=p0) (c:=Qaf) (c' := Qaf) h (fun _=>rfl) (fun _=>rfl) (by decide) (fun x11 hi h=>?_);refine Qdm [.sl false (x10.map Qaf),sV x11.Name] Qf8 h (fun x12 hy=>(Qid x10 x11.Name x12 hy)) (fun x12 hy h=>?_);refine Qac h (fun hb h=>?_) (fun hb h=>?_)
    ·refine Qa7 (l:=p0) (c:=Qaf) (c' := Qaf) h (fun _=>rfl) (fun _=>rfl) (by decide) (fun x13 hi h=>?_);exact JP2.b h (Le.tz 0 0 rfl rfl rfl)
    ·refine TL.le (τ := Qm5 p0 (wr (v4+1))) ?_ ((iQgs (wr (v4+1)) _ h));exact Le.tz 0 0 rfl rfl rfl
 ·exact JP2.a h (Le.tz 0 0 rfl rfl rfl)
def Qgt (p0:(List Qae)) (v7:Int) (x18:(List (List UInt8))) (v9:Int):Option (Unit⊕(List UInt8)) :=
 if(decide (v9<(x18.length:Int))) then
  idx x18 v9>>=fun x22 =>
  Qjc p0 x22>>=fun x23 =>
  if(!x23.2) then
   idx p0 v7>>=fun x24 =>
   some (.inr x24.Name)
  else
   Qgt p0 v7 x18 (wr (v9+1))
 else
  some (.inl ())
 partial_fixpoint
theorem Qahe:∀ (p0:(List Qae)) (v7:Int) (x18:(List (List UInt8))),(∀ (v9:Int) (o19:Unit⊕(List UInt8)),Qgt p0 v7 x18 v9=some o19→TL (0,0) Tryz.prog 119 Q3l (JP2 (0,0) 119 o19 (.exit 4) (Qsk p0 v7 x18) .ret (Qsl p0 v7 x18)) (Qm6 p0 v7 x18 v9)):=by
 intro p0 v7 x18;refine Qgt.partial_correctness p0 v7 x18 _ ?_;intro Qgt' iQgt v9 o19 h;refine TL.round (Qaq mixed tbOk (lv:=Qle) _ _ _ ?_);refine view (Qax _ _) rfl ?_;refine Qac h (fun hb h=>?_) (fun hb h=>?_)
 ·refine Qa7 (l:=x18) (c:=cStr) (c' := cStr) h (fun _=>rfl) (fun _=>rfl) (by decide) (fun x22 hi h=>?_);refine Qam [.sl false (p0.map Qaf),sV x22] Qf8 h (fun x23 hy=>(Qid p0 x22 x23 hy)) (fun x23 hy h=>?_);refine Qac h (fun hb h=>?_) (fun hb h=>?_)
  ·refine Qa7 (l:=p0) (c:=Qaf) (c' := Qaf) h (fun _=>rfl) (fun _=>rfl) (by decide) (fun x24 hi h=>?_);exact JP2.b h (Le.tz 0 1 rfl rfl rfl)
  ·refine TL.le (τ := Qm6 p0 v7 x18 (wr (v9+1))) ?_ ((iQgt (wr (v9+1)) _ h));exact Le.tz 0 1 rfl rfl rfl
 ·exact JP2.a h (Le.tz 0 1 rfl rfl rfl)
def Qnk (p0:(List (List UInt8))) (p1:(List UInt8)) (v5:Int):Option (Unit⊕Unit) :=
 if(decide (v5<(p0.length:Int))) then
  idx p0 v5>>=fun x4 =>
  if(x4==p1) then
   some (.inr ())
  else
   Qnk p0 p1 (wr (v5+1))
 else
  some (.inl ())
 partial_fixpoint
theorem Qalq:∀ (p0:(List (List UInt8))) (p1:(List UInt8)),(∀ (v5:Int) (o1:Unit⊕Unit),Qnk p0 p1 v5=some o1→TL (0,0) Tryz.prog 18 Qads (JP2 (0,0) 18 o1 (.exit 0) (Qyw p0 p1) .ret (Qyx p0 p1)) (Qsq p0 p1 v5)):=by
 intro p0 p1;refine Qnk.partial_correctness p0 p1 _ ?_;intro Qnk' iQnk v5 o1 h;refine TL.round (Qaq mixed tbOk (lv:=Qaa6) _ _ _ ?_);refine view (Qax _ _) rfl ?_;refine Qac h (fun hb h=>?_) (fun hb h=>?_)
 ·refine Qa7 (l:=p0) (c:=cStr) (c' := cStr) h (fun _=>rfl) (fun _=>rfl) (by decide) (fun x4 hi h=>?_);refine Qac h (fun hb h=>?_) (fun hb h=>?_)
  ·exact JP2.b h (Le.tz 0 0 rfl rfl rfl)
  ·refine TL.le (τ := Qsq p0 p1 (wr (v5+1))) ?_ ((iQnk (wr (v5+1)) _ h));exact Le.tz 0 0 rfl rfl rfl
 ·exact JP2.a h (Le.tz 0 0 rfl rfl rfl)
end Go.Proofs.YtfgegilhjlnohaaGreat
end
