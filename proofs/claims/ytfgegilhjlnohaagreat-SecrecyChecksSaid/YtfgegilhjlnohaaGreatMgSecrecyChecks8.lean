/- The proof's texts, part 8 of 13: the walks by a logic in which data are by value, the plain laws, and at the end the law, for every input. -/
import Derived.Test.YtfgegilhjlnohaaGreatMgSecrecyChecks7

noncomputable section
set_option linter.unusedVariables false
set_option linter.unusedSimpArgs false
set_option maxRecDepth 100000
set_option maxHeartbeats 4000000
namespace Go.Proofs.YtfgegilhjlnohaaGreat
open Go.RowKit
structure Qab where
 Kind:Int
 Name:(List UInt8)
 Text:(List UInt8)
 N:Int
 L:(List Qab)
 Then:(List Qab)
 Else:(List Qab)
mutual
def Qaa:Qab→List V
 | ⟨x0,x1,x2,x3,x4,x5,x6⟩=>[iV x0,sV x1,sV x2,iV x3,.sl false (Qkb x4),.sl false (Qkb x5),.sl false (Qkb x6)]
def Qkb:List Qab→List (List V)
 | []=>[]
 | x::r=>Qaa x::Qkb r
end
theorem Qsf:∀ l:List Qab,Qkb l=l.map Qaa
 | []=>rfl
 | x::r=>by rw[Qkb,Qsf r]; rfl
def Qa2 (x:Qab):List V:=[iV x.Kind,sV x.Name,sV x.Text,iV x.N,.sl false (x.L.map Qaa),.sl false (x.Then.map Qaa),.sl false (x.Else.map Qaa)]
theorem Qao(x:Qab):Qaa x=Qa2 x:=by cases x; simp[Qaa,Qa2,Qsf]
structure Qae where
 Name:(List UInt8)
 L:(List Qab)
def Qaf (x:Qae):List V:=[sV x.Name,.sl false (x.L.map Qaa)]
structure Qdo where
 name_:Bool
 text_:Bool
 num_:Bool
 then_:Bool
 other_:Bool
 l_:Int
def Qit (y:Bool):D :=.p (bV y)
def Q7k:List (Nat×List Nat):=[(0,[0,1,2]),(1,[6]),(3000001,[])]
def Q1v  (o1:Bool):St:=⟨[(6,.p (bV o1))],⟨[],[]⟩⟩
def Qkc (y:(List UInt8)):D :=.p (sV y)
def Qabn:List (Nat×List Nat):=[(0,[0]),(1,[0,5]),(2,[0]),(3,[0,7]),(4,[2]),(5,[0,13]),(6,[2]),(7,[0,25]),(8,[2]),(9,[2]),(2001005,[])]
def Q3m  (o1:Int):St:=⟨[(0,.p (iV o1))],⟨[],[]⟩⟩
def Q0u (y:Bool):D :=.p (bV y)
def Qabo:List (Nat×List Nat):=[(0,[0]),(1,[0,3]),(2,[0,3,9]),(3,[0,3,4,5]),(4,[0,3,5,21]),(5,[2]),(6,[0,3]),(7,[2]),(1000002,[0,3]),(3000004,[])]
def Qaej (p0:(List UInt8)) (v3:Int) (x4:Int×Int) (o5:Bool):St:=⟨[(0,.p (sV p0)),(3,.p (iV v3)),(5,.p (iV x4.2)),(21,.p (bV o5))],⟨[],[]⟩⟩
def Qsg (p0:(List UInt8)) (v3:Int):St:=⟨[(0,.p (sV p0)),(3,.p (iV v3))],⟨[],[]⟩⟩
def Qy2 (p0:(List UInt8)) (y2:Unit):St:=⟨[],⟨[],[]⟩⟩
def Qy3 (p0:(List UInt8)) (y3:Unit):St:=⟨[(2,.p (bV false))],⟨[],[]⟩⟩
def Qaek:Code:=((Qaz (Tryz.f179.body.getD .skip)).getD 0 .skip)
def Qmo (y:Int×Int):D :=.tup [.p (iV y.1),.p (iV y.2)]
def Qvy:List (Nat×List Nat):=[(0,[0,1]),(1,[0,1,17]),(2,[4,5]),(3,[0,1,6]),(4,[0,1,6,7]),(5,[0,1,6,7,28]),(6,[0,1,6,7]),(7,[0,1,6,7,8]),(8,[0,1,6,7,8,9]),(9,[0,1,6,7,8,9,42]),(10,[0,1,6,7,8,9]),(11,[0,1,6,7,8,9]),(12,[0,1,6,7,8,71]),(13,[4,5]),(14,[4,5]),(1000005,[0,1,6,7]),(1000009,[0,1,6,7,8,9]),(3000001,[]),(3000005,[]),(3000012,[])]
def Q7l (p0:(List UInt8)) (p1:Int) (o1:Bool):St:=⟨[(0,.p (sV p0)),(1,.p (iV p1)),(17,.p (bV o1))],⟨[],[]⟩⟩
def Q7m (p0:(List UInt8)) (p1:Int) (v6:(List Int)) (v7:Int) (o5:Bool):St:=⟨[(0,.p (sV p0)),(1,.p (iV p1)),(6,.p (.sl true (v6.map cInt))),(7,.p (iV v7)),(28,.p (bV o5))],⟨[],[]⟩⟩
def Qom (p0:(List UInt8)) (p1:Int) (v6:(List Int)) (v7:Int) (v8:Int) (v9:Int):St:=⟨[(0,.p (sV p0)),(1,.p (iV p1)),(6,.p (.sl true (v6.map cInt))),(7,.p (iV v7)),(8,.p (iV v8)),(9,.p (iV v9))],⟨[],[]⟩⟩
def Qu7 (p0:(List UInt8)) (p1:Int) (v6:(List Int)) (v7:Int) (o8:Int):St:=⟨[(0,.p (sV p0)),(1,.p (iV p1)),(6,.p (.sl true (v6.map cInt))),(7,.p (iV v7)),(8,.p (iV o8))],⟨[],[]⟩⟩
def Q7n:Code:=((Qaz (Tryz.f171.body.getD .skip)).getD 1 .skip)
def Q7o (p0:(List UInt8)) (p1:Int) (v6:(List Int)) (v7:Int) (o8:Int) (o10:Bool):St:=⟨[(0,.p (sV p0)),(1,.p (iV p1)),(6,.p (.sl true (v6.map cInt))),(7,.p (iV v7)),(8,.p (iV o8)),(71,.p (bV o10))],⟨[],[]⟩⟩
def Qon (p0:(List UInt8)) (p1:Int) (v6:(List Int)) (v7:Int):St:=⟨[(0,.p (sV p0)),(1,.p (iV p1)),(6,.p (.sl true (v6.map cInt))),(7,.p (iV v7))],⟨[],[]⟩⟩
def Qu8 (p0:(List UInt8)) (p1:Int) (y3:Unit):St:=⟨[],⟨[],[]⟩⟩
def Qu9 (p0:(List UInt8)) (p1:Int) (y4:Int×Int):St:=⟨[(4,.p (iV y4.1)),(5,.p (iV y4.2))],⟨[],[]⟩⟩
def Q7p:Code:=((Qaz (Tryz.f171.body.getD .skip)).getD 0 .skip)
def Qud (y:Bool):D :=.p (bV y)
def Qael:List (Nat×List Nat):=[(0,[0]),(1,[2]),(3000001,[])]
def Q7q  (o1:Bool):St:=⟨[(2,.p (bV o1))],⟨[],[]⟩⟩
def Qm2 (y:(List UInt8)×Bool):D :=.tup [.p (sV y.1),.p (bV y.2)]
def Qy4:List (Nat×List Nat):=[(0,[0]),(1,[0,9]),(2,[2,3]),(3,[0,4]),(4,[0,4,5]),(5,[0,4,5,13]),(6,[0,4,5]),(7,[0,4,5,6]),(8,[0,4,5,6,22]),(9,[2,3]),(10,[0,4,5,6,24]),(11,[0,4,5,6]),(12,[0,4,5,6,26]),(13,[0,4,5,6]),(14,[0,4,5,6,32]),(15,[0,4,5,6]),(16,[0,4,5]),(17,[2,3]),(1000005,[0,4,5]),(2010013,[]),(3000014,[])]
def Q3n (p0:(List UInt8)) (v4:(List UInt8)) (v5:Int) (o6:(List UInt8)):St:=⟨[(0,.p (sV p0)),(4,.p (sV v4)),(5,.p (iV v5)),(6,.p (sV o6))],⟨[],[]⟩⟩
def Q3o (p0:(List UInt8)) (v4:(List UInt8)) (v5:Int) (x5:(List UInt8)) (o7:Bool):St:=⟨[(0,.p (sV p0)),(4,.p (sV v4)),(5,.p (iV v5)),(6,.p (sV x5)),(32,.p (bV o7))],⟨[],[]⟩⟩
def Qm3 (p0:(List UInt8)) (v4:(List UInt8)) (v5:Int):St:=⟨[(0,.p (sV p0)),(4,.p (sV v4)),(5,.p (iV v5))],⟨[],[]⟩⟩
def Qsh (p0:(List UInt8)) (y3:(List UInt8)):St:=⟨[(4,.p (sV y3))],⟨[],[]⟩⟩
def Qsi (p0:(List UInt8)) (y4:Unit):St:=⟨[(2,.p (sV [])),(3,.p (bV false))],⟨[],[]⟩⟩
def Q3p:Code:=((Qaz (Tryz.f170.body.getD .skip)).getD 0 .skip)
def Qhi (y:Bool):D :=.p (bV y)
def Q1w:List (Nat×List Nat):=[(0,[0]),(1,[0,17]),(2,[2]),(3,[0,3]),(4,[0,3,21]),(5,[0,3]),(6,[0,3,41]),(7,[2]),(8,[2]),(1000004,[0,3]),(3000001,[]),(3000006,[])]
def Q7r (p0:(List UInt8)) (o1:Bool):St:=⟨[(0,.p (sV p0)),(17,.p (bV o1))],⟨[],[]⟩⟩
def Q7s (p0:(List UInt8)) (v3:Int) (o7:Bool):St:=⟨[(0,.p (sV p0)),(3,.p (iV v3)),(41,.p (bV o7))],⟨[],[]⟩⟩
def Qoo (p0:(List UInt8)) (v3:Int):St:=⟨[(0,.p (sV p0)),(3,.p (iV v3))],⟨[],[]⟩⟩
def Qva (p0:(List UInt8)) (y5:Unit):St:=⟨[],⟨[],[]⟩⟩
def Qvb (p0:(List UInt8)) (y6:Unit):St:=⟨[(2,.p (bV false))],⟨[],[]⟩⟩
def Q7t:Code:=((Qaz (Tryz.f77.body.getD .skip)).getD 0 .skip)
def Qkd (y:Bool):D :=.p (bV y)
def Qabp:List (Nat×List Nat):=[(0,[0]),(1,[2]),(3000001,[])]
def Q3q  (o1:Bool):St:=⟨[(2,.p (bV o1))],⟨[],[]⟩⟩
def Qke (y:Bool):D :=.p (bV y)
def Qabq:List (Nat×List Nat):=[(0,[0]),(1,[2]),(3000001,[])]
def Q3r  (o1:Bool):St:=⟨[(2,.p (bV o1))],⟨[],[]⟩⟩
def Qgk (y:Int):D :=.p (iV y)
def Qy5:List (Nat×List Nat):=[(0,[0]),(1,[0,3]),(2,[0,3,4]),(3,[0,3,4,8]),(4,[0,3,4]),(5,[0,3,4]),(6,[2]),(1000003,[0,3,4])]
def Qm4 (p0:(List Qab)) (v3:Int) (v4:Int):St:=⟨[(0,.p (.sl false (p0.map Qaa))),(3,.p (iV v3)),(4,.p (iV v4))],⟨[],[]⟩⟩
def Qsj (p0:(List Qab)) (o1:Int):St:=⟨[(3,.p (iV o1))],⟨[],[]⟩⟩
def Q3s:Code:=((Qaz (Tryz.f80.body.getD .skip)).getD 0 .skip)
def Qiu (y:Int):D :=.p (iV y)
def Q1x:List (Nat×List Nat):=[(0,[0]),(1,[0,3]),(2,[0,3,4]),(3,[0,3,4,8]),(4,[0,3,4]),(5,[0,3,4]),(6,[2]),(1000003,[0,3,4])]
def Qop (p0:(List Qab)) (v3:Int) (v4:Int):St:=⟨[(0,.p (.sl false (p0.map Qaa))),(3,.p (iV v3)),(4,.p (iV v4))],⟨[],[]⟩⟩
def Qvc (p0:(List Qab)) (o1:Int):St:=⟨[(3,.p (iV o1))],⟨[],[]⟩⟩
def Q7u:Code:=((Qaz (Tryz.f79.body.getD .skip)).getD 0 .skip)
def Q7v (y:Bool):D :=.p (bV y)
def Qaj9:List (Nat×List Nat):=[(0,[0]),(1,[2]),(3000001,[])]
def Qaem  (o1:Bool):St:=⟨[(2,.p (bV o1))],⟨[],[]⟩⟩
def Qhj (y:Bool):D :=.p (bV y)
def Q1y:List (Nat×List Nat):=[(0,[0]),(1,[0,3]),(2,[0,3,4]),(3,[0,3,4,9]),(4,[0,3,4]),(5,[0,3,4,17]),(6,[2]),(7,[2]),(1000003,[0,3,4])]
def Qoq (p0:(List UInt8)) (x1:(List (List UInt8))) (v4:Int):St:=⟨[(0,.p (sV p0)),(3,.p (.sl false (x1.map cStr))),(4,.p (iV v4))],⟨[],[]⟩⟩
def Qvd (p0:(List UInt8)) (x1:(List (List UInt8))) (y3:Unit):St:=⟨[(0,.p (sV p0))],⟨[],[]⟩⟩
def Qve (p0:(List UInt8)) (x1:(List (List UInt8))) (y4:Unit):St:=⟨[(2,.p (bV false))],⟨[],[]⟩⟩
def Q7w:Code:=((Qaz (Tryz.f43.body.getD .skip)).getD 0 .skip)
def Qvz (y:(List (List UInt8))):D :=.p (.sl false (y.map cStr))
def Qabr:List (Nat×List Nat):=[(0,[]),(1,[0])]
def Qc5 (y:Bool):D :=.p (bV y)
def Qaen:List (Nat×List Nat):=[(0,[1,2,3,4,5,6]),(1,[12]),(3000001,[])]
def Q7x (p0:Qab) (o1:Bool):St:=⟨[(12,.p (bV o1))],⟨[[.p (iV p0.Kind),.p (sV p0.Name),.p (sV p0.Text),.p (iV p0.N),.p (.sl false (p0.L.map Qaa)),.p (.sl false (p0.Then.map Qaa)),.p (.sl false (p0.Else.map Qaa))]],[]⟩⟩
def Qgl (y:Bool):D :=.p (bV y)
def Qy6:List (Nat×List Nat):=[(0,[0,1]),(1,[0,1,5]),(2,[0,1,5,11]),(3,[0,1,5]),(4,[0,1,5,19]),(5,[4]),(6,[0,1,5,25]),(7,[0,1,5,6]),(8,[0,1,5,6,7]),(9,[0,1,5,61]),(10,[4]),(11,[4]),(1000002,[0,1,5]),(3000009,[])]
def Q3t (p0:(List Qab)) (p1:Bool) (v5:Int) (o8:Bool):St:=⟨[(0,.p (.sl false (p0.map Qaa))),(1,.p (bV p1)),(5,.p (iV v5)),(61,.p (bV o8))],⟨[],[]⟩⟩
def Qi5 (p0:(List Qab)) (p1:Bool) (v5:Int):St:=⟨[(0,.p (.sl false (p0.map Qaa))),(1,.p (bV p1)),(5,.p (iV v5))],⟨[],[]⟩⟩
def Qsk (p0:(List Qab)) (p1:Bool) (y2:Unit):St:=⟨[],⟨[],[]⟩⟩
def Qsl (p0:(List Qab)) (p1:Bool) (y3:Unit):St:=⟨[(4,.p (bV false))],⟨[],[]⟩⟩
def Q3u:Code:=((Qaz (Tryz.f78.body.getD .skip)).getD 0 .skip)
def Qf6 (y:Bool):D :=.p (bV y)
def Qaeo:List (Nat×List Nat):=[(0,[1]),(1,[1,6]),(2,[1,6,7]),(3,[1,4]),(4,[2]),(5,[1,6,20]),(6,[2]),(7,[1,6,24]),(8,[2]),(9,[1,6,38]),(10,[2]),(11,[1,6,47]),(12,[2]),(13,[1,6,67]),(14,[2]),(15,[1,87]),(16,[2]),(17,[2]),(3000004,[]),(3000008,[]),(3000010,[]),(3000012,[]),(3000014,[]),(3000016,[])]
def Q7y (p0:Qab) (o2:Bool):St:=⟨[(2,.p (bV o2))],⟨[[.p (iV p0.Kind),.p (sV p0.Name),.p (sV p0.Text),.p (iV p0.N),.p (.sl false (p0.L.map Qaa)),.p (.sl false (p0.Then.map Qaa)),.p (.sl false (p0.Else.map Qaa))]],[]⟩⟩
def Q7z (p0:Qab) (o5:Bool):St:=⟨[(2,.p (bV o5))],⟨[[.p (iV p0.Kind),.p (sV p0.Name),.p (sV p0.Text),.p (iV p0.N),.p (.sl false (p0.L.map Qaa)),.p (.sl false (p0.Then.map Qaa)),.p (.sl false (p0.Else.map Qaa))]],[]⟩⟩
def Q70 (p0:Qab) (o8:Bool):St:=⟨[(2,.p (bV o8))],⟨[[.p (iV p0.Kind),.p (sV p0.Name),.p (sV p0.Text),.p (iV p0.N),.p (.sl false (p0.L.map Qaa)),.p (.sl false (p0.Then.map Qaa)),.p (.sl false (p0.Else.map Qaa))]],[]⟩⟩
def Q71 (p0:Qab) (o11:Bool):St:=⟨[(2,.p (bV o11))],⟨[[.p (iV p0.Kind),.p (sV p0.Name),.p (sV p0.Text),.p (iV p0.N),.p (.sl false (p0.L.map Qaa)),.p (.sl false (p0.Then.map Qaa)),.p (.sl false (p0.Else.map Qaa))]],[]⟩⟩
def Q72 (p0:Qab) (o15:Bool):St:=⟨[(2,.p (bV o15))],⟨[[.p (iV p0.Kind),.p (sV p0.Name),.p (sV p0.Text),.p (iV p0.N),.p (.sl false (p0.L.map Qaa)),.p (.sl false (p0.Then.map Qaa)),.p (.sl false (p0.Else.map Qaa))]],[]⟩⟩
def Q73 (p0:Qab) (o19:Bool):St:=⟨[(2,.p (bV o19))],⟨[[.p (iV p0.Kind),.p (sV p0.Name),.p (sV p0.Text),.p (iV p0.N),.p (.sl false (p0.L.map Qaa)),.p (.sl false (p0.Then.map Qaa)),.p (.sl false (p0.Else.map Qaa))]],[]⟩⟩
def Qid (y:Bool):D :=.p (bV y)
def Qy7:List (Nat×List Nat):=[(0,[0]),(1,[0,3]),(2,[0,3,7]),(3,[0,3]),(4,[0,3,15]),(5,[2]),(6,[2]),(1000002,[0,3])]
def Qm5 (p0:(List Qab)) (v3:Int):St:=⟨[(0,.p (.sl false (p0.map Qaa))),(3,.p (iV v3))],⟨[],[]⟩⟩
def Qsm (p0:(List Qab)) (y2:Unit):St:=⟨[],⟨[],[]⟩⟩
def Qsn (p0:(List Qab)) (y3:Unit):St:=⟨[(2,.p (bV false))],⟨[],[]⟩⟩
def Q3v:Code:=((Qaz (Tryz.f130.body.getD .skip)).getD 0 .skip)
def Qn1 (y:Bool):D :=.p (bV y)
def Qw4:List (Nat×List Nat):=[(0,[0,1]),(1,[0,1,5]),(2,[0,1,5,9]),(3,[0,1,5]),(4,[0,1,5,15]),(5,[4]),(6,[4]),(1000002,[0,1,5])]
def Qlv (p0:(List UInt8)) (p1:(List UInt8)) (v5:Int):St:=⟨[(0,.p (sV p0)),(1,.p (sV p1)),(5,.p (iV v5))],⟨[],[]⟩⟩
def Qq8 (p0:(List UInt8)) (p1:(List UInt8)) (y2:Unit):St:=⟨[],⟨[],[]⟩⟩
def Qq9 (p0:(List UInt8)) (p1:(List UInt8)) (y3:Unit):St:=⟨[(4,.p (bV true))],⟨[],[]⟩⟩
def Q1z:Code:=((Qaz (Tryz.f131.body.getD .skip)).getD 0 .skip)
def Qiv (y:Bool):D :=.p (bV y)
def Qaep:List (Nat×List Nat):=[(0,[1]),(1,[1,3]),(2,[1,3,14]),(3,[1,3,14,15]),(4,[2]),(5,[1,3,14,30]),(6,[2]),(7,[1,3,14,37]),(8,[2]),(9,[1,3,14,54]),(10,[1,3,14,54]),(11,[2]),(12,[1,3,72]),(13,[2]),(14,[2]),(2009005,[]),(3000001,[]),(3000004,[]),(3000006,[]),(3000008,[]),(3000011,[]),(3000013,[])]
def Q74 (p0:Qab) (o1:Bool):St:=⟨[(1,.ptr 0 0),(3,.p (bV o1))],⟨[[.p (iV p0.Kind),.p (sV p0.Name),.p (sV p0.Text),.p (iV p0.N),.p (.sl false (p0.L.map Qaa)),.p (.sl false (p0.Then.map Qaa)),.p (.sl false (p0.Else.map Qaa))]],[]⟩⟩
def Q75 (p0:Qab) (o3:Bool):St:=⟨[(2,.p (bV o3))],⟨[[.p (iV p0.Kind),.p (sV p0.Name),.p (sV p0.Text),.p (iV p0.N),.p (.sl false (p0.L.map Qaa)),.p (.sl false (p0.Then.map Qaa)),.p (.sl false (p0.Else.map Qaa))]],[]⟩⟩
def Q76 (p0:Qab) (o6:Bool):St:=⟨[(2,.p (bV o6))],⟨[[.p (iV p0.Kind),.p (sV p0.Name),.p (sV p0.Text),.p (iV p0.N),.p (.sl false (p0.L.map Qaa)),.p (.sl false (p0.Then.map Qaa)),.p (.sl false (p0.Else.map Qaa))]],[]⟩⟩
def Q77 (p0:Qab) (o8:Bool):St:=⟨[(2,.p (bV o8))],⟨[[.p (iV p0.Kind),.p (sV p0.Name),.p (sV p0.Text),.p (iV p0.N),.p (.sl false (p0.L.map Qaa)),.p (.sl false (p0.Then.map Qaa)),.p (.sl false (p0.Else.map Qaa))]],[]⟩⟩
def Q78 (p0:Qab) (o1:Bool) (o12:Bool):St:=⟨[(1,.ptr 0 0),(3,.p (bV o1)),(14,.p (iV p0.Kind)),(54,.p (bV o12))],⟨[[.p (iV p0.Kind),.p (sV p0.Name),.p (sV p0.Text),.p (iV p0.N),.p (.sl false (p0.L.map Qaa)),.p (.sl false (p0.Then.map Qaa)),.p (.sl false (p0.Else.map Qaa))]],[]⟩⟩
def Q79 (p0:Qab) (o13:Bool):St:=⟨[(2,.p (bV o13))],⟨[[.p (iV p0.Kind),.p (sV p0.Name),.p (sV p0.Text),.p (iV p0.N),.p (.sl false (p0.L.map Qaa)),.p (.sl false (p0.Then.map Qaa)),.p (.sl false (p0.Else.map Qaa))]],[]⟩⟩
def Q8a (p0:Qab) (o17:Bool):St:=⟨[(2,.p (bV o17))],⟨[[.p (iV p0.Kind),.p (sV p0.Name),.p (sV p0.Text),.p (iV p0.N),.p (.sl false (p0.L.map Qaa)),.p (.sl false (p0.Then.map Qaa)),.p (.sl false (p0.Else.map Qaa))]],[]⟩⟩
def Qgm (y:(List UInt8)×Int):D :=.tup [.p (sV y.1),.p (iV y.2)]
def Qlf:List (Nat×List Nat):=[(0,[0]),(1,[0,15]),(2,[2,3]),(3,[0,4]),(4,[0,4,19]),(5,[0,4]),(6,[0,4,37]),(7,[2,3]),(8,[0,4,6]),(9,[0,4,55]),(10,[2,3]),(11,[0,7]),(12,[0,7,64]),(13,[0,7]),(14,[0,7,8]),(15,[0,7,8,9]),(16,[0,7,8,9,76]),(17,[0,7,8,9]),(18,[0,7,8,9,11]),(19,[0,7,8,9,89]),(20,[2,3]),(21,[0,12]),(22,[0,12,98]),(23,[0,12]),(24,[0,12,113]),(25,[2,3]),(26,[2,3]),(1000004,[0,4]),(1000012,[0,7]),(1000016,[0,7,8,9]),(1000022,[0,12]),(3000006,[]),(5000024,[1006])]
def Q3w (p0:(List Qae)) (v4:Int) (o4:Bool):St:=⟨[(0,.p (.sl false (p0.map Qaf))),(4,.p (iV v4)),(37,.p (bV o4))],⟨[],[]⟩⟩
def Qm6 (p0:(List Qae)) (v4:Int):St:=⟨[(0,.p (.sl false (p0.map Qaf))),(4,.p (iV v4))],⟨[],[]⟩⟩
def Qso (p0:(List Qae)) (y2:Unit):St:=⟨[(0,.p (.sl false (p0.map Qaf)))],⟨[],[]⟩⟩
def Qsp (p0:(List Qae)) (y3:(List UInt8)×Int):St:=⟨[(2,.p (sV y3.1)),(3,.p (iV y3.2))],⟨[],[]⟩⟩
def Q3x:Code:=((Qaz (Tryz.f14.body.getD .skip)).getD 0 .skip)
def Qm7 (p0:(List Qae)) (v7:Int) (x18:(List (List UInt8))) (v9:Int):St:=⟨[(0,.p (.sl false (p0.map Qaf))),(7,.p (iV v7)),(8,.own 0 9 1 (x18.map cStr)),(9,.p (iV v9))],⟨[],[(x18.map cStr).length]⟩⟩
def Qsq (p0:(List Qae)) (v7:Int) (x18:(List (List UInt8))) (y20:Unit):St:=⟨[(0,.p (.sl false (p0.map Qaf))),(7,.p (iV v7))],⟨[],[(x18.map cStr).length]⟩⟩
def Qsr (p0:(List Qae)) (v7:Int) (x18:(List (List UInt8))) (y21:(List UInt8)):St:=⟨[(2,.p (sV y21)),(3,.p (iV 4))],⟨[],[(x18.map cStr).length]⟩⟩
def Q3y:Code:=((Qaz (Tryz.f14.body.getD .skip)).getD 2 .skip)
def Qm8 (p0:(List Qae)) (v7:Int):St:=⟨[(0,.p (.sl false (p0.map Qaf))),(7,.p (iV v7))],⟨[],[]⟩⟩
def Qss (p0:(List Qae)) (y15:Unit):St:=⟨[(0,.p (.sl false (p0.map Qaf)))],⟨[],[]⟩⟩
def Qst (p0:(List Qae)) (y16:(List UInt8)):St:=⟨[(2,.p (sV y16)),(3,.p (iV 4))],⟨[],[]⟩⟩
def Q3z:Code:=((Qaz (Tryz.f14.body.getD .skip)).getD 1 .skip)
def Qm9 (p0:(List Qae)) (v12:Int):St:=⟨[(0,.p (.sl false (p0.map Qaf))),(12,.p (iV v12))],⟨[],[]⟩⟩
def Qsu (p0:(List Qae)) (y26:Unit):St:=⟨[],⟨[],[]⟩⟩
def Qsv (p0:(List Qae)) (y27:(List UInt8)):St:=⟨[(2,.p (sV y27)),(3,.p (iV 10))],⟨[],[]⟩⟩
def Q30:Code:=((Qaz (Tryz.f14.body.getD .skip)).getD 3 .skip)
def Qe1 (y:(List Qab)×Bool):D :=.tup [.p (.sl false (y.1.map Qaa)),.p (bV y.2)]
def Q10:List (Nat×List Nat):=[(0,[0,1]),(1,[0,1,6]),(2,[0,1,6,10]),(3,[0,1,6]),(4,[0,1,6,19]),(5,[4,5]),(6,[4,5]),(1000002,[0,1,6])]
def Qor (p0:(List Qae)) (p1:(List UInt8)) (v6:Int):St:=⟨[(0,.p (.sl false (p0.map Qaf))),(1,.p (sV p1)),(6,.p (iV v6))],⟨[],[]⟩⟩
def Qvf (p0:(List Qae)) (p1:(List UInt8)) (y2:Unit):St:=⟨[],⟨[],[]⟩⟩
def Qvg (p0:(List Qae)) (p1:(List UInt8)) (y3:(List Qab)):St:=⟨[(4,.p (.sl false (y3.map Qaa))),(5,.p (bV true))],⟨[],[]⟩⟩
def Q8b:Code:=((Qaz (Tryz.f31.body.getD .skip)).getD 0 .skip)
def Qw5 (y:Bool):D :=.p (bV y)
def Qabs:List (Nat×List Nat):=[(0,[0,1]),(1,[0,1,5]),(2,[0,1,5,9]),(3,[0,1,5]),(4,[0,1,5,17]),(5,[4]),(6,[4]),(1000002,[0,1,5])]
def Qsw (p0:(List (List UInt8))) (p1:(List UInt8)) (v5:Int):St:=⟨[(0,.p (.sl false (p0.map cStr))),(1,.p (sV p1)),(5,.p (iV v5))],⟨[],[]⟩⟩
def Qy8 (p0:(List (List UInt8))) (p1:(List UInt8)) (y2:Unit):St:=⟨[],⟨[],[]⟩⟩
def Qy9 (p0:(List (List UInt8))) (p1:(List UInt8)) (y3:Unit):St:=⟨[(4,.p (bV true))],⟨[],[]⟩⟩
def Qaeq:Code:=((Qaz (Tryz.f21.body.getD .skip)).getD 0 .skip)
def Qyj (y:(List (List UInt8))):D :=.own 0 9 1 (y.map cStr)
def Qv0:List (Nat×List Nat):=[(0,[0]),(1,[0,3]),(2,[0,3,4]),(3,[0,3,4,11]),(4,[0,3,4]),(5,[0,3,4,19]),(6,[0,3,4]),(7,[0,3,4,5]),(8,[0,3,4,5,6]),(9,[0,3,4,5,6,43]),(10,[0,3,4,5,6]),(11,[0,3,4,5,6]),(12,[2]),(1000003,[0,3,4]),(1000009,[0,3,4,5,6]),(2005005,[]),(5000007,[1005,1011]),(9000006,[6,0,0,0]),(9000011,[5,0,0,0])]
def Q8c (p0:(List Qab)) (v4:Int) (o2:(List (List UInt8))):St:=⟨[(0,.p (.sl false (p0.map Qaa))),(3,.own 0 9 1 (o2.map cStr)),(4,.p (iV v4))],⟨[],[(o2.map cStr).length]⟩⟩
def Qos (p0:(List Qab)) (v4:Int) (x9:(List (List UInt8))) (x10:(List (List UInt8))) (v3_:(List (List UInt8))) (v6:Int):St:=⟨[(0,.p (.sl false (p0.map Qaa))),(3,.own 0 9 1 (v3_.map cStr)),(4,.p (iV v4)),(5,.own 1 9 1 (x10.map cStr)),(6,.p (iV v6))],⟨[],[(v3_.map cStr).length,(x10.map cStr).length,(x9.map cStr).length]⟩⟩
def Qvh (p0:(List Qab)) (v4:Int) (x9:(List (List UInt8))) (x10:(List (List UInt8))) (o11:(List (List UInt8))):St:=⟨[(0,.p (.sl false (p0.map Qaa))),(3,.own 0 9 1 (o11.map cStr)),(4,.p (iV v4))],⟨[],[(o11.map cStr).length,(x10.map cStr).length,(x9.map cStr).length]⟩⟩
def Q8d:Code:=((Qaz (Tryz.f45.body.getD .skip)).getD 1 .skip)
def Qot (p0:(List Qab)) (v3:(List (List UInt8))) (v4:Int):St:=⟨[(0,.p (.sl false (p0.map Qaa))),(3,.own 0 9 1 (v3.map cStr)),(4,.p (iV v4))],⟨[],[(v3.map cStr).length]⟩⟩
def Qvi (p0:(List Qab)) (o1:(List (List UInt8))):St:=⟨[(3,.own 0 9 1 (o1.map cStr))],⟨[],[(o1.map cStr).length]⟩⟩
def Q8e:Code:=((Qaz (Tryz.f45.body.getD .skip)).getD 0 .skip)
def Q11 (y:(List (List UInt8))):D :=.own 0 9 1 (y.map cStr)
def Qn2:List (Nat×List Nat):=[(0,[0,1]),(1,[0,5]),(2,[0,7]),(3,[0,7,8]),(4,[0,7,8,26]),(5,[0,7,8]),(6,[0,7,8,9]),(7,[0,7,8,9,10]),(8,[0,7,8,9,10,33]),(9,[0,7,8,9,10]),(10,[0,7,8,9,10,11]),(11,[0,7,8,9,10,13]),(12,[0,7,8,9,10,13,14]),(13,[0,7,8,9,10,13,14,50]),(14,[0,7,8,9,10,13,14]),(15,[0,7,8,9,10,13,14]),(16,[4]),(1000004,[0,7,8]),(1000008,[0,7,8,9,10]),(1000013,[0,7,8,9,10,13,14]),(9000015,[5,0,0,0])]
def Qna (p0:(List Qae)) (v7:(List (List UInt8))) (v8:Int) (v10:Int) (x7:(List (List UInt8))) (v7__:(List (List UInt8))) (v14:Int):St:=⟨[(0,.p (.sl false (p0.map Qaf))),(7,.own 0 9 1 (v7__.map cStr)),(8,.p (iV v8)),(9,.p (.sl false (v7.map cStr))),(10,.p (iV v10)),(13,.own 1 9 1 (x7.map cStr)),(14,.p (iV v14))],⟨[],[(v7__.map cStr).length,(x7.map cStr).length]⟩⟩
def Qsx (p0:(List Qae)) (v7:(List (List UInt8))) (v8:Int) (v10:Int) (x7:(List (List UInt8))) (o8:(List (List UInt8))):St:=⟨[(0,.p (.sl false (p0.map Qaf))),(7,.own 0 9 1 (o8.map cStr)),(8,.p (iV v8)),(9,.p (.sl false (v7.map cStr))),(10,.p (iV v10))],⟨[],[(o8.map cStr).length,(x7.map cStr).length]⟩⟩
def Q31:Code:=((Qaz (Tryz.f46.body.getD .skip)).getD 2 .skip)
def Qnb (p0:(List Qae)) (v7:(List (List UInt8))) (v8:Int) (v7_:(List (List UInt8))) (v10:Int):St:=⟨[(0,.p (.sl false (p0.map Qaf))),(7,.own 0 9 1 (v7_.map cStr)),(8,.p (iV v8)),(9,.p (.sl false (v7.map cStr))),(10,.p (iV v10))],⟨[],[(v7_.map cStr).length]⟩⟩
def Qsy (p0:(List Qae)) (v7:(List (List UInt8))) (v8:Int) (o4:(List (List UInt8))):St:=⟨[(0,.p (.sl false (p0.map Qaf))),(7,.own 0 9 1 (o4.map cStr)),(8,.p (iV v8))],⟨[],[(o4.map cStr).length]⟩⟩
def Q32:Code:=((Qaz (Tryz.f46.body.getD .skip)).getD 1 .skip)
def Qnc (p0:(List Qae)) (v7:(List (List UInt8))) (v8:Int):St:=⟨[(0,.p (.sl false (p0.map Qaf))),(7,.own 0 9 1 (v7.map cStr)),(8,.p (iV v8))],⟨[],[(v7.map cStr).length]⟩⟩
def Qsz (p0:(List Qae)) (o3:(List (List UInt8))):St:=⟨[(7,.own 0 9 1 (o3.map cStr))],⟨[],[(o3.map cStr).length]⟩⟩
def Q33:Code:=((Qaz (Tryz.f46.body.getD .skip)).getD 0 .skip)
def Qyk (y:(List (List UInt8))):D :=.own 0 9 1 (y.map cStr)
def Q12:List (Nat×List Nat):=[(0,[0,1]),(1,[0,1,8]),(2,[4]),(3,[0,1,5]),(4,[0,1,5,21]),(5,[0,1,5]),(6,[0,4]),(1000004,[0,1,5]),(3000004,[])]
def Q8f (p0:(List (List UInt8))) (p1:(List UInt8)) (v5:Int) (o3:Bool):St:=⟨[(0,.own 0 9 1 (p0.map cStr)),(1,.p (sV p1)),(5,.p (iV v5)),(21,.p (bV o3))],⟨[],[(p0.map cStr).length]⟩⟩
def Qou (p0:(List (List UInt8))) (p1:(List UInt8)) (v5:Int):St:=⟨[(0,.own 0 9 1 (p0.map cStr)),(1,.p (sV p1)),(5,.p (iV v5))],⟨[],[(p0.map cStr).length]⟩⟩
def Qvj (p0:(List (List UInt8))) (p1:(List UInt8)) (o2:Int):St:=⟨[(0,.own 0 9 1 (p0.map cStr)),(1,.p (sV p1)),(5,.p (iV o2))],⟨[],[(p0.map cStr).length]⟩⟩
def Q8g:Code:=((Qaz (Tryz.f55.body.getD .skip)).getD 0 .skip)
def Qeh (y:(List UInt8)×Int):D :=.tup [.p (sV y.1),.p (iV y.2)]
def Qh0:List (Nat×List Nat):=[(0,[0]),(1,[0,19]),(2,[2,3]),(3,[0,20,21,22]),(4,[0,20,21,22,23]),(5,[0,4,5,20,21,22]),(6,[0,4,5,20,21,22,36]),(7,[2,3]),(8,[0,5,7,20,21,22]),(9,[0,5,20,21,22,48]),(10,[2,3]),(11,[0,20,21,22]),(12,[0,8]),(13,[0,8,54,55,56]),(14,[0,8,54,55,56,57]),(15,[0,8,10,54,55,56]),(16,[0,8,10,54,55,56,64,65,66]),(17,[0,8,10,54,55,56,64,65,66,67]),(18,[0,8,10,12,54,55,56,64,65,66]),(19,[0,8,10,14,54,55,56,64,65,66]),(20,[0,8,10,54,55,56,64,65,66,78]),(21,[2,3]),(22,[0,8,10,54,55,56,64,65,66]),(23,[0,8,54,55,56]),(24,[8,83,84,85]),(25,[8,83,84,85,86]),(26,[8,16,83,84,85]),(27,[8,16,83,84,85,98]),(28,[2,3]),(29,[8,83,84,85]),(30,[2,3]),(1000004,[0,20,21,22]),(1000014,[0,8,54,55,56]),(1000017,[0,8,10,54,55,56,64,65,66]),(1000025,[8,83,84,85]),(3000006,[]),(5000027,[2005]),(9000016,[4,0,0,0]),(9000019,[3,0,0,0])]
def Qzu (p0:(List Qae)) (v22:Int) (x4:Qae) (o5:Bool):St:=⟨[(0,.p (.sl false (p0.map Qaf))),(4,.p (iV v22)),(5,.ptr 0 0),(20,.p (.sl false (p0.map Qaf))),(21,.p (iV (p0.length:Int))),(22,.p (iV v22)),(36,.p (bV o5))],⟨[[.p (sV x4.Name),.p (.sl false (x4.L.map Qaa))]],[]⟩⟩
def Qkf (p0:(List Qae)) (v22:Int):St:=⟨[(0,.p (.sl false (p0.map Qaf))),(20,.p (.sl false (p0.map Qaf))),(21,.p (iV (p0.length:Int))),(22,.p (iV v22))],⟨[],[]⟩⟩
def Qph (p0:(List Qae)) (y2:Unit):St:=⟨[(0,.p (.sl false (p0.map Qaf)))],⟨[],[]⟩⟩
def Qpi (p0:(List Qae)) (y3:(List UInt8)×Int):St:=⟨[(2,.p (sV y3.1)),(3,.p (iV y3.2))],⟨[],[]⟩⟩
def Qzv:Code:=((Qaz (Tryz.f13.body.getD .skip)).getD 0 .skip)
def Qkg (p0:(List Qae)) (x10:(List ((List UInt8)×(List (List UInt8))))) (v56:Int) (x14:Qae) (v66:Int):St:=⟨[(0,.p (.sl false (p0.map Qaf))),(8,.ptr 1 0),(10,.ptr 2 0),(54,.p (.sl false (p0.map Qaf))),(55,.p (iV (p0.length:Int))),(56,.p (iV v56)),(64,.p (.sl false (((mget (fun a b=>a==b) x14.Name x10).getD []).map cStr))),(65,.p (iV (((mget (fun a b=>a==b) x14.Name x10).getD []).length:Int))),(66,.p (iV v66))],⟨[[mpD sV (fun x =>.sl false (x.map cStr)) x10],[.mh 0],[.p (sV x14.Name),.p (.sl false (x14.L.map Qaa))]],[]⟩⟩
def Qpj (p0:(List Qae)) (x10:(List ((List UInt8)×(List (List UInt8))))) (v56:Int) (x14:Qae) (y16:Unit):St:=⟨[(0,.p (.sl false (p0.map Qaf))),(8,.ptr 1 0),(54,.p (.sl false (p0.map Qaf))),(55,.p (iV (p0.length:Int))),(56,.p (iV v56))],⟨[[mpD sV (fun x =>.sl false (x.map cStr)) x10],[.mh 0],[.p (sV x14.Name),.p (.sl false (x14.L.map Qaa))]],[]⟩⟩
def Qpk (p0:(List Qae)) (x10:(List ((List UInt8)×(List (List UInt8))))) (v56:Int) (x14:Qae) (y17:Unit):St:=⟨[(2,.p (sV x14.Name)),(3,.p (iV 4))],⟨[[mpD sV (fun x =>.sl false (x.map cStr)) x10],[.mh 0],[.p (sV x14.Name),.p (.sl false (x14.L.map Qaa))]],[]⟩⟩
def Qzw:Code:=((Qaz (Tryz.f13.body.getD .skip)).getD 2 .skip)
def Qkh (p0:(List Qae)) (x10:(List ((List UInt8)×(List (List UInt8))))) (v56:Int):St:=⟨[(0,.p (.sl false (p0.map Qaf))),(8,.ptr 1 0),(54,.p (.sl false (p0.map Qaf))),(55,.p (iV (p0.length:Int))),(56,.p (iV v56))],⟨[[mpD sV (fun x =>.sl false (x.map cStr)) x10],[.mh 0]],[]⟩⟩
def Qpl (p0:(List Qae)) (x10:(List ((List UInt8)×(List (List UInt8))))) (y12:Unit):St:=⟨[(0,.p (.sl false (p0.map Qaf))),(8,.ptr 1 0)],⟨[[mpD sV (fun x =>.sl false (x.map cStr)) x10],[.mh 0]],[]⟩⟩
def Qpm (p0:(List Qae)) (x10:(List ((List UInt8)×(List (List UInt8))))) (y13:(List UInt8)):St:=⟨[(2,.p (sV y13)),(3,.p (iV 4))],⟨[[mpD sV (fun x =>.sl false (x.map cStr)) x10],[.mh 0]],[]⟩⟩
def Qzx:Code:=((Qaz (Tryz.f13.body.getD .skip)).getD 1 .skip)
def Qki (p0:(List Qae)) (x10:(List ((List UInt8)×(List (List UInt8))))) (v85:Int):St:=⟨[(8,.ptr 1 0),(83,.p (.sl false (p0.map Qaf))),(84,.p (iV (p0.length:Int))),(85,.p (iV v85))],⟨[[mpD sV (fun x =>.sl false (x.map cStr)) x10],[.mh 0]],[]⟩⟩
def Qpn (p0:(List Qae)) (x10:(List ((List UInt8)×(List (List UInt8))))) (y20:Unit):St:=⟨[],⟨[[mpD sV (fun x =>.sl false (x.map cStr)) x10],[.mh 0]],[]⟩⟩
def Qpo (p0:(List Qae)) (x10:(List ((List UInt8)×(List (List UInt8))))) (y21:(List UInt8)):St:=⟨[(2,.p (sV y21)),(3,.p (iV 10))],⟨[[mpD sV (fun x =>.sl false (x.map cStr)) x10],[.mh 0]],[]⟩⟩
def Qzy:Code:=((Qaz (Tryz.f13.body.getD .skip)).getD 3 .skip)
def Qfb (y:(List Qab)×Bool):D :=.tup [.p (.sl false (y.1.map Qaa)),.p (bV y.2)]
def Qw6:List (Nat×List Nat):=[(0,[0,1]),(1,[1,8,9,10]),(2,[1,8,9,10,11]),(3,[1,7,8,9,10]),(4,[1,7,8,9,10,17]),(5,[4,5]),(6,[1,8,9,10]),(7,[4,5]),(1000002,[1,8,9,10])]
def Qlw (p0:(List Qae)) (p1:(List UInt8)) (v10:Int):St:=⟨[(1,.p (sV p1)),(8,.p (.sl false (p0.map Qaf))),(9,.p (iV (p0.length:Int))),(10,.p (iV v10))],⟨[],[]⟩⟩
def Qra (p0:(List Qae)) (p1:(List UInt8)) (y2:Unit):St:=⟨[],⟨[],[]⟩⟩
def Qrb (p0:(List Qae)) (p1:(List UInt8)) (y3:(List Qab)):St:=⟨[(4,.p (.sl false (y3.map Qaa))),(5,.p (bV true))],⟨[],[]⟩⟩
def Q13:Code:=((Qaz (Tryz.f39.body.getD .skip)).getD 0 .skip)
def Qs0 (y:(List (List UInt8))):D :=.p (.sl false (y.map cStr))
def Q8h:List (Nat×List Nat):=[(0,[0]),(1,[0,3]),(2,[0,3,4]),(3,[0,3,4]),(4,[3]),(5,[3]),(6,[2]),(9000005,[1,3,0,0]),(9000006,[1,0,0,0]),(9500004,[])]
def Qov (_:(List (List UInt8))):D :=.tup []
def Qs1:List (Nat×List Nat):=[(0,[1,2,6,7,8]),(1,[1,2,6,7,8,9]),(2,[1,2,5,6,7,8]),(3,[1,2,5,6,7,8,14]),(4,[1,2,5,6,7,8]),(5,[1,2,5,6,7,8]),(6,[1,2,6,7,8]),(7,[1,2,6,7,8]),(1000001,[1,2,6,7,8]),(2003005,[]),(9000004,[4,0,0,0])]
def Qyl (p0:(List Qab)) (v8:Int) (x2:Qab) (o3:(List (List UInt8))):St:=⟨[(1,.ptr 0 0),(2,.ptr 1 0),(5,.ptr 2 0),(6,.p (.sl false (p0.map Qaa))),(7,.p (iV (p0.length:Int))),(8,.p (iV v8))],⟨[[.x 0 (o3.length+1) (.sl 9 1 (o3.map cStr))],[.fn (.func 99) [] [.ptr 0 0,.ptr 1 0]],[.p (iV x2.Kind),.p (sV x2.Name),.p (sV x2.Text),.p (iV x2.N),.p (.sl false (x2.L.map Qaa)),.p (.sl false (x2.Then.map Qaa)),.p (.sl false (x2.Else.map Qaa))]],[(o3.length+1)]⟩⟩
def Qi6 (p0:(List Qab)) (v8:Int) (h0_0_:(List (List UInt8))):St:=⟨[(1,.ptr 0 0),(2,.ptr 1 0),(6,.p (.sl false (p0.map Qaa))),(7,.p (iV (p0.length:Int))),(8,.p (iV v8))],⟨[[.x 0 (h0_0_.length+1) (.sl 9 1 (h0_0_.map cStr))],[.fn (.func 99) [] [.ptr 0 0,.ptr 1 0]]],[(h0_0_.length+1)]⟩⟩
def Qn3 (p0:(List Qab)) (o1:(List (List UInt8))):St:=⟨[],⟨[[.x 0 (o1.length+1) (.sl 9 1 (o1.map cStr))],[.fn (.func 99) [] [.ptr 0 0,.ptr 1 0]]],[(o1.length+1)]⟩⟩
def Qym:Code:=((Qaz (Tryz.f99.body.getD .skip)).getD 0 .skip)
def Qw7 (_:(List ((List UInt8)×(List (List UInt8))))):D :=.agg [.mh 0]
def Qvk:List (Nat×List Nat):=[(0,[0,2]),(1,[0,2,3]),(2,[2,3,10,11,12]),(3,[2,3,10,11,12,13]),(4,[2,3,5,10,11,12]),(5,[2,3,5,7,10,11,12]),(6,[2,3,5,10,11,12,25]),(7,[2,3,10,11,12]),(8,[2,3,10,11,12]),(9,[2]),(1000003,[2,3,10,11,12]),(9000001,[0,0,0,0]),(9000005,[4,0,0,0]),(9000007,[7,0,0,0]),(9800007,[7]),(7000007,[2,3,10,11,12,27,29,32])]
def Qhk (p0:(List Qae)) (v12:Int) (h1_0:(List ((List UInt8)×(List (List UInt8))))):St:=⟨[(2,.ptr 0 0),(3,.ptr 2 0),(10,.p (.sl false (p0.map Qaf))),(11,.p (iV (p0.length:Int))),(12,.p (iV v12))],⟨[[.p (.v (.map none))],[mpD sV (fun x =>.sl false (x.map cStr)) h1_0],[.mh 1]],[]⟩⟩
def Qpp (p0:(List Qae)) (o1:(List ((List UInt8)×(List (List UInt8))))):St:=⟨[(2,.ptr 0 0),(3,.ptr 2 0)],⟨[[.p (.v (.map none))],[mpD sV (fun x =>.sl false (x.map cStr)) o1],[.mh 1]],[]⟩⟩
def Qzz:Code:=((Qaz (Tryz.f40.body.getD .skip)).getD 0 .skip)
def Qi7 (y:(List (List UInt8))):D :=.p (.sl false (y.map cStr))
def Qfh:List (Nat×List Nat):=[(0,[1,2]),(1,[1,2,5]),(2,[2,5,6]),(3,[2,5,6,15,16,17]),(4,[2,5,6,15,16,17,18]),(5,[2,5,6,8,15,16,17]),(6,[2,5,6,15,16,17]),(7,[2,5,6,15,16,17]),(8,[2,5,6,9]),(9,[2,5,6,9,27]),(10,[2,5,6,9]),(11,[2,5,6,9,36,37,38]),(12,[2,5,6,9,36,37,38,39]),(13,[2,5,6,9,11,36,37,38]),(14,[2,5,6,9,11,36,37,38,45]),(15,[2,5,6,9,11,36,37,38]),(16,[2,5,6,9,36,37,38]),(17,[2,5,6,9,36,37,38]),(18,[6]),(19,[4]),(1000004,[2,5,6,15,16,17]),(1000009,[2,5,6,9]),(1000012,[2,5,6,9,36,37,38]),(5000011,[2004,2005,2006]),(9000001,[0,0,0,0]),(9000003,[1,0,0,0]),(9000005,[0,0,0,0,1,0,0,0]),(9000006,[2,0,0,0]),(9000009,[2,0,0,0]),(9000014,[2,0,0,0]),(9000015,[2,0,0,0]),(9000016,[3,0,0,0]),(9000018,[1,1,6,0])]
def Qf9 (h0_0:(List ((List UInt8)×(List (List UInt8))))) (x1:(List (List UInt8))) (v17:Int) (h2_0:(List ((List UInt8)×Int))):St:=⟨[(2,.ptr 1 0),(5,.mh 2),(6,.x 0 1 (.sl 9 1 (x1.map cStr))),(15,.x 0 1 (.sl 9 1 (x1.map cStr))),(16,.p (iV (x1.length:Int))),(17,.p (iV v17))],⟨[[mpD sV (fun x =>.sl false (x.map cStr)) h0_0],[.mh 0],[mpD sV iV h2_0]],[1]⟩⟩
def Qj1 (h0_0:(List ((List UInt8)×(List (List UInt8))))) (x1:(List (List UInt8))) (o2:(List ((List UInt8)×Int))):St:=⟨[(2,.ptr 1 0),(5,.mh 2),(6,.x 0 1 (.sl 9 1 (x1.map cStr)))],⟨[[mpD sV (fun x =>.sl false (x.map cStr)) h0_0],[.mh 0],[mpD sV iV o2]],[1]⟩⟩
def Qs2:Code:=((Qaz (Tryz.f42.body.getD .skip)).getD 0 .skip)
def Qec (h0_0:(List ((List UInt8)×(List (List UInt8))))) (v9:Int) (x5:(List UInt8)) (v6_:(List (List UInt8))) (v38:Int) (h2_0_:(List ((List UInt8)×Int))):St:=⟨[(2,.ptr 1 0),(5,.mh 2),(6,.x 0 1 (.sl 9 1 (v6_.map cStr))),(9,.p (iV v9)),(36,.p (.sl false (((mget (fun a b=>a==b) x5 h0_0).getD []).map cStr))),(37,.p (iV (((mget (fun a b=>a==b) x5 h0_0).getD []).length:Int))),(38,.p (iV v38))],⟨[[mpD sV (fun x =>.sl false (x.map cStr)) h0_0],[.mh 0],[mpD sV iV h2_0_]],[1]⟩⟩
def Qj2 (h0_0:(List ((List UInt8)×(List (List UInt8))))) (v9:Int) (x5:(List UInt8)) (o6:(List (List UInt8))×(List ((List UInt8)×Int))):St:=⟨[(2,.ptr 1 0),(5,.mh 2),(6,.x 0 1 (.sl 9 1 (o6.1.map cStr))),(9,.p (iV v9))],⟨[[mpD sV (fun x =>.sl false (x.map cStr)) h0_0],[.mh 0],[mpD sV iV o6.2]],[1]⟩⟩
def Qs3:Code:=((Qaz (Tryz.f42.body.getD .skip)).getD 2 .skip)
def Qga (h0_0:(List ((List UInt8)×(List (List UInt8))))) (v6:(List (List UInt8))) (v9:Int) (h2_0:(List ((List UInt8)×Int))):St:=⟨[(2,.ptr 1 0),(5,.mh 2),(6,.x 0 1 (.sl 9 1 (v6.map cStr))),(9,.p (iV v9))],⟨[[mpD sV (fun x =>.sl false (x.map cStr)) h0_0],[.mh 0],[mpD sV iV h2_0]],[1]⟩⟩
def Qj3 (h0_0:(List ((List UInt8)×(List (List UInt8))))) (o4:(List (List UInt8))×(List ((List UInt8)×Int))):St:=⟨[(6,.x 0 1 (.sl 9 1 (o4.1.map cStr)))],⟨[[mpD sV (fun x =>.sl false (x.map cStr)) h0_0],[.mh 0],[mpD sV iV o4.2]],[1]⟩⟩
def Qs4:Code:=((Qaz (Tryz.f42.body.getD .skip)).getD 1 .skip)
def Qcy (y:Bool):D :=.p (bV y)
def Qi8:List (Nat×List Nat):=[(0,[0,1]),(1,[4]),(3000001,[])]
def Qie  (o1:Bool):St:=⟨[(4,.p (bV o1))],⟨[],[]⟩⟩
def Qgc (y:Int):D :=.p (iV y)
def Qew (y:Int):D :=.p (iV y)
def Qql (y:(List UInt8)×Bool):D :=.tup [.p (sV y.1),.p (bV y.2)]
def Qza:List (Nat×List Nat):=[(0,[0]),(1,[0,14]),(2,[2,3]),(3,[0,4]),(4,[0,4,17,18]),(5,[0,4,17,18,19]),(6,[0,4,5,17,18]),(7,[0,4,6,17,18]),(8,[0,4,6,17,18,24]),(9,[0,4,17,18]),(10,[0,4,6,17,18,24,29]),(11,[0,4,17,18]),(12,[0,4,6,17,18,24,33]),(13,[0,4,17,18]),(14,[0,4,6,17,18,24,37]),(15,[0,4,6,17,18,37]),(16,[0,4,17,18]),(17,[0,4,17,18]),(18,[2,3]),(1000005,[0,4,17,18]),(2014005,[]),(3000001,[])]
def Q34 (p0:(List UInt8)) (o1:Bool):St:=⟨[(0,.p (sV p0)),(14,.p (bV o1))],⟨[],[]⟩⟩
def Q35 (p0:(List UInt8)) (v4:(List Int)) (v18:Int) (x5:UInt8) (o8:Bool):St:=⟨[(0,.p (sV p0)),(4,.own 0 1000005 1 (v4.map (cNum .u8))),(6,.p (nV .u8 (x5.toNat:Int))),(17,.p (iV (p0.length:Int))),(18,.p (iV v18)),(37,.p (bV o8))],⟨[],[(v4.map (cNum .u8)).length]⟩⟩
def Qe2 (p0:(List UInt8)) (v4:(List Int)) (v18:Int):St:=⟨[(0,.p (sV p0)),(4,.own 0 1000005 1 (v4.map (cNum .u8))),(17,.p (iV (p0.length:Int))),(18,.p (iV v18))],⟨[],[(v4.map (cNum .u8)).length]⟩⟩
def Qs5 (p0:(List UInt8)) (o4:(List Int)):St:=⟨[(4,.own 0 1000005 1 (o4.map (cNum .u8)))],⟨[],[(o4.map (cNum .u8)).length]⟩⟩
def Q36:Code:=((Qaz (Tryz.f154.body.getD .skip)).getD 0 .skip)
def Qmp (y:Bool):D :=.p (bV y)
def Q14:List (Nat×List Nat):=[(0,[0]),(1,[0,5,6]),(2,[0,5,6,7]),(3,[0,3,5,6]),(4,[0,5,6,13]),(5,[2]),(6,[0,5,6]),(7,[2]),(1000002,[0,5,6]),(3000007,[])]
def Qow (p0:(List UInt8)) (v6:Int):St:=⟨[(0,.p (sV p0)),(5,.p (iV (p0.length:Int))),(6,.p (iV v6))],⟨[],[]⟩⟩
def Qvl (p0:(List UInt8)) (y2:Unit):St:=⟨[(0,.p (sV p0))],⟨[],[]⟩⟩
def Qvm (p0:(List UInt8)) (y3:Unit):St:=⟨[(2,.p (bV false))],⟨[],[]⟩⟩
def Q8i:Code:=((Qaz (Tryz.f69.body.getD .skip)).getD 0 .skip)
def Q8j  (o6:Bool):St:=⟨[(2,.p (bV o6))],⟨[],[]⟩⟩
def Qqm (y:Bool):D :=.p (bV y)
def Qabt:List (Nat×List Nat):=[(0,[0]),(1,[2]),(3000001,[])]
def Q37  (o1:Bool):St:=⟨[(2,.p (bV o1))],⟨[],[]⟩⟩
def Qs6 (y:Bool):D :=.p (bV y)
def Q8k:List (Nat×List Nat):=[(0,[0]),(1,[2]),(3000001,[])]
def Q15  (o1:Bool):St:=⟨[(2,.p (bV o1))],⟨[],[]⟩⟩
def Qcl (y:(List Qab)×Int):D :=.tup [.p (.sl false (y.1.map Qaa)),.p (iV y.2)]
def Qma:List (Nat×List Nat):=[(0,[0,1,2]),(1,[0,1,2,8]),(2,[0,1,2,8,9]),(3,[0,1,2,8,9,24]),(4,[0,1,2,8,9]),(5,[0,1,2,8,9,10]),(6,[0,1,2,8,9,10]),(7,[0,1,2,8,9,10,11]),(8,[0,1,2,8,9,10,11]),(9,[0,1,2,8,9,10,11]),(10,[0,1,2,8,9,11]),(11,[0,1,2,8,9]),(12,[6,7]),(1000003,[0,1,2,8,9]),(3000003,[])]
def Qrs (p0:(List Qab)) (p1:Int) (v2:Int) (v8:(List Qab)) (v9:Int) (o2:Bool):St:=⟨[(0,.p (.sl false (p0.map Qaa))),(1,.p (iV p1)),(2,.p (iV v2)),(8,.own 0 38 7 (v8.map Qaa)),(9,.p (iV v9)),(24,.p (bV o2))],⟨[],[(v8.map Qaa).length]⟩⟩
def Qfi (p0:(List Qab)) (p1:Int) (v2:Int) (v8:(List Qab)) (v9:Int):St:=⟨[(0,.p (.sl false (p0.map Qaa))),(1,.p (iV p1)),(2,.p (iV v2)),(8,.own 0 38 7 (v8.map Qaa)),(9,.p (iV v9))],⟨[],[(v8.map Qaa).length]⟩⟩
def Qi9 (p0:(List Qab)) (p1:Int) (o1:Int×(List Qab)):St:=⟨[(2,.p (iV o1.1)),(8,.own 0 38 7 (o1.2.map Qaa))],⟨[],[(o1.2.map Qaa).length]⟩⟩
def Qrt:Code:=((Qaz (Tryz.f22.body.getD .skip)).getD 0 .skip)
def Qkj (y:(List Qae)):D :=.p (.sl false (y.map Qaf))
def Qn4:List (Nat×List Nat):=[(0,[0,1]),(1,[0,1,5]),(2,[0,1,5,6]),(3,[0,1,5,6,18]),(4,[0,1,5,6]),(5,[0,1,5,6,7]),(6,[0,1,5,6]),(7,[4]),(1000003,[0,1,5,6]),(3000003,[])]
def Quq (p0:(List Qae)) (p1:Int) (v5:(List Qae)) (v6:Int) (o2:Bool):St:=⟨[(0,.p (.sl false (p0.map Qaf))),(1,.p (iV p1)),(5,.own 0 56 2 (v5.map Qaf)),(6,.p (iV v6)),(18,.p (bV o2))],⟨[],[(v5.map Qaf).length]⟩⟩
def Qgn (p0:(List Qae)) (p1:Int) (v5:(List Qae)) (v6:Int):St:=⟨[(0,.p (.sl false (p0.map Qaf))),(1,.p (iV p1)),(5,.own 0 56 2 (v5.map Qaf)),(6,.p (iV v6))],⟨[],[(v5.map Qaf).length]⟩⟩
def Qlg (p0:(List Qae)) (p1:Int) (o1:(List Qae)):St:=⟨[(5,.own 0 56 2 (o1.map Qaf))],⟨[],[(o1.map Qaf).length]⟩⟩
def Qur:Code:=((Qaz (Tryz.f12.body.getD .skip)).getD 0 .skip)
def Qdr (y:(List (List UInt8))):D :=.x 0 1 (.sl 9 1 (y.map cStr))
def Qlx:List (Nat×List Nat):=[(0,[0]),(1,[0,4]),(2,[2]),(3,[2]),(9000001,[1,0,0,0]),(9000003,[2,0,0,0])]
def Qb3 (y:Bool):D :=.p (bV y)
def Qdx:List (Nat×List Nat):=[(0,[0,1]),(1,[4])]
def Qc6 (y:Bool):D :=.p (bV y)
def Qjy:List (Nat×List Nat):=[(0,[0,1]),(1,[4])]
def Qbl (y:Int):D :=.p (iV y)
def Qca:List (Nat×List Nat):=[(0,[0,1]),(1,[0,1,7,8]),(2,[0,1,7,8,9]),(3,[0,1,5,7,8]),(4,[0,1,5,7,8,16]),(5,[4]),(6,[0,1,7,8]),(7,[4]),(1000002,[0,1,7,8])]
def Qbh (p0:(List Qab)) (v8:Int):St:=⟨[(0,.p (.sl false (p0.map Qaa))),(1,.fn (.func 155) [] []),(7,.p (iV (p0.length:Int))),(8,.p (iV v8))],⟨[],[]⟩⟩
def Qb0 (p0:(List Qab)) (y2:Unit):St:=⟨[],⟨[],[]⟩⟩
def Qb1 (p0:(List Qab)) (y3:Int):St:=⟨[(4,.p (iV y3))],⟨[],[]⟩⟩
def Qd2:Code:=((Qaz (Tryz.f83.body.getD .skip)).getD 0 .skip)
def Qcp (y:Int):D :=.p (iV y)
def Qfz:List (Nat×List Nat):=[(0,[0,1]),(1,[0,1,7,8]),(2,[0,1,7,8,9]),(3,[0,1,5,7,8]),(4,[0,1,5,7,8,16]),(5,[4]),(6,[0,1,7,8]),(7,[4]),(1000002,[0,1,7,8])]
def Qcz (p0:(List (List UInt8))) (p1:(List UInt8)) (v8:Int):St:=⟨[(0,.p (.sl false (p0.map cStr))),(1,.p (sV p1)),(7,.p (iV (p0.length:Int))),(8,.p (iV v8))],⟨[],[]⟩⟩
def Qex (p0:(List (List UInt8))) (p1:(List UInt8)) (y2:Unit):St:=⟨[],⟨[],[]⟩⟩
def Qey (p0:(List (List UInt8))) (p1:(List UInt8)) (y3:Int):St:=⟨[(4,.p (iV y3))],⟨[],[]⟩⟩
def Qkk:Code:=((Qaz (Tryz.f74.body.getD .skip)).getD 0 .skip)
def Qja (y:Bool):D :=.p (bV y)
def Qv1:List (Nat×List Nat):=[(0,[0,1]),(1,[4])]
def Qc7 (y:Bool):D :=.p (bV y)
def Qus:List (Nat×List Nat):=[(0,[0,1]),(1,[4])]
def Qnd (y:Int):D :=.p (iV y)
def Qz0:List (Nat×List Nat):=[(0,[0,1]),(1,[4])]
def Qif (y:Int):D :=.p (iV y)
def Qut:List (Nat×List Nat):=[(0,[0,1]),(1,[4])]
def Qs7 (y:Int):D :=.p (iV y)
def Qqn:List (Nat×List Nat):=[(0,[0]),(1,[0,3]),(2,[3,5]),(3,[3,5]),(4,[2]),(4000003,[3,5])]
def Qh8 (x1:(List Qab)×Int) (h0_0:Int):St:=⟨[(3,.ptr 0 0),(5,.fn (.func 125) [] [.p (.ep [.sl false (x1.1.map Qaa)]),.p (.ep [iV x1.2])])],⟨[[.p (iV h0_0)]],[]⟩⟩
def Qrc (x1:(List Qab)×Int) (o6:Int):St:=⟨[(3,.ptr 0 0),(5,.fn (.func 125) [] [.p (.ep [.sl false (x1.1.map Qaa)]),.p (.ep [iV x1.2])])],⟨[[.p (iV o6)]],[]⟩⟩
def Qne:Code:=((Qaz (Tryz.f71.body.getD .skip)).getD 0 .skip)
def Qv2 (y:Int):D :=.p (iV y)
def Qs8:List (Nat×List Nat):=[(0,[0,5]),(1,[0,3,5]),(2,[3,5,7]),(3,[3,5,7]),(4,[3,5,7]),(5,[2]),(4000003,[3,5,7])]
def Qjb (x1:(List Qab)×Int) (h0_0:Int):St:=⟨[(3,.ptr 0 0),(7,.fn (.func 125) [] [.p (.ep [.sl false (x1.1.map Qaa)]),.p (.ep [iV x1.2])])],⟨[[.p (iV h0_0)]],[]⟩⟩
def Qs9 (x1:(List Qab)×Int) (o6:Int):St:=⟨[(3,.ptr 0 0),(7,.fn (.func 125) [] [.p (.ep [.sl false (x1.1.map Qaa)]),.p (.ep [iV x1.2])])],⟨[[.p (iV o6)]],[]⟩⟩
def Qox:Code:=((Qaz (Tryz.f70.body.getD .skip)).getD 0 .skip)
def Q16 (y:Bool):D :=.p (bV y)
def Qahr:List (Nat×List Nat):=[(0,[0]),(1,[2]),(3000001,[])]
def Qabu  (o1:Bool):St:=⟨[(2,.p (bV o1))],⟨[],[]⟩⟩
def Qgo (y:Bool):D :=.p (bV y)
def Qabv:List (Nat×List Nat):=[(0,[0]),(1,[0,3]),(2,[0,3,4]),(3,[0,3,4]),(4,[0,3,4]),(5,[0,3,4]),(6,[0,3,4]),(7,[0,3,4]),(8,[0,3,4]),(9,[0,3,4]),(10,[0,3,4]),(11,[0,4]),(12,[2]),(13,[2]),(2002037,[])]
def Q38 (p0:(List UInt8)) (o1:Bool):St:=⟨[(0,.p (sV p0)),(4,.p (bV o1))],⟨[],[]⟩⟩
def Qpq (y:(List Qab)×Int):D :=.fn (.func 125) [] [.p (.ep [.sl false (y.1.map Qaa)]),.p (.ep [iV y.2])]
def Qaer:List (Nat×List Nat):=[(0,[2,3]),(1,[4])]
def Qcn (y:(Qab×Int)):List V:=[.agg [iV y.1.Kind,sV y.1.Name,sV y.1.Text,iV y.1.N,.sl false (y.1.L.map Qaa),.sl false (y.1.Then.map Qaa),.sl false (y.1.Else.map Qaa)],iV y.2]
def Qjc:List (Nat×List Nat):=[(0,[1,2,3,8,9]),(1,[2,3,8,9,10,11,12]),(2,[2,3,8,9,10,11,12,13]),(3,[2,3,5,8,9,10,11,12]),(4,[2,3,5,8,9,10,11,12,20]),(5,[2,3,8,9,10,11,12,27,28]),(6,[2,3,8,9,10,11,12,27,28,29]),(7,[2,3,7,8,9,10,11,12,27,28]),(8,[2,3,8,9,10,11,12,27,28,34]),(9,[2,3,8,10,11,12,27,28,34,36]),(10,[2,3,8,9,10,11,12,27,28,34]),(11,[2,3,8,9,10,11,12,27,28,34,41]),(12,[2,3,8,9,10,11,12,27,28]),(13,[2,3,8,9,10,11,12]),(1000002,[2,3,8,9,10,11,12]),(1000006,[2,3,8,9,10,11,12,27,28]),(4000009,[2,3,8,9,10,11,12,27,28,34])]
def Qh9 (p0:(List Qab)) (p1:Int) (v12:Int) (x3:Qab) (v28:Int) (x7:(List Qab)×Int) (gxs gp:List (List V)):St:=⟨[(2,.p (.ep [iV p1])),(3,.ptr 0 0),(10,.p (.sl false (p0.map Qaa))),(11,.p (iV (p0.length:Int))),(12,.p (iV v12)),(27,.p (.agg [.sl false (x3.L.map Qaa),.sl false (x3.Then.map Qaa),.sl false (x3.Else.map Qaa)])),(28,.p (iV v28)),(34,.fn (.func 125) [] [.p (.ep [.sl false (x7.1.map Qaa)]),.p (.ep [iV x7.2])])],⟨[[.yld Tryz.prog 0 gxs],[.p (iV x3.Kind),.p (sV x3.Name),.p (sV x3.Text),.p (iV x3.N),.p (.sl false (x3.L.map Qaa)),.p (.sl false (x3.Then.map Qaa)),.p (.sl false (x3.Else.map Qaa))]],[gp.length]⟩⟩
def Qrd (p0:(List Qab)) (p1:Int) (v12:Int) (x3:Qab) (v28:Int) (x7:(List Qab)×Int) (gxs:List (List V)) (gq12:List (List V)) (oy:Unit):St:=⟨[(2,.p (.ep [iV p1])),(3,.ptr 0 0),(10,.p (.sl false (p0.map Qaa))),(11,.p (iV (p0.length:Int))),(12,.p (iV v12)),(27,.p (.agg [.sl false (x3.L.map Qaa),.sl false (x3.Then.map Qaa),.sl false (x3.Else.map Qaa)])),(28,.p (iV v28)),(34,.fn (.func 125) [] [.p (.ep [.sl false (x7.1.map Qaa)]),.p (.ep [iV x7.2])])],⟨[[.yld Tryz.prog 0 gxs],[.p (iV x3.Kind),.p (sV x3.Name),.p (sV x3.Text),.p (iV x3.N),.p (.sl false (x3.L.map Qaa)),.p (.sl false (x3.Then.map Qaa)),.p (.sl false (x3.Else.map Qaa))]],[gq12.length]⟩⟩
def Qnf:Code:=((Qaz (Tryz.f125.body.getD .skip)).getD 2 .skip)
def Qly (p0:(List Qab)) (p1:Int) (v12:Int) (x3:Qab) (v28:Int) (gxs gp:List (List V)):St:=⟨[(2,.p (.ep [iV p1])),(3,.ptr 0 0),(10,.p (.sl false (p0.map Qaa))),(11,.p (iV (p0.length:Int))),(12,.p (iV v12)),(27,.p (.agg [.sl false (x3.L.map Qaa),.sl false (x3.Then.map Qaa),.sl false (x3.Else.map Qaa)])),(28,.p (iV v28))],⟨[[.yld Tryz.prog 0 gxs],[.p (iV x3.Kind),.p (sV x3.Name),.p (sV x3.Text),.p (iV x3.N),.p (.sl false (x3.L.map Qaa)),.p (.sl false (x3.Then.map Qaa)),.p (.sl false (x3.Else.map Qaa))]],[gp.length]⟩⟩
def Qre (p0:(List Qab)) (p1:Int) (v12:Int) (x3:Qab) (gxs:List (List V)) (gq4:List (List V)) (oy:Unit):St:=⟨[(2,.p (.ep [iV p1])),(3,.ptr 0 0),(10,.p (.sl false (p0.map Qaa))),(11,.p (iV (p0.length:Int))),(12,.p (iV v12))],⟨[[.yld Tryz.prog 0 gxs],[.p (iV x3.Kind),.p (sV x3.Name),.p (sV x3.Text),.p (iV x3.N),.p (.sl false (x3.L.map Qaa)),.p (.sl false (x3.Then.map Qaa)),.p (.sl false (x3.Else.map Qaa))]],[gq4.length]⟩⟩
def Q17:Code:=((Qaz (Tryz.f125.body.getD .skip)).getD 1 .skip)
def Qlz (p0:(List Qab)) (p1:Int) (v12:Int) (gxs gp:List (List V)):St:=⟨[(2,.p (.ep [iV p1])),(3,.ptr 0 0),(10,.p (.sl false (p0.map Qaa))),(11,.p (iV (p0.length:Int))),(12,.p (iV v12))],⟨[[.yld Tryz.prog 0 gxs]],[gp.length]⟩⟩
def Qrf (p0:(List Qab)) (p1:Int) (gxs:List (List V)) (gq1:List (List V)) (oy:Unit):St:=⟨[],⟨[[.yld Tryz.prog 0 gxs]],[gq1.length]⟩⟩
def Q18:Code:=((Qaz (Tryz.f125.body.getD .skip)).getD 0 .skip)
def Qgp (y:Bool):D :=.p (bV y)
def Qw8:List (Nat×List Nat):=[(0,[0,1]),(1,[0,1,8,9,10]),(2,[0,1,8,9,10,11]),(3,[0,1,5,6,8,9,10]),(4,[0,1,5,6,8,9,10,17]),(5,[4]),(6,[0,1,5,6,7,8,9,10]),(7,[0,1,8,9,10,50]),(8,[4]),(9,[0,1,8,9,10]),(10,[4]),(1000002,[0,1,8,9,10]),(3000007,[])]
def Q19 (p0:(List Qab)) (p1:Bool) (v10:Int) (x4:Qab) (o6:Bool):St:=⟨[(0,.p (.sl false (p0.map Qaa))),(1,.p (bV p1)),(8,.p (.sl false (p0.map Qaa))),(9,.p (iV (p0.length:Int))),(10,.p (iV v10)),(50,.p (bV o6))],⟨[[.p (iV x4.Kind),.p (sV x4.Name),.p (sV x4.Text),.p (iV x4.N),.p (.sl false (x4.L.map Qaa)),.p (.sl false (x4.Then.map Qaa)),.p (.sl false (x4.Else.map Qaa))]],[]⟩⟩
def Ql0 (p0:(List Qab)) (p1:Bool) (v10:Int):St:=⟨[(0,.p (.sl false (p0.map Qaa))),(1,.p (bV p1)),(8,.p (.sl false (p0.map Qaa))),(9,.p (iV (p0.length:Int))),(10,.p (iV v10))],⟨[],[]⟩⟩
def Qrg (p0:(List Qab)) (p1:Bool) (y2:Unit):St:=⟨[],⟨[],[]⟩⟩
def Qrh (p0:(List Qab)) (p1:Bool) (y3:Unit):St:=⟨[(4,.p (bV false))],⟨[],[]⟩⟩
def Q2a:Code:=((Qaz (Tryz.f72.body.getD .skip)).getD 0 .skip)
def Qc8 (y:Bool):D :=.p (bV y)
def Qabw:List (Nat×List Nat):=[(0,[1]),(1,[1,3]),(2,[1,3,4]),(3,[1,3,4,11]),(4,[1,3,4,11,12]),(5,[3,6]),(6,[2]),(7,[1,3,4,11,28]),(8,[2]),(9,[1,3,4,11,35]),(10,[2]),(11,[1,3,4,11,48]),(12,[2]),(13,[1,3,4,11,58]),(14,[2]),(15,[1,3,4,11,68]),(16,[1,3,4]),(17,[2]),(18,[1,3,4,86]),(19,[1,3,4]),(20,[2]),(21,[2]),(3000006,[]),(3000010,[]),(3000012,[]),(3000014,[]),(3000017,[]),(3000020,[])]
def Q39 (p0:Qab) (x1:Qdo) (o3:Bool):St:=⟨[(2,.p (bV o3))],⟨[[.p (iV p0.Kind),.p (sV p0.Name),.p (sV p0.Text),.p (iV p0.N),.p (.sl false (p0.L.map Qaa)),.p (.sl false (p0.Then.map Qaa)),.p (.sl false (p0.Else.map Qaa))],[.p (bV x1.name_),.p (bV x1.text_),.p (bV x1.num_),.p (bV x1.then_),.p (bV x1.other_),.p (iV x1.l_)],[.p (bV true),.p (bV false),.p (bV false),.p (bV false),.p (bV false),.p (iV 0)]],[]⟩⟩
def Q4a (p0:Qab) (x1:Qdo) (o4:Bool):St:=⟨[(2,.p (bV o4))],⟨[[.p (iV p0.Kind),.p (sV p0.Name),.p (sV p0.Text),.p (iV p0.N),.p (.sl false (p0.L.map Qaa)),.p (.sl false (p0.Then.map Qaa)),.p (.sl false (p0.Else.map Qaa))],[.p (bV x1.name_),.p (bV x1.text_),.p (bV x1.num_),.p (bV x1.then_),.p (bV x1.other_),.p (iV x1.l_)],[.p (bV true),.p (bV false),.p (bV false),.p (bV false),.p (bV false),.p (iV 0)]],[]⟩⟩
def Q4b (p0:Qab) (x1:Qdo) (o5:Bool):St:=⟨[(2,.p (bV o5))],⟨[[.p (iV p0.Kind),.p (sV p0.Name),.p (sV p0.Text),.p (iV p0.N),.p (.sl false (p0.L.map Qaa)),.p (.sl false (p0.Then.map Qaa)),.p (.sl false (p0.Else.map Qaa))],[.p (bV x1.name_),.p (bV x1.text_),.p (bV x1.num_),.p (bV x1.then_),.p (bV x1.other_),.p (iV x1.l_)],[.p (bV true),.p (bV false),.p (bV false),.p (bV false),.p (bV false),.p (iV 0)]],[]⟩⟩
def Q4c (p0:Qab) (x1:Qdo) (o7:Bool):St:=⟨[(2,.p (bV o7))],⟨[[.p (iV p0.Kind),.p (sV p0.Name),.p (sV p0.Text),.p (iV p0.N),.p (.sl false (p0.L.map Qaa)),.p (.sl false (p0.Then.map Qaa)),.p (.sl false (p0.Else.map Qaa))],[.p (bV x1.name_),.p (bV x1.text_),.p (bV x1.num_),.p (bV x1.then_),.p (bV x1.other_),.p (iV x1.l_)],[.p (bV true),.p (bV false),.p (bV false),.p (bV false),.p (bV false),.p (iV 0)]],[]⟩⟩
def Q4d (p0:Qab) (x1:Qdo) (o9:Bool):St:=⟨[(2,.p (bV o9))],⟨[[.p (iV p0.Kind),.p (sV p0.Name),.p (sV p0.Text),.p (iV p0.N),.p (.sl false (p0.L.map Qaa)),.p (.sl false (p0.Then.map Qaa)),.p (.sl false (p0.Else.map Qaa))],[.p (bV x1.name_),.p (bV x1.text_),.p (bV x1.num_),.p (bV x1.then_),.p (bV x1.other_),.p (iV x1.l_)],[.p (bV true),.p (bV false),.p (bV false),.p (bV false),.p (bV false),.p (iV 1)]],[]⟩⟩
def Q4e (p0:Qab) (x1:Qdo) (o13:Bool):St:=⟨[(2,.p (bV o13))],⟨[[.p (iV p0.Kind),.p (sV p0.Name),.p (sV p0.Text),.p (iV p0.N),.p (.sl false (p0.L.map Qaa)),.p (.sl false (p0.Then.map Qaa)),.p (.sl false (p0.Else.map Qaa))],[.p (bV x1.name_),.p (bV x1.text_),.p (bV x1.num_),.p (bV x1.then_),.p (bV x1.other_),.p (iV x1.l_)],[.p (bV true),.p (bV false),.p (bV false),.p (bV false),.p (bV false),.p (iV (if 3<x1.l_ then 3 else x1.l_))]],[]⟩⟩
def Qqo (y:Bool):D :=.p (bV y)
def Q4f:List (Nat×List Nat):=[(0,[1]),(1,[2])]
def Qk6 (y:Qdo):D :=.p (.agg [bV y.name_,bV y.text_,bV y.num_,bV y.then_,bV y.other_,iV y.l_])
def Q2b:List (Nat×List Nat):=[(0,[1,2]),(1,[2])]
def Qqp (y:Bool):D :=.p (bV y)
def Qabx:List (Nat×List Nat):=[(0,[1]),(1,[1,3]),(2,[1,3,4]),(3,[1,3,4,10]),(4,[2]),(5,[1,3,4,10,11]),(6,[2]),(7,[1,3,4,10,22]),(8,[1,3,4,10,24]),(9,[1,3,4]),(10,[1,3,4,10,32]),(11,[1,3,4,10,32]),(12,[1,3,4]),(13,[1,3,4,42]),(14,[1,3,4]),(15,[1,3,4,5]),(16,[2]),(2003032,[]),(2010005,[]),(3000006,[]),(3000015,[]),(3000016,[]),(5000009,[1005,1007]),(5000012,[1006,1008]),(8000009,[2]),(8000012,[2])]
def Q4g (p0:Qab) (x1:Qdo) (y3:Bool×Bool×Bool):St:=⟨[(1,.ptr 0 0),(3,.ptr 1 0),(4,.ptr 2 0)],⟨[[.p (iV p0.Kind),.p (sV p0.Name),.p (sV p0.Text),.p (iV p0.N),.p (.sl false (p0.L.map Qaa)),.p (.sl false (p0.Then.map Qaa)),.p (.sl false (p0.Else.map Qaa))],[.p (bV x1.name_),.p (bV x1.text_),.p (bV x1.num_),.p (bV x1.then_),.p (bV x1.other_),.p (iV x1.l_)],[.p (bV y3.1),.p (bV false),.p (bV false),.p (bV y3.2.1),.p (bV y3.2.2),.p (iV 1)]],[]⟩⟩
def Q4h (p0:Qab) (x1:Qdo) (y4:Bool):St:=⟨[(2,.p (bV y4))],⟨[[.p (iV p0.Kind),.p (sV p0.Name),.p (sV p0.Text),.p (iV p0.N),.p (.sl false (p0.L.map Qaa)),.p (.sl false (p0.Then.map Qaa)),.p (.sl false (p0.Else.map Qaa))],[.p (bV x1.name_),.p (bV x1.text_),.p (bV x1.num_),.p (bV x1.then_),.p (bV x1.other_),.p (iV x1.l_)],[.p (bV false),.p (bV false),.p (bV false),.p (bV false),.p (bV false),.p (iV 1)]],[]⟩⟩
def Q4i (p0:Qab) (x1:Qdo) (o5:Bool):St:=⟨[(2,.p (bV o5))],⟨[[.p (iV p0.Kind),.p (sV p0.Name),.p (sV p0.Text),.p (iV p0.N),.p (.sl false (p0.L.map Qaa)),.p (.sl false (p0.Then.map Qaa)),.p (.sl false (p0.Else.map Qaa))],[.p (bV x1.name_),.p (bV x1.text_),.p (bV x1.num_),.p (bV x1.then_),.p (bV x1.other_),.p (iV x1.l_)],[.p (bV false),.p (bV false),.p (bV false),.p (bV false),.p (bV false),.p (iV 1)]],[]⟩⟩
def Q4j (p0:Qab) (x1:Qdo) (o7:Bool):St:=⟨[(1,.ptr 0 0),(3,.ptr 1 0),(4,.ptr 2 0),(10,.p (iV p0.Kind)),(32,.p (bV o7))],⟨[[.p (iV p0.Kind),.p (sV p0.Name),.p (sV p0.Text),.p (iV p0.N),.p (.sl false (p0.L.map Qaa)),.p (.sl false (p0.Then.map Qaa)),.p (.sl false (p0.Else.map Qaa))],[.p (bV x1.name_),.p (bV x1.text_),.p (bV x1.num_),.p (bV x1.then_),.p (bV x1.other_),.p (iV x1.l_)],[.p (bV false),.p (bV false),.p (bV false),.p (bV false),.p (bV false),.p (iV 1)]],[]⟩⟩
def Q4k (p0:Qab) (x1:Qdo) (y3:Bool×Bool×Bool) (o10:Bool):St:=⟨[(1,.ptr 0 0),(3,.ptr 1 0),(4,.ptr 2 0),(5,.p (bV o10))],⟨[[.p (iV p0.Kind),.p (sV p0.Name),.p (sV p0.Text),.p (iV p0.N),.p (.sl false (p0.L.map Qaa)),.p (.sl false (p0.Then.map Qaa)),.p (.sl false (p0.Else.map Qaa))],[.p (bV x1.name_),.p (bV x1.text_),.p (bV x1.num_),.p (bV x1.then_),.p (bV x1.other_),.p (iV x1.l_)],[.p (bV y3.1),.p (bV false),.p (bV false),.p (bV y3.2.1),.p (bV y3.2.2),.p (iV 1)]],[]⟩⟩
def Q4l (p0:Qab) (x1:Qdo) (y3:Bool×Bool×Bool) (o11:Bool):St:=⟨[(2,.p (bV o11))],⟨[[.p (iV p0.Kind),.p (sV p0.Name),.p (sV p0.Text),.p (iV p0.N),.p (.sl false (p0.L.map Qaa)),.p (.sl false (p0.Then.map Qaa)),.p (.sl false (p0.Else.map Qaa))],[.p (bV x1.name_),.p (bV x1.text_),.p (bV x1.num_),.p (bV x1.then_),.p (bV x1.other_),.p (iV x1.l_)],[.p (bV y3.1),.p (bV false),.p (bV false),.p (bV y3.2.1),.p (bV y3.2.2),.p (iV 1)]],[]⟩⟩
def Q0v (y:Bool):D :=.p (bV y)
def Q2c:List (Nat×List Nat):=[(0,[0,2,3,4]),(1,[2,3,4,6]),(2,[2,3,6,8]),(3,[2,3,4,6]),(4,[2,3,4,6,14]),(5,[2]),(6,[2]),(4000002,[2,3,4,6]),(3000004,[])]
def Qaes (x1:(List UInt8)) (x2:(Int×Int)) (o9:Bool):St:=⟨[(2,.ptr 0 0),(3,.p (nV .i32 x2.1)),(4,.p (iV x2.2)),(6,.fn (.func 185) [] [.p (.ep [sV x1])]),(14,.p (bV o9))],⟨[[.p (bV false)]],[]⟩⟩
def Qn5 (x1:(List UInt8)):St:=⟨[(2,.ptr 0 0),(6,.fn (.func 185) [] [.p (.ep [sV x1])])],⟨[[.p (bV false)]],[]⟩⟩
def Qzb (x1:(List UInt8)) (y7:Unit):St:=⟨[(2,.ptr 0 0),(6,.fn (.func 185) [] [.p (.ep [sV x1])])],⟨[[.p (bV false)]],[]⟩⟩
def Qzc (x1:(List UInt8)) (y8:Unit):St:=⟨[(2,.ptr 0 0)],⟨[[.p (bV false)]],[]⟩⟩
def Qv3:Code:=((Qaz (Tryz.f168.body.getD .skip)).getD 0 .skip)
def Qmq (y:Int×Int):D :=.tup [.p (nV .i32 y.1),.p (iV y.2)]
def Qaet:List (Nat×List Nat):=[(0,[0,1]),(1,[0,1,17]),(2,[4,5]),(3,[0,1,6]),(4,[4,5]),(5,[0,1,6,21]),(6,[4,5]),(7,[0,1,6,26]),(8,[0,1,4,7,8]),(9,[0,1,6,36]),(10,[0,1,4,7,8]),(11,[0,1,6,46]),(12,[0,1,4,7,8]),(13,[4,7,8,9]),(14,[4,8,77]),(15,[4,5]),(16,[4,5]),(2004022,[]),(3000001,[]),(3000007,[]),(3000009,[]),(3000011,[]),(3000014,[])]
def Q8l (p0:(List UInt8)) (p1:Int) (o1:Bool):St:=⟨[(0,.p (sV p0)),(1,.p (iV p1)),(17,.p (bV o1))],⟨[],[]⟩⟩
def Q8m (p0:(List UInt8)) (p1:Int) (y4:Int×Int×Int):St:=⟨[(0,.p (sV p0)),(1,.p (iV p1)),(4,.p (nV .i32 y4.1)),(7,.p (nV .i32 y4.2.1)),(8,.p (iV y4.2.2))],⟨[],[]⟩⟩
def Q8n (p0:(List UInt8)) (p1:Int) (y5:Int):St:=⟨[(4,.p (nV .i32 y5)),(5,.p (iV 1))],⟨[],[]⟩⟩
def Q8o (p0:(List UInt8)) (p1:Int) (x2:UInt8) (o6:Bool):St:=⟨[(0,.p (sV p0)),(1,.p (iV p1)),(6,.p (nV .u8 (x2.toNat:Int))),(26,.p (bV o6))],⟨[],[]⟩⟩
def Q8p (p0:(List UInt8)) (p1:Int) (x2:UInt8) (o7:Bool):St:=⟨[(0,.p (sV p0)),(1,.p (iV p1)),(6,.p (nV .u8 (x2.toNat:Int))),(36,.p (bV o7))],⟨[],[]⟩⟩
def Q8q (p0:(List UInt8)) (p1:Int) (x2:UInt8) (o8:Bool):St:=⟨[(0,.p (sV p0)),(1,.p (iV p1)),(6,.p (nV .u8 (x2.toNat:Int))),(46,.p (bV o8))],⟨[],[]⟩⟩
def Q8r (y4:Int×Int×Int) (x10:Int×Bool) (o11:Bool):St:=⟨[(4,.p (nV .i32 x10.1)),(8,.p (iV y4.2.2)),(77,.p (bV o11))],⟨[],[]⟩⟩
def Q2d (y:(List UInt8)):D :=.fn (.func 185) [] [.p (.ep [sV y])]
def Qahs:List (Nat×List Nat):=[(0,[1]),(1,[2])]
def Qkl (y:(Int×Int)):List V:=[nV .i32 y.1,iV y.2]
def Qzd:List (Nat×List Nat):=[(0,[0,1,3]),(1,[0,1,3,9]),(2,[0,1,3,4,5]),(3,[0,1,3,5,20]),(4,[0,1,3]),(1000001,[0,1,3])]
def Qng (p0:(List UInt8)) (v3:Int) (gxs gp:List (List V)):St:=⟨[(0,.yld Tryz.prog 0 gxs),(1,.p (.ep [sV p0])),(3,.p (iV v3))],⟨[],[gp.length]⟩⟩
def Qta (p0:(List UInt8)) (gxs:List (List V)) (gq1:List (List V)) (oy:Unit):St:=⟨[],⟨[],[gq1.length]⟩⟩
def Q4m:Code:=((Qaz (Tryz.f185.body.getD .skip)).getD 0 .skip)
def Q8s (y:Bool):D :=.p (bV y)
def Qaka:List (Nat×List Nat):=[(0,[0]),(1,[2]),(3000001,[])]
def Qaeu  (o1:Bool):St:=⟨[(2,.p (bV o1))],⟨[],[]⟩⟩
def Qpr (y:Int×Bool):D :=.tup [.p (nV .i32 y.1),.p (bV y.2)]
def Q2e:List (Nat×List Nat):=[(0,[0,1,2]),(1,[0,1,2,12]),(2,[6,7]),(3,[0,1,13,14]),(4,[0,1,13,14,15]),(5,[0,1,8,13,14]),(6,[0,1,8,13,14,21]),(7,[6,7]),(8,[0,1,13,14]),(9,[0,1,13,14]),(10,[6,7]),(1000004,[0,1,13,14])]
def Qoy (p0:(List UInt8)) (p2:Int) (v1:Int) (v14:Int):St:=⟨[(0,.p (sV p0)),(1,.p (nV .i32 v1)),(13,.p (iV p2)),(14,.p (iV v14))],⟨[],[]⟩⟩
def Qvn (p0:(List UInt8)) (p2:Int) (y2:Int):St:=⟨[(1,.p (nV .i32 y2))],⟨[],[]⟩⟩
def Qvo (p0:(List UInt8)) (p2:Int) (y3:Unit):St:=⟨[(6,.p (nV .i32 0)),(7,.p (bV false))],⟨[],[]⟩⟩
def Q8t:Code:=((Qaz (Tryz.f187.body.getD .skip)).getD 0 .skip)
def Qe3 (p0:(List UInt8)) (p1:(List UInt8)) (p2:Int):Option (Bool) :=
 ( if(decide (p2 ≥ 0)) then
   if(decide (p2≤(p0.length:Int))) then
    if(decide ((p1.length:Int)≤(wr ((p0.length:Int)-p2)))) then
     cutL p0 p2 (wr (p2+(p1.length:Int)))>>=fun x2 =>
     some (x2==p1)
    else
     some false
   else
    some false
  else
   some false:Option (Bool))>>=fun o1 =>
 some o1
theorem Qmf:∀ (p0:(List UInt8)) (p1:(List UInt8)) (p2:Int) (o:Bool),Qe3 p0 p1 p2=some o→PCall Tryz.prog 141 [sV p0,sV p1,iV p2] (Qit o):=by
 intro p0 p1 p2 o h;unfold Qe3 at h;refine PCall.ofB mixed tbOk Q7k Tryz.func141 rfl (by kernel_rfl) (Nat.le_of_ble_eq_true rfl) ?_;refine Qaj h (fun o1 ho hk=>?_);refine Exists.intro (JP1 _ _ o1 .normal (Q1v )) (And.intro ?_ (Qa4 ?_))
 ·have h:=ho;refine Qac h (fun hb h=>?_) (fun hb h=>?_)
  ·refine vrfl ?_;refine Qac h (fun hb h=>?_) (fun hb h=>?_)
   ·refine vrfl ?_;refine vrfl ?_;refine Qac h (fun hb h=>?_) (fun hb h=>?_)
    ·refine vrfl ?_;refine Qi3 (some p2) (some (wr (p2+(p1.length:Int)))) h (fun x2 hi h=>?_);refine JP1.a h ?_;exact Le.tz 0 0 rfl rfl rfl
    ·refine JP1.a h ?_;exact Le.tz 0 0 rfl rfl rfl
   ·refine bF ?_;refine JP1.a h ?_;exact Le.tz 0 0 rfl rfl rfl
  ·refine bF ?_;refine bF ?_;refine JP1.a h ?_;exact Le.tz 0 0 rfl rfl rfl
 ·have h:=hk;refine Qas (t:=Qit) h ?_;exact .refl _
def Q2f (p0:(List (List UInt8))) (p1:(List (List UInt8))) (v5:Int):Option (Unit⊕Unit) :=
 if(decide (v5<(p0.length:Int))) then
  idx p0 v5>>=fun x4 =>
  idx p1 v5>>=fun x5 =>
  if(!(x4==x5)) then
   some (.inr ())
  else
   Q2f p0 p1 (wr (v5+1))
 else
  some (.inl ())
 partial_fixpoint
def Qarb (p0:(List (List UInt8))) (p1:(List (List UInt8))):Option (Bool) :=
 if((p0.length:Int) != (p1.length:Int)) then
  some false
 else
  (Q2f p0 p1 0)>>=fun o1 =>
  match o1 with
  | .inl y2 =>
   some true
  | .inr y3 =>
   some false
def Qn6 (p0:Int):Option (Bool) :=
 ( if(decide (p0 ≥ 0)) then
   if(decide (p0≤1114111)) then
    if(decide (p0 ≥ 55296)) then
     some (!(decide (p0≤57343)))
    else
     some true
   else
    some false
  else
   some false:Option (Bool))>>=fun o1 =>
 some o1
theorem Q2g:∀ (p0:Int) (o:Bool),Qn6 p0=some o→PCall Tryz.prog 180 [iV p0] (Qud o):=by
 intro p0 o h;unfold Qn6 at h;refine PCall.ofB mixed tbOk Qael Tryz.func180 rfl (by kernel_rfl) (Nat.le_of_ble_eq_true rfl) ?_;refine Qaj h (fun o1 ho hk=>?_);refine Exists.intro (JP1 _ _ o1 .normal (Q7q )) (And.intro ?_ (Qa4 ?_))
 ·have h:=ho;refine Qac h (fun hb h=>?_) (fun hb h=>?_)
  ·refine Qac h (fun hb h=>?_) (fun hb h=>?_)
   ·refine Qac h (fun hb h=>?_) (fun hb h=>?_)
    ·refine JP1.a h ?_;exact Le.tz 0 0 rfl rfl rfl
    ·refine JP1.a h ?_;exact Le.tz 0 0 rfl rfl rfl
   ·refine JP1.a h ?_;exact Le.tz 0 0 rfl rfl rfl
  ·refine bF ?_;refine JP1.a h ?_;exact Le.tz 0 0 rfl rfl rfl
 ·have h:=hk;refine Qas (t:=Qud) h ?_;exact .refl _
def Qnh (p0:Int):Option ((List UInt8)) :=
 ( Qn6 p0>>=fun x2 =>
  if(!x2) then
   some 65533
  else
   some p0:Option (Int))>>=fun o1 =>
 if(decide (o1<128)) then
  b2s [(IntKind.u8.wrap o1)]>>=fun x3 =>
  some x3
 else
  if(decide (o1<2048)) then
   b2s [(IntKind.u8.wrap (wr (192+(wr (o1.tdiv 64))))),(IntKind.u8.wrap (wr (128+(o1.tmod 64))))]>>=fun x4 =>
   some x4
  else
   if(decide (o1<65536)) then
    b2s [(IntKind.u8.wrap (wr (224+(wr (o1.tdiv 4096))))),(IntKind.u8.wrap (wr (128+((wr (o1.tdiv 64)).tmod 64)))),(IntKind.u8.wrap (wr (128+(o1.tmod 64))))]>>=fun x5 =>
    some x5
   else
    b2s [(IntKind.u8.wrap (wr (240+(wr (o1.tdiv 262144))))),(IntKind.u8.wrap (wr (128+((wr (o1.tdiv 4096)).tmod 64)))),(IntKind.u8.wrap (wr (128+((wr (o1.tdiv 64)).tmod 64)))),(IntKind.u8.wrap (wr (128+(o1.tmod 64))))]>>=fun x6 =>
    some x6
theorem Qaby:∀ (p0:Int) (o:(List UInt8)),Qnh p0=some o→PCall Tryz.prog 181 [iV p0] (Qkc o):=by
 intro p0 o h;unfold Qnh at h;refine PCall.ofB mixed tbOk Qabn Tryz.func181 rfl (by kernel_rfl) (Nat.le_of_ble_eq_true rfl) ?_;refine Qaj h (fun o1 ho hk=>?_);refine Exists.intro (JP1 _ _ o1 .normal (Q3m )) (And.intro ?_ (Qa4 ?_))
 ·have h:=ho;refine Qan [iV p0] Qud h (fun x2 hy=>(Q2g p0 x2 hy)) (fun x2 hy h=>?_);refine Qac h (fun hb h=>?_) (fun hb h=>?_)
  ·refine JP1.a h ?_;exact Le.tz 0 0 rfl rfl rfl
  ·refine JP1.a h ?_;exact Le.tz 0 0 rfl rfl rfl
 ·have h:=hk;refine Qac h (fun hb h=>?_) (fun hb h=>?_)
  ·refine vrfl ?_;refine Qabh (l:=[(IntKind.u8.wrap o1)]) h (fun x3 hi h=>?_);refine Qas (t:=Qkc) h ?_;exact .refl _
  ·refine Qac h (fun hb h=>?_) (fun hb h=>?_)
   ·refine And.intro (by decide) ?_;refine vrfl ?_;refine And.intro (by decide) ?_;refine vrfl ?_;refine Qabh (l:=[(IntKind.u8.wrap (wr (192+(wr (o1.tdiv 64))))),(IntKind.u8.wrap (wr (128+(o1.tmod 64))))]) h (fun x4 hi h=>?_);refine Qas (t:=Qkc) h ?_;exact .refl _
   ·refine Qac h (fun hb h=>?_) (fun hb h=>?_)
    ·refine And.intro (by decide) ?_;refine vrfl ?_;refine And.intro (by decide) ?_;refine And.intro (by decide) ?_;refine vrfl ?_;refine And.intro (by decide) ?_;refine vrfl ?_;refine Qabh (l:=[(IntKind.u8.wrap (wr (224+(wr (o1.tdiv 4096))))),(IntKind.u8.wrap (wr (128+((wr (o1.tdiv 64)).tmod 64)))),(IntKind.u8.wrap (wr (128+(o1.tmod 64))))]) h (fun x5 hi h=>?_);refine Qas (t:=Qkc) h ?_;exact .refl _
    ·refine And.intro (by decide) ?_;refine vrfl ?_;refine And.intro (by decide) ?_;refine And.intro (by decide) ?_;refine vrfl ?_;refine And.intro (by decide) ?_;refine And.intro (by decide) ?_;refine vrfl ?_;refine And.intro (by decide) ?_;refine vrfl ?_;refine Qabh (l:=[(IntKind.u8.wrap (wr (240+(wr (o1.tdiv 262144))))),(IntKind.u8.wrap (wr (128+((wr (o1.tdiv 4096)).tmod 64)))),(IntKind.u8.wrap (wr (128+((wr (o1.tdiv 64)).tmod 64)))),(IntKind.u8.wrap (wr (128+(o1.tmod 64))))]) h (fun x6 hi h=>?_);refine Qas (t:=Qkc) h ?_;exact .refl _
def Qep (p0:(List UInt8)) (p1:Int) (v6:(List Int)) (v7:Int) (v8:Int) (v9:Int):Option (Int) :=
 if(decide (v9<v7)) then
  idx p0 (wr (p1+v9))>>=fun x9 =>
  Qep p0 p1 v6 v7 (wr ((wr ((wr (64*v8))+(wr (x9.toNat:Int))))-128)) (wr (v9+1))
 else
  some v8
 partial_fixpoint
theorem Qakb:∀ (p0:(List UInt8)) (p1:Int) (v6:(List Int)) (v7:Int),(∀ (v8:Int) (v9:Int) (o8:Int),Qep p0 p1 v6 v7 v8 v9=some o8→TL (0,0) Tryz.prog 74 Q7n (JP1 (0,0) 74 o8 (.exit 2) (Qu7 p0 p1 v6 v7)) (Qom p0 p1 v6 v7 v8 v9)):=by
 intro p0 p1 v6 v7;refine Qep.partial_correctness p0 p1 v6 v7 _ ?_;intro Qep' iQep v8 v9 o8 h;refine TL.round (Qar mixed tbOk (lv:=Qvy) _ _ _ ?_);refine Qac h (fun hb h=>?_) (fun hb h=>?_)
 ·refine Qde h (fun x9 hi h=>?_);refine vrfl ?_;refine TL.le (τ := Qom p0 p1 v6 v7 (wr ((wr ((wr (64*v8))+(wr (x9.toNat:Int))))-128)) (wr (v9+1))) ?_ ((iQep (wr ((wr ((wr (64*v8))+(wr (x9.toNat:Int))))-128)) (wr (v9+1)) _ h));exact Le.tz 0 0 rfl rfl rfl
 ·exact JP1.a h (Le.tz 0 0 rfl rfl rfl)
def Qc9 (p0:(List UInt8)) (p1:Int) (v6:(List Int)) (v7:Int):Option (Unit⊕(Int×Int)) :=
 ( if(decide (v7≤4)) then
   some (decide (v7≤(wr ((p0.length:Int)-p1))))
  else
   some false:Option (Bool))>>=fun o5 =>
 if o5 then
  idx p0 p1>>=fun x6 =>
  idx v6 v7>>=fun x7 =>
  (Qep p0 p1 v6 v7 (wr ((wr (x6.toNat:Int))-x7)) 1)>>=fun o8 =>
  ( if(decide (o8 ≥ 0)) then
    Qn6 o8>>=fun x11 =>
    if x11 then
     Qnh o8>>=fun x12 =>
     cutL p0 p1 (wr (p1+v7))>>=fun x13 =>
     some (x12==x13)
    else
     some false
   else
    some false:Option (Bool))>>=fun o10 =>
  if o10 then
   some (.inr (o8,v7))
  else
   Qc9 p0 p1 v6 (wr (v7+1))
 else
  some (.inl ())
 partial_fixpoint
theorem Qakc:∀ (p0:(List UInt8)) (p1:Int) (v6:(List Int)),(∀ (v7:Int) (o2:Unit⊕(Int×Int)),Qc9 p0 p1 v6 v7=some o2→TL (0,0) Tryz.prog 74 Q7p (JP2 (0,0) 74 o2 (.exit 0) (Qu8 p0 p1) .ret (Qu9 p0 p1)) (Qon p0 p1 v6 v7)):=by
 intro p0 p1 v6;refine Qc9.partial_correctness p0 p1 v6 _ ?_;intro Qc9' iQc9 v7 o2 h;refine TL.round (Qar mixed tbOk (lv:=Qvy) _ _ _ ?_);refine Qaj h (fun o5 ho hk=>?_);refine Exists.intro (JP1 _ _ o5 .normal (Q7m p0 p1 v6 v7)) (And.intro ?_ (Qa4 ?_))
 ·have h:=ho;refine Qac h (fun hb h=>?_) (fun hb h=>?_)
  ·refine vrfl ?_;refine JP1.a h ?_;exact Le.tz 0 0 rfl rfl rfl
  ·refine JP1.a h ?_;exact Le.tz 0 0 rfl rfl rfl
 ·have h:=hk;refine Qac h (fun hb h=>?_) (fun hb h=>?_)
  ·refine And.intro (by decide +kernel) (And.intro rfl ?_);refine Qde h (fun x6 hi h=>?_);refine vrfl ?_;refine Qa8 (l:=v6) (c:=cInt) (c' := cInt) h (fun _=>rfl) (fun _=>rfl) (by decide) (fun x7 hi h=>?_);refine Qaj h (fun o8 ho hk=>?_);refine Exists.intro (JP1 _ _ o8 (.exit 2) (Qu7 p0 p1 v6 v7)) (And.intro (Qhe (τ := Qom p0 p1 v6 v7 (wr ((wr (x6.toNat:Int))-x7)) 1) ?_ (TL.loop (Qakb p0 p1 v6 v7 (wr ((wr (x6.toNat:Int))-x7)) 1 o8 ho))) (Qa4 ?_))
   ·exact Le.tz 0 0 rfl rfl rfl
   have h:=hk;refine Qaj h (fun o10 ho hk=>?_);refine Exists.intro (JP1 _ _ o10 .normal (Q7o p0 p1 v6 v7 o8)) (And.intro ?_ (Qa4 ?_))
   ·have h:=ho;refine And.intro (by decide +kernel) (And.intro rfl ?_);refine Qac h (fun hb h=>?_) (fun hb h=>?_)
    ·refine Qdk [iV o8] Qud h (fun x11 hy=>(Q2g o8 x11 hy)) (fun x11 hy h=>?_);refine Qac h (fun hb h=>?_) (fun hb h=>?_)
     ·refine Qdk [iV o8] Qkc h (fun x12 hy=>(Qaby o8 x12 hy)) (fun x12 hy h=>?_);refine Qi3 (some p1) (some (wr (p1+v7))) h (fun x13 hi h=>?_);refine JP1.a h ?_;exact Le.tz 0 0 rfl rfl rfl
     ·refine JP1.a h ?_;exact Le.tz 0 0 rfl rfl rfl
    ·refine bF ?_;refine JP1.a h ?_;exact Le.tz 0 0 rfl rfl rfl
   ·have h:=hk;refine Qac h (fun hb h=>?_) (fun hb h=>?_)
    ·exact JP2.b h (Le.tz 0 0 rfl rfl rfl)
    ·refine TL.le (τ := Qon p0 p1 v6 (wr (v7+1))) ?_ ((iQc9 (wr (v7+1)) _ h));exact Le.tz 0 0 rfl rfl rfl
  ·exact JP2.a h (Le.tz 0 0 rfl rfl rfl)
def Qmg (p0:(List UInt8)) (p1:Int):Option (Int×Int) :=
 ( if(decide (p1<0)) then
   some true
  else
   some (decide (p1 ≥ (p0.length:Int))):Option (Bool))>>=fun o1 =>
 if o1 then
  some (0,0)
 else
  (Qc9 p0 p1 [0,0,192,224,240] 1)>>=fun o2 =>
  match o2 with
  | .inl y3 =>
   some (65533,1)
  | .inr y4 =>
   some (y4.1,y4.2)
theorem Q2h:∀ (p0:(List UInt8)) (p1:Int) (o:Int×Int),Qmg p0 p1=some o→PCall Tryz.prog 171 [sV p0,iV p1] (Qmo o):=by
 intro p0 p1 o h;unfold Qmg at h;refine PCall.ofB mixed tbOk Qvy Tryz.func171 rfl (by kernel_rfl) (Nat.le_of_ble_eq_true rfl) ?_;refine Qaj h (fun o1 ho hk=>?_);refine Exists.intro (JP1 _ _ o1 .normal (Q7l p0 p1)) (And.intro ?_ (Qa4 ?_))
 ·have h:=ho;refine Qac h (fun hb h=>?_) (fun hb h=>?_)
  ·refine JP1.a h ?_;exact Le.tz 0 0 rfl rfl rfl
  ·refine vrfl ?_;refine JP1.a h ?_;exact Le.tz 0 0 rfl rfl rfl
 ·have h:=hk;refine Qac h (fun hb h=>?_) (fun hb h=>?_)
  ·refine Qas (t:=Qmo) h ?_;exact .refl _
  ·refine Qaj h (fun o2 ho hk=>?_);refine Exists.intro (JP2 _ _ o2 (.exit 0) (Qu8 p0 p1) .ret (Qu9 p0 p1)) (And.intro (Qhe (τ := Qon p0 p1 [0,0,192,224,240] 1) ?_ (TL.loop (Qakc p0 p1 [0,0,192,224,240] 1 o2 ho))) (Qfg (fun y3 hy=>?_) (fun y4 hy=>?_)))
   ·exact Le.tz 0 0 rfl rfl rfl
   ·have h:=(by rw[hy] at hk; exact hk);refine Qas (t:=Qmo) h ?_;exact .refl _
   ·have h:=(by rw[hy] at hk; exact hk);refine Qas (t:=Qmo) h ?_;exact .refl _
def Qlh (p0:(List UInt8)) (v3:Int):Option (Unit⊕Unit) :=
 if(decide (v3<(p0.length:Int))) then
  Qmg p0 v3>>=fun x4 =>
  ( if(x4.1==65533) then
    some (x4.2==1)
   else
    some false:Option (Bool))>>=fun o5 =>
  if o5 then
   some (.inr ())
  else
   Qlh p0 (wr (v3+x4.2))
 else
  some (.inl ())
 partial_fixpoint
theorem Qamq:∀ (p0:(List UInt8)),(∀ (v3:Int) (o1:Unit⊕Unit),Qlh p0 v3=some o1→TL (0,0) Tryz.prog 25 Qaek (JP2 (0,0) 25 o1 (.exit 0) (Qy2 p0) .ret (Qy3 p0)) (Qsg p0 v3)):=by
 intro p0;refine Qlh.partial_correctness p0 _ ?_;intro Qlh' iQlh v3 o1 h;refine TL.round (Qar mixed tbOk (lv:=Qabo) _ _ _ ?_);refine vrfl ?_;refine Qac h (fun hb h=>?_) (fun hb h=>?_)
 ·refine Qan [sV p0,iV v3] Qmo h (fun x4 hy=>(Q2h p0 v3 x4 hy)) (fun x4 hy h=>?_);refine Qaj h (fun o5 ho hk=>?_);refine Exists.intro (JP1 _ _ o5 .normal (Qaej p0 v3 x4)) (And.intro ?_ (Qa4 ?_))
  ·have h:=ho;refine Qac h (fun hb h=>?_) (fun hb h=>?_)
   ·refine JP1.a h ?_;exact Le.tz 0 0 rfl rfl rfl
   ·refine JP1.a h ?_;exact Le.tz 0 0 rfl rfl rfl
  ·have h:=hk;refine Qac h (fun hb h=>?_) (fun hb h=>?_)
   ·exact JP2.b h (Le.tz 0 0 rfl rfl rfl)
   ·refine TL.le (τ := Qsg p0 (wr (v3+x4.2))) ?_ ((iQlh (wr (v3+x4.2)) _ h));exact Le.tz 0 0 rfl rfl rfl
 ·exact JP2.a h (Le.tz 0 0 rfl rfl rfl)
def Qabz (p0:(List UInt8)):Option (Bool) :=
 (Qlh p0 0)>>=fun o1 =>
 match o1 with
 | .inl y2 =>
  some true
 | .inr y3 =>
  some false
theorem Qakd:∀ (p0:(List UInt8)) (o:Bool),Qabz p0=some o→PCall Tryz.prog 179 [sV p0] (Q0u o):=by
 intro p0 o h;unfold Qabz at h;refine PCall.ofB mixed tbOk Qabo Tryz.func179 rfl (by kernel_rfl) (Nat.le_of_ble_eq_true rfl) ?_;refine Qaj h (fun o1 ho hk=>?_);refine Exists.intro (JP2 _ _ o1 (.exit 0) (Qy2 p0) .ret (Qy3 p0)) (And.intro (Qhe (τ := Qsg p0 0) ?_ (TL.loop (Qamq p0 0 o1 ho))) (Qfg (fun y2 hy=>?_) (fun y3 hy=>?_)))
 ·exact Le.tz 0 0 rfl rfl rfl
 ·have h:=(by rw[hy] at hk; exact hk);refine Qas (t:=Q0u) h ?_;exact .refl _
 ·have h:=(by rw[hy] at hk; exact hk);refine Qas (t:=Q0u) h ?_;exact .refl _
def Qfc (p0:(List UInt8)) (v4:(List UInt8)) (v5:Int):Option ((List UInt8)⊕Unit) :=
 if(decide (v5<(p0.length:Int))) then
  cutL p0 v5 (wr (v5+1))>>=fun x5 =>
  if(x5==[13]) then
   some (.inr ())
  else
   ( if(x5==[10]) then
     some [92,110]
    else
     if(x5==[9]) then
      some [92,116]
     else
      ( if(x5==[34]) then
        some true
       else
        some (x5==[92]):Option (Bool))>>=fun o7 =>
      if o7 then
       need ([92].length+x5.length≤9223372036854775807)>>=fun _ =>
       some ([92]++x5)
      else
       some x5:Option ((List UInt8)))>>=fun o6 =>
   need (v4.length+o6.length≤9223372036854775807)>>=fun _ =>
   Qfc p0 (v4++o6) (wr (v5+1))
 else
  some (.inl v4)
 partial_fixpoint
theorem Qaib:∀ (p0:(List UInt8)),(∀ (v4:(List UInt8)) (v5:Int) (o2:(List UInt8)⊕Unit),Qfc p0 v4 v5=some o2→TL (0,0) Tryz.prog 40 Q3p (JP2 (0,0) 40 o2 (.exit 0) (Qsh p0) .ret (Qsi p0)) (Qm3 p0 v4 v5)):=by
 intro p0;refine Qfc.partial_correctness p0 _ ?_;intro Qfc' iQfc v4 v5 o2 h;refine TL.round (Qar mixed tbOk (lv:=Qy4) _ _ _ ?_);refine vrfl ?_;refine Qac h (fun hb h=>?_) (fun hb h=>?_)
 ·refine Qi3 (some v5) (some (wr (v5+1))) h (fun x5 hi h=>?_);refine Qac h (fun hb h=>?_) (fun hb h=>?_)
  ·exact JP2.b h (Le.tz 0 0 rfl rfl rfl)
  ·refine Qaj h (fun o6 ho hk=>?_);refine Exists.intro (JP1 _ _ o6 .normal (Q3n p0 v4 v5)) (And.intro ?_ (Qa4 ?_))
   ·have h:=ho;refine Qac h (fun hb h=>?_) (fun hb h=>?_)
    ·refine JP1.a h ?_;exact Le.tz 0 0 rfl rfl rfl
    ·refine Qac h (fun hb h=>?_) (fun hb h=>?_)
     ·refine JP1.a h ?_;exact Le.tz 0 0 rfl rfl rfl
     ·refine Qaj h (fun o7 ho hk=>?_);refine Exists.intro (JP1 _ _ o7 .normal (Q3o p0 v4 v5 x5)) (And.intro ?_ (Qa4 ?_))
      ·have h:=ho;refine Qac h (fun hb h=>?_) (fun hb h=>?_)
       ·refine JP1.a h ?_;exact Le.tz 0 0 rfl rfl rfl
       ·refine JP1.a h ?_;exact Le.tz 0 0 rfl rfl rfl
      ·have h:=hk;refine Qac h (fun hb h=>?_) (fun hb h=>?_)
       ·refine Qsc h (fun h=>?_);refine JP1.a h ?_;exact Le.tz 0 0 rfl rfl rfl
       ·refine JP1.a h ?_;exact Le.tz 0 0 rfl rfl rfl
   ·have h:=hk;refine Qsc h (fun h=>?_);refine TL.le (τ := Qm3 p0 (v4++o6) (wr (v5+1))) ?_ ((iQfc (v4++o6) (wr (v5+1)) _ h));exact Le.tz 0 0 rfl rfl rfl
 ·exact JP2.a h (Le.tz 0 0 rfl rfl rfl)
def Qni (p0:(List UInt8)):Option ((List UInt8)×Bool) :=
 Qabz p0>>=fun x1 =>
 if(!x1) then
  some ([],false)
 else
  (Qfc p0 [34] 0)>>=fun o2 =>
  match o2 with
  | .inl y3 =>
   need (y3.length+[34].length≤9223372036854775807)>>=fun _ =>
   some ((y3++[34]),true)
  | .inr y4 =>
   some ([],false)
theorem Qab0:∀ (p0:(List UInt8)) (o:(List UInt8)×Bool),Qni p0=some o→PCall Tryz.prog 170 [sV p0] (Qm2 o):=by
 intro p0 o h;unfold Qni at h;refine PCall.ofB mixed tbOk Qy4 Tryz.func170 rfl (by kernel_rfl) (Nat.le_of_ble_eq_true rfl) ?_;refine Qan [sV p0] Q0u h (fun x1 hy=>(Qakd p0 x1 hy)) (fun x1 hy h=>?_);refine Qac h (fun hb h=>?_) (fun hb h=>?_)
 ·refine Qas (t:=Qm2) h ?_;exact .refl _
 ·refine Qaj h (fun o2 ho hk=>?_);refine Exists.intro (JP2 _ _ o2 (.exit 0) (Qsh p0) .ret (Qsi p0)) (And.intro (Qhe (τ := Qm3 p0 [34] 0) ?_ (TL.loop (Qaib p0 [34] 0 o2 ho))) (Qfg (fun y3 hy=>?_) (fun y4 hy=>?_)))
  ·exact Le.tz 0 0 rfl rfl rfl
  ·have h:=(by rw[hy] at hk; exact hk);refine Qsc h (fun h=>?_);refine Qas (t:=Qm2) h ?_;exact .refl _
  ·have h:=(by rw[hy] at hk; exact hk);refine Qas (t:=Qm2) h ?_;exact .refl _
def Qf0 (p0:Int):Option (Bool) :=
 ( if(decide (p0 ≥ 48)) then
   some (decide (p0≤57))
  else
   some false:Option (Bool))>>=fun o1 =>
 some o1
theorem Qn7:∀ (p0:Int) (o:Bool),Qf0 p0=some o→PCall Tryz.prog 102 [nV .u8 p0] (Qkd o):=by
 intro p0 o h;unfold Qf0 at h;refine PCall.ofB mixed tbOk Qabp Tryz.func102 rfl (by kernel_rfl) (Nat.le_of_ble_eq_true rfl) ?_;refine Qaj h (fun o1 ho hk=>?_);refine Exists.intro (JP1 _ _ o1 .normal (Q3q )) (And.intro ?_ (Qa4 ?_))
 ·have h:=ho;refine Qac h (fun hb h=>?_) (fun hb h=>?_)
  ·refine JP1.a h ?_;exact Le.tz 0 0 rfl rfl rfl
  ·refine JP1.a h ?_;exact Le.tz 0 0 rfl rfl rfl
 ·have h:=hk;refine Qas (t:=Qkd) h ?_;exact .refl _
def Qf1 (p0:Int):Option (Bool) :=
 ( if(decide (p0 ≥ 97)) then
   some (decide (p0≤122))
  else
   some false:Option (Bool))>>=fun o1 =>
 some o1
theorem Qn8:∀ (p0:Int) (o:Bool),Qf1 p0=some o→PCall Tryz.prog 101 [nV .u8 p0] (Qke o):=by
 intro p0 o h;unfold Qf1 at h;refine PCall.ofB mixed tbOk Qabq Tryz.func101 rfl (by kernel_rfl) (Nat.le_of_ble_eq_true rfl) ?_;refine Qaj h (fun o1 ho hk=>?_);refine Exists.intro (JP1 _ _ o1 .normal (Q3r )) (And.intro ?_ (Qa4 ?_))
 ·have h:=ho;refine Qac h (fun hb h=>?_) (fun hb h=>?_)
  ·refine JP1.a h ?_;exact Le.tz 0 0 rfl rfl rfl
  ·refine JP1.a h ?_;exact Le.tz 0 0 rfl rfl rfl
 ·have h:=hk;refine Qas (t:=Qke) h ?_;exact .refl _
def Qeq (p0:(List UInt8)) (v3:Int):Option (Unit⊕Unit) :=
 if(decide (v3<(p0.length:Int))) then
  ( idx p0 v3>>=fun x8 =>
   Qf1 (x8.toNat:Int)>>=fun x9 =>
   if(!x9) then
    idx p0 v3>>=fun x10 =>
    Qf0 (x10.toNat:Int)>>=fun x11 =>
    if(!x11) then
     idx p0 v3>>=fun x12 =>
     some ((x12.toNat:Int) != 95)
    else
     some false
   else
    some false:Option (Bool))>>=fun o7 =>
  if o7 then
   some (.inr ())
  else
   Qeq p0 (wr (v3+1))
 else
  some (.inl ())
 partial_fixpoint
theorem Qake:∀ (p0:(List UInt8)),(∀ (v3:Int) (o4:Unit⊕Unit),Qeq p0 v3=some o4→TL (0,0) Tryz.prog 42 Q7t (JP2 (0,0) 42 o4 (.exit 0) (Qva p0) .ret (Qvb p0)) (Qoo p0 v3)):=by
 intro p0;refine Qeq.partial_correctness p0 _ ?_;intro Qeq' iQeq v3 o4 h;refine TL.round (Qar mixed tbOk (lv:=Q1w) _ _ _ ?_);refine vrfl ?_;refine Qac h (fun hb h=>?_) (fun hb h=>?_)
 ·refine Qaj h (fun o7 ho hk=>?_);refine Exists.intro (JP1 _ _ o7 .normal (Q7s p0 v3)) (And.intro ?_ (Qa4 ?_))
  ·have h:=ho;refine Qde h (fun x8 hi h=>?_);refine Qan [nV .u8 (x8.toNat:Int)] Qke h (fun x9 hy=>(Qn8 (x8.toNat:Int) x9 hy)) (fun x9 hy h=>?_);refine Qac h (fun hb h=>?_) (fun hb h=>?_)
   ·refine Qde h (fun x10 hi h=>?_);refine Qan [nV .u8 (x10.toNat:Int)] Qkd h (fun x11 hy=>(Qn7 (x10.toNat:Int) x11 hy)) (fun x11 hy h=>?_);refine Qac h (fun hb h=>?_) (fun hb h=>?_)
    ·refine Qde h (fun x12 hi h=>?_);refine JP1.a h ?_;exact Le.tz 0 0 rfl rfl rfl
    ·refine JP1.a h ?_;exact Le.tz 0 0 rfl rfl rfl
   ·refine bF ?_;refine JP1.a h ?_;exact Le.tz 0 0 rfl rfl rfl
  ·have h:=hk;refine Qac h (fun hb h=>?_) (fun hb h=>?_)
   ·exact JP2.b h (Le.tz 0 0 rfl rfl rfl)
   ·refine TL.le (τ := Qoo p0 (wr (v3+1))) ?_ ((iQeq (wr (v3+1)) _ h));exact Le.tz 0 0 rfl rfl rfl
 ·exact JP2.a h (Le.tz 0 0 rfl rfl rfl)
def Qia (p0:(List UInt8)):Option (Bool) :=
 ( if(decide ((p0.length:Int)<1)) then
   some true
  else
   if(decide ((p0.length:Int)>32)) then
    some true
   else
    idx p0 0>>=fun x2 =>
    Qf1 (x2.toNat:Int)>>=fun x3 =>
    some (!x3):Option (Bool))>>=fun o1 =>
 if o1 then
  some false
 else
  (Qeq p0 0)>>=fun o4 =>
  match o4 with
  | .inl y5 =>
   some true
  | .inr y6 =>
   some false
theorem Qnj:∀ (p0:(List UInt8)) (o:Bool),Qia p0=some o→PCall Tryz.prog 77 [sV p0] (Qhi o):=by
 intro p0 o h;unfold Qia at h;refine PCall.ofB mixed tbOk Q1w Tryz.func77 rfl (by kernel_rfl) (Nat.le_of_ble_eq_true rfl) ?_;refine Qaj h (fun o1 ho hk=>?_);refine Exists.intro (JP1 _ _ o1 .normal (Q7r p0)) (And.intro ?_ (Qa4 ?_))
 ·have h:=ho;refine vrfl ?_;refine Qac h (fun hb h=>?_) (fun hb h=>?_)
  ·refine bT ?_;refine JP1.a h ?_;exact Le.tz 0 0 rfl rfl rfl
  ·refine vrfl ?_;refine Qac h (fun hb h=>?_) (fun hb h=>?_)
   ·refine JP1.a h ?_;exact Le.tz 0 0 rfl rfl rfl
   ·refine Qde h (fun x2 hi h=>?_);refine Qan [nV .u8 (x2.toNat:Int)] Qke h (fun x3 hy=>(Qn8 (x2.toNat:Int) x3 hy)) (fun x3 hy h=>?_);refine JP1.a h ?_;exact Le.tz 0 0 rfl rfl rfl
 ·have h:=hk;refine Qac h (fun hb h=>?_) (fun hb h=>?_)
  ·refine Qas (t:=Qhi) h ?_;exact .refl _
  ·refine Qaj h (fun o4 ho hk=>?_);refine Exists.intro (JP2 _ _ o4 (.exit 0) (Qva p0) .ret (Qvb p0)) (And.intro (Qhe (τ := Qoo p0 0) ?_ (TL.loop (Qake p0 0 o4 ho))) (Qfg (fun y5 hy=>?_) (fun y6 hy=>?_)))
   ·exact Le.tz 0 0 rfl rfl rfl
   ·have h:=(by rw[hy] at hk; exact hk);refine Qas (t:=Qhi) h ?_;exact .refl _
   ·have h:=(by rw[hy] at hk; exact hk);refine Qas (t:=Qhi) h ?_;exact .refl _
mutual
def Qd3 (p0:(List Qab)):Option (Int) :=
 (Qei p0 0 0)>>=fun o1 =>
 some o1
 partial_fixpoint
def Qei (p0:(List Qab)) (v3:Int) (v4:Int):Option (Int) :=
 if(decide (v4<(p0.length:Int))) then
  idx p0 v4>>=fun x2 =>
  Qd3 x2.L>>=fun x3 =>
  idx p0 v4>>=fun x4 =>
  Qd3 x4.Then>>=fun x5 =>
  idx p0 v4>>=fun x6 =>
  Qd3 x6.Else>>=fun x7 =>
  Qei p0 (wr ((wr ((wr ((wr (v3+1))+x3))+x5))+x7)) (wr (v4+1))
 else
  some v3
 partial_fixpoint
end
theorem Q8u:(∀ (p0:(List Qab)) (o:Int),Qd3 p0=some o→PCall Tryz.prog 80 [.sl false (p0.map Qaa)] (Qgk o))∧(∀ (p0:(List Qab)) (v3:Int) (v4:Int) (o1:Int),Qei p0 v3 v4=some o1→TL (0,0) Tryz.prog 35 Q3s (JP1 (0,0) 35 o1 (.exit 0) (Qsj p0)) (Qm4 p0 v3 v4)):=by
 refine Qd3.mutual_partial_correctness _ _ ?_ ?_
 ·intro Qei' iQei p0 o h;refine PCall.ofB mixed tbOk Qy5 Tryz.func80 rfl (by kernel_rfl) (Nat.le_of_ble_eq_true rfl) ?_;refine Qaj h (fun o1 ho hk=>?_);refine Exists.intro (JP1 _ _ o1 (.exit 0) (Qsj p0)) (And.intro (Qhe (τ := Qm4 p0 0 0) ?_ (TL.loop (iQei p0 0 0 o1 ho))) (Qa4 ?_))
  ·exact Le.tz 0 0 rfl rfl rfl
  have h:=hk;refine Qas (t:=Qgk) h ?_;exact .refl _
 ·intro Qd3' Qei' iQd3 iQei p0 v3 v4 o1 h;refine TL.round (Qar mixed tbOk (lv:=Qy5) _ _ _ ?_);refine view (Qaw _ _) rfl ?_;refine Qac h (fun hb h=>?_) (fun hb h=>?_)
  ·refine And.intro (by decide +kernel) (And.intro rfl ?_);refine Qa8 (l:=p0) (c:=Qaa) (c' := Qa2) h Qao (fun _=>rfl) (by decide) (fun x2 hi h=>?_);refine Qdk [.sl false (x2.L.map Qaa)] Qgk h (fun x3 hy=>(iQd3 x2.L x3 hy)) (fun x3 hy h=>?_);refine Qa8 (l:=p0) (c:=Qaa) (c' := Qa2) h Qao (fun _=>rfl) (by decide) (fun x4 hi h=>?_);refine Qdk [.sl false (x4.Then.map Qaa)] Qgk h (fun x5 hy=>(iQd3 x4.Then x5 hy)) (fun x5 hy h=>?_);refine Qa8 (l:=p0) (c:=Qaa) (c' := Qa2) h Qao (fun _=>rfl) (by decide) (fun x6 hi h=>?_);refine Qdk [.sl false (x6.Else.map Qaa)] Qgk h (fun x7 hy=>(iQd3 x6.Else x7 hy)) (fun x7 hy h=>?_);refine TL.le (τ := Qm4 p0 (wr ((wr ((wr ((wr (v3+1))+x3))+x5))+x7)) (wr (v4+1))) ?_ ((iQei p0 (wr ((wr ((wr ((wr (v3+1))+x3))+x5))+x7)) (wr (v4+1)) _ h));exact Le.tz 0 0 rfl rfl rfl
  ·exact JP1.a h (Le.tz 0 0 rfl rfl rfl)
theorem Qze:∀ (p0:(List Qab)) (o:Int),Qd3 p0=some o→PCall Tryz.prog 80 [.sl false (p0.map Qaa)] (Qgk o):=fun p0=>Q8u.1 p0
mutual
def Qfj (p0:(List Qab)):Option (Int) :=
 (Qfk p0 0 0)>>=fun o1 =>
 some o1
 partial_fixpoint
def Qfk (p0:(List Qab)) (v3:Int) (v4:Int):Option (Int) :=
 if(decide (v4<(p0.length:Int))) then
  idx p0 v4>>=fun x2 =>
  Qfj x2.L>>=fun x3 =>
  idx p0 v4>>=fun x4 =>
  Qfj x4.Then>>=fun x5 =>
  idx p0 v4>>=fun x6 =>
  Qfj x6.Else>>=fun x7 =>
  Qfk p0 (if(wr (1+(if x7>(if x5>x3 then x5 else x3) then x7 else(if x5>x3 then x5 else x3))))>v3 then(wr (1+(if x7>(if x5>x3 then x5 else x3) then x7 else(if x5>x3 then x5 else x3)))) else v3) (wr (v4+1))
 else
  some v3
 partial_fixpoint
end
theorem Qab1:(∀ (p0:(List Qab)) (o:Int),Qfj p0=some o→PCall Tryz.prog 79 [.sl false (p0.map Qaa)] (Qiu o))∧(∀ (p0:(List Qab)) (v3:Int) (v4:Int) (o1:Int),Qfk p0 v3 v4=some o1→TL (0,0) Tryz.prog 34 Q7u (JP1 (0,0) 34 o1 (.exit 0) (Qvc p0)) (Qop p0 v3 v4)):=by
 refine Qfj.mutual_partial_correctness _ _ ?_ ?_
 ·intro Qfk' iQfk p0 o h;refine PCall.ofB mixed tbOk Q1x Tryz.func79 rfl (by kernel_rfl) (Nat.le_of_ble_eq_true rfl) ?_;refine Qaj h (fun o1 ho hk=>?_);refine Exists.intro (JP1 _ _ o1 (.exit 0) (Qvc p0)) (And.intro (Qhe (τ := Qop p0 0 0) ?_ (TL.loop (iQfk p0 0 0 o1 ho))) (Qa4 ?_))
  ·exact Le.tz 0 0 rfl rfl rfl
  have h:=hk;refine Qas (t:=Qiu) h ?_;exact .refl _
 ·intro Qfj' Qfk' iQfj iQfk p0 v3 v4 o1 h;refine TL.round (Qar mixed tbOk (lv:=Q1x) _ _ _ ?_);refine view (Qaw _ _) rfl ?_;refine Qac h (fun hb h=>?_) (fun hb h=>?_)
  ·refine And.intro (by decide +kernel) (And.intro rfl ?_);refine Qa8 (l:=p0) (c:=Qaa) (c' := Qa2) h Qao (fun _=>rfl) (by decide) (fun x2 hi h=>?_);refine Qdk [.sl false (x2.L.map Qaa)] Qiu h (fun x3 hy=>(iQfj x2.L x3 hy)) (fun x3 hy h=>?_);refine Qa8 (l:=p0) (c:=Qaa) (c' := Qa2) h Qao (fun _=>rfl) (by decide) (fun x4 hi h=>?_);refine Qdk [.sl false (x4.Then.map Qaa)] Qiu h (fun x5 hy=>(iQfj x4.Then x5 hy)) (fun x5 hy h=>?_);refine Qa8 (l:=p0) (c:=Qaa) (c' := Qa2) h Qao (fun _=>rfl) (by decide) (fun x6 hi h=>?_);refine Qdk [.sl false (x6.Else.map Qaa)] Qiu h (fun x7 hy=>(iQfj x6.Else x7 hy)) (fun x7 hy h=>?_);refine TL.le (τ := Qop p0 (if(wr (1+(if x7>(if x5>x3 then x5 else x3) then x7 else(if x5>x3 then x5 else x3))))>v3 then(wr (1+(if x7>(if x5>x3 then x5 else x3) then x7 else(if x5>x3 then x5 else x3)))) else v3) (wr (v4+1))) ?_ ((iQfk p0 (if(wr (1+(if x7>(if x5>x3 then x5 else x3) then x7 else(if x5>x3 then x5 else x3))))>v3 then(wr (1+(if x7>(if x5>x3 then x5 else x3) then x7 else(if x5>x3 then x5 else x3)))) else v3) (wr (v4+1)) _ h));exact Le.tz 0 0 rfl rfl rfl
  ·exact JP1.a h (Le.tz 0 0 rfl rfl rfl)
theorem Q2i:∀ (p0:(List Qab)) (o:Int),Qfj p0=some o→PCall Tryz.prog 79 [.sl false (p0.map Qaa)] (Qiu o):=fun p0=>Qab1.1 p0
def Qd4 (p0:(List UInt8)) (x1:(List (List UInt8))) (v4:Int):Option (Unit⊕Unit) :=
 if(decide (v4<(x1.length:Int))) then
  idx x1 v4>>=fun x5 =>
  if(x5==p0) then
   some (.inr ())
  else
   Qd4 p0 x1 (wr (v4+1))
 else
  some (.inl ())
 partial_fixpoint
theorem Qakf:∀ (p0:(List UInt8)) (x1:(List (List UInt8))),(∀ (v4:Int) (o2:Unit⊕Unit),Qd4 p0 x1 v4=some o2→TL (0,0) Tryz.prog 20 Q7w (JP2 (0,0) 20 o2 (.exit 0) (Qvd p0 x1) .ret (Qve p0 x1)) (Qoq p0 x1 v4)):=by
 intro p0 x1;refine Qd4.partial_correctness p0 x1 _ ?_;intro Qd4' iQd4 v4 o2 h;refine TL.round (Qar mixed tbOk (lv:=Q1y) _ _ _ ?_);refine view (Qaw _ _) rfl ?_;refine Qac h (fun hb h=>?_) (fun hb h=>?_)
 ·refine Qa8 (l:=x1) (c:=cStr) (c' := cStr) h (fun _=>rfl) (fun _=>rfl) (by decide) (fun x5 hi h=>?_);refine Qac h (fun hb h=>?_) (fun hb h=>?_)
  ·exact JP2.b h (Le.tz 0 0 rfl rfl rfl)
  ·refine TL.le (τ := Qoq p0 x1 (wr (v4+1))) ?_ ((iQd4 (wr (v4+1)) _ h));exact Le.tz 0 0 rfl rfl rfl
 ·exact JP2.a h (Le.tz 0 0 rfl rfl rfl)
def Qtb:Option ((List (List UInt8))) :=
 some ([[105,102],[101,108,115,101],[101,110,100],[101,97,99,104],[105,110],[108,101,116],[117,115,101],[116,114,117,101],[102,97,108,115,101],[115,101,99,114,101,116]])
theorem Qab2:∀ (o:(List (List UInt8))),Qtb  = some o→PCall Tryz.prog 76 [] (Qvz o):=by
 intro o h;unfold Qtb at h;refine PCall.ofB mixed tbOk Qabr Tryz.func76 rfl (by kernel_rfl) (Nat.le_of_ble_eq_true rfl) ?_;refine Qas (t:=Qvz) h ?_;exact .p (.not)
def Qhl (p0:(List UInt8)):Option (Bool) :=
 Qtb>>=fun x1 =>
 (Qd4 p0 x1 0)>>=fun o2 =>
 match o2 with
 | .inl y3 =>
  Qia p0>>=fun x6 =>
  some x6
 | .inr y4 =>
  some false
theorem Qkm:∀ (p0:(List UInt8)) (o:Bool),Qhl p0=some o→PCall Tryz.prog 43 [sV p0] (Qhj o):=by
 intro p0 o h;unfold Qhl at h;refine PCall.ofB mixed tbOk Q1y Tryz.func43 rfl (by kernel_rfl) (Nat.le_of_ble_eq_true rfl) ?_;refine Qan [] Qvz h (fun x1 hy=>(Qab2 x1 hy)) (fun x1 hy h=>?_);refine Qaj h (fun o2 ho hk=>?_);refine Exists.intro (JP2 _ _ o2 (.exit 0) (Qvd p0 x1) .ret (Qve p0 x1)) (And.intro (Qhe (τ := Qoq p0 x1 0) ?_ (TL.loop (Qakf p0 x1 0 o2 ho))) (Qfg (fun y3 hy=>?_) (fun y4 hy=>?_)))
 ·exact Le.tz 0 0 rfl rfl rfl
 ·have h:=(by rw[hy] at hk; exact hk);refine Qan [sV p0] Qhi h (fun x6 hy=>(Qnj p0 x6 hy)) (fun x6 hy h=>?_);refine Qas (t:=Qhj) h ?_;exact .refl _
 ·have h:=(by rw[hy] at hk; exact hk);refine Qas (t:=Qhj) h ?_;exact .refl _
def Qej (p0:Qab) (p1:Bool) (p2:Bool) (p3:Bool) (p4:Bool) (p5:Bool):Option (Bool) :=
 ( if p1 then
   if p2 then
    if p3 then
     if p4 then
      if p5 then
       if(p0.Kind==10) then
        some true
       else
        some ((p0.Else.length:Int)==0)
      else
       if((p0.Then.length:Int)==0) then
        if(p0.Kind==10) then
         some true
        else
         some ((p0.Else.length:Int)==0)
       else
        some false
     else
      if((p0.L.length:Int)==0) then
       if p5 then
        if(p0.Kind==10) then
         some true
        else
         some ((p0.Else.length:Int)==0)
       else
        if((p0.Then.length:Int)==0) then
         if(p0.Kind==10) then
          some true
         else
          some ((p0.Else.length:Int)==0)
        else
         some false
      else
       some false
    else
     if(p0.N==0) then
      if p4 then
       if p5 then
        if(p0.Kind==10) then
         some true
        else
         some ((p0.Else.length:Int)==0)
       else
        if((p0.Then.length:Int)==0) then
         if(p0.Kind==10) then
          some true
         else
          some ((p0.Else.length:Int)==0)
        else
         some false
      else
       if((p0.L.length:Int)==0) then
        if p5 then
         if(p0.Kind==10) then
          some true
         else
          some ((p0.Else.length:Int)==0)
        else
         if((p0.Then.length:Int)==0) then
          if(p0.Kind==10) then
           some true
          else
           some ((p0.Else.length:Int)==0)
         else
          some false
       else
        some false
     else
      some false
   else
    if(p0.Text==[]) then
     if p3 then
      if p4 then
       if p5 then
        if(p0.Kind==10) then
         some true
        else
         some ((p0.Else.length:Int)==0)
       else
        if((p0.Then.length:Int)==0) then
         if(p0.Kind==10) then
          some true
         else
          some ((p0.Else.length:Int)==0)
        else
         some false
      else
       if((p0.L.length:Int)==0) then
        if p5 then
         if(p0.Kind==10) then
          some true
         else
          some ((p0.Else.length:Int)==0)
        else
         if((p0.Then.length:Int)==0) then
          if(p0.Kind==10) then
           some true
          else
           some ((p0.Else.length:Int)==0)
         else
          some false
       else
        some false
     else
      if(p0.N==0) then
       if p4 then
        if p5 then
         if(p0.Kind==10) then
          some true
         else
          some ((p0.Else.length:Int)==0)
        else
         if((p0.Then.length:Int)==0) then
          if(p0.Kind==10) then
           some true
          else
           some ((p0.Else.length:Int)==0)
         else
          some false
       else
        if((p0.L.length:Int)==0) then
         if p5 then
          if(p0.Kind==10) then
           some true
          else
           some ((p0.Else.length:Int)==0)
         else
          if((p0.Then.length:Int)==0) then
           if(p0.Kind==10) then
            some true
           else
            some ((p0.Else.length:Int)==0)
          else
           some false
        else
         some false
      else
       some false
    else
     some false
  else
   if(p0.Name==[]) then
    if p2 then
     if p3 then
      if p4 then
       if p5 then
        if(p0.Kind==10) then
         some true
        else
         some ((p0.Else.length:Int)==0)
       else
        if((p0.Then.length:Int)==0) then
         if(p0.Kind==10) then
          some true
         else
          some ((p0.Else.length:Int)==0)
        else
         some false
      else
       if((p0.L.length:Int)==0) then
        if p5 then
         if(p0.Kind==10) then
          some true
         else
          some ((p0.Else.length:Int)==0)
        else
         if((p0.Then.length:Int)==0) then
          if(p0.Kind==10) then
           some true
          else
           some ((p0.Else.length:Int)==0)
         else
          some false
       else
        some false
     else
      if(p0.N==0) then
       if p4 then
        if p5 then
         if(p0.Kind==10) then
          some true
         else
          some ((p0.Else.length:Int)==0)
        else
         if((p0.Then.length:Int)==0) then
          if(p0.Kind==10) then
           some true
          else
           some ((p0.Else.length:Int)==0)
         else
          some false
       else
        if((p0.L.length:Int)==0) then
         if p5 then
          if(p0.Kind==10) then
           some true
          else
           some ((p0.Else.length:Int)==0)
         else
          if((p0.Then.length:Int)==0) then
           if(p0.Kind==10) then
            some true
           else
            some ((p0.Else.length:Int)==0)
          else
           some false
        else
         some false
      else
       some false
    else
     if(p0.Text==[]) then
      if p3 then
       if p4 then
        if p5 then
         if(p0.Kind==10) then
          some true
         else
          some ((p0.Else.length:Int)==0)
        else
         if((p0.Then.length:Int)==0) then
          if(p0.Kind==10) then
           some true
          else
           some ((p0.Else.length:Int)==0)
         else
          some false
       else
        if((p0.L.length:Int)==0) then
         if p5 then
          if(p0.Kind==10) then
           some true
          else
           some ((p0.Else.length:Int)==0)
         else
          if((p0.Then.length:Int)==0) then
           if(p0.Kind==10) then
            some true
           else
            some ((p0.Else.length:Int)==0)
          else
           some false
        else
         some false
      else
       if(p0.N==0) then
        if p4 then
         if p5 then
          if(p0.Kind==10) then
           some true
          else
           some ((p0.Else.length:Int)==0)
         else
          if((p0.Then.length:Int)==0) then
           if(p0.Kind==10) then
            some true
           else
            some ((p0.Else.length:Int)==0)
          else
           some false
        else
         if((p0.L.length:Int)==0) then
          if p5 then
           if(p0.Kind==10) then
            some true
           else
            some ((p0.Else.length:Int)==0)
          else
           if((p0.Then.length:Int)==0) then
            if(p0.Kind==10) then
             some true
            else
             some ((p0.Else.length:Int)==0)
           else
            some false
         else
          some false
       else
        some false
     else
      some false
   else
    some false:Option (Bool))>>=fun o1 =>
 some o1
theorem Qda:∀ (p0:Qab) (p1:Bool) (p2:Bool) (p3:Bool) (p4:Bool) (p5:Bool) (o:Bool),Qej p0 p1 p2 p3 p4 p5=some o→PCall Tryz.prog 132 [.agg [iV p0.Kind,sV p0.Name,sV p0.Text,iV p0.N,.sl false (p0.L.map Qaa),.sl false (p0.Then.map Qaa),.sl false (p0.Else.map Qaa)],bV p1,bV p2,bV p3,bV p4,bV p5] (Qc5 o):=by
 intro p0 p1 p2 p3 p4 p5 o h;unfold Qej at h;refine PCall.ofB mixed tbOk Qaen Tryz.func132 rfl (by kernel_rfl) (Nat.le_of_ble_eq_true rfl) ?_;refine Qaj h (fun o1 ho hk=>?_);refine Exists.intro (JP1 _ _ o1 .normal (Q7x p0)) (And.intro ?_ (Qa4 ?_))
 ·have h:=ho;refine Qac h (fun hb h=>?_) (fun hb h=>?_)
  ·refine bT ?_;refine Qac h (fun hb h=>?_) (fun hb h=>?_)
   ·refine bT ?_;refine Qac h (fun hb h=>?_) (fun hb h=>?_)
    ·refine bT ?_;refine Qac h (fun hb h=>?_) (fun hb h=>?_)
     ·refine bT ?_;refine Qac h (fun hb h=>?_) (fun hb h=>?_)
      ·refine bT ?_;refine Qac h (fun hb h=>?_) (fun hb h=>?_)
       ·refine JP1.a h ?_;exact Le.tz 1 0 rfl rfl rfl
       ·refine view (Qaw _ _) rfl ?_;refine JP1.a h ?_;exact Le.tz 1 0 rfl rfl rfl
      ·refine view (Qaw _ _) rfl ?_;refine Qac h (fun hb h=>?_) (fun hb h=>?_)
       ·refine Qac h (fun hb h=>?_) (fun hb h=>?_)
        ·refine JP1.a h ?_;exact Le.tz 1 0 rfl rfl rfl
        ·refine view (Qaw _ _) rfl ?_;refine JP1.a h ?_;exact Le.tz 1 0 rfl rfl rfl
       ·refine JP1.a h ?_;exact Le.tz 1 0 rfl rfl rfl
     ·refine view (Qaw _ _) rfl ?_;refine Qac h (fun hb h=>?_) (fun hb h=>?_)
      ·refine Qac h (fun hb h=>?_) (fun hb h=>?_)
       ·refine bT ?_;refine Qac h (fun hb h=>?_) (fun hb h=>?_)
        ·refine JP1.a h ?_;exact Le.tz 1 0 rfl rfl rfl
        ·refine view (Qaw _ _) rfl ?_;refine JP1.a h ?_;exact Le.tz 1 0 rfl rfl rfl
       ·refine view (Qaw _ _) rfl ?_;refine Qac h (fun hb h=>?_) (fun hb h=>?_)
        ·refine Qac h (fun hb h=>?_) (fun hb h=>?_)
         ·refine JP1.a h ?_;exact Le.tz 1 0 rfl rfl rfl
         ·refine view (Qaw _ _) rfl ?_;refine JP1.a h ?_;exact Le.tz 1 0 rfl rfl rfl
        ·refine JP1.a h ?_;exact Le.tz 1 0 rfl rfl rfl
      ·refine bF ?_;refine JP1.a h ?_;exact Le.tz 1 0 rfl rfl rfl
    ·refine Qac h (fun hb h=>?_) (fun hb h=>?_)
     ·refine Qac h (fun hb h=>?_) (fun hb h=>?_)
      ·refine bT ?_;refine Qac h (fun hb h=>?_) (fun hb h=>?_)
       ·refine bT ?_;refine Qac h (fun hb h=>?_) (fun hb h=>?_)
        ·refine JP1.a h ?_;exact Le.tz 1 0 rfl rfl rfl
        ·refine view (Qaw _ _) rfl ?_;refine JP1.a h ?_;exact Le.tz 1 0 rfl rfl rfl
       ·refine view (Qaw _ _) rfl ?_;refine Qac h (fun hb h=>?_) (fun hb h=>?_)
        ·refine Qac h (fun hb h=>?_) (fun hb h=>?_)
         ·refine JP1.a h ?_;exact Le.tz 1 0 rfl rfl rfl
         ·refine view (Qaw _ _) rfl ?_;refine JP1.a h ?_;exact Le.tz 1 0 rfl rfl rfl
        ·refine JP1.a h ?_;exact Le.tz 1 0 rfl rfl rfl
      ·refine view (Qaw _ _) rfl ?_;refine Qac h (fun hb h=>?_) (fun hb h=>?_)
       ·refine Qac h (fun hb h=>?_) (fun hb h=>?_)
        ·refine bT ?_;refine Qac h (fun hb h=>?_) (fun hb h=>?_)
         ·refine JP1.a h ?_;exact Le.tz 1 0 rfl rfl rfl
         ·refine view (Qaw _ _) rfl ?_;refine JP1.a h ?_;exact Le.tz 1 0 rfl rfl rfl
        ·refine view (Qaw _ _) rfl ?_;refine Qac h (fun hb h=>?_) (fun hb h=>?_)
         ·refine Qac h (fun hb h=>?_) (fun hb h=>?_)
          ·refine JP1.a h ?_;exact Le.tz 1 0 rfl rfl rfl
          ·refine view (Qaw _ _) rfl ?_;refine JP1.a h ?_;exact Le.tz 1 0 rfl rfl rfl
         ·refine JP1.a h ?_;exact Le.tz 1 0 rfl rfl rfl
       ·refine bF ?_;refine JP1.a h ?_;exact Le.tz 1 0 rfl rfl rfl
     ·refine bF ?_;refine bF ?_;refine JP1.a h ?_;exact Le.tz 1 0 rfl rfl rfl
   ·refine Qac h (fun hb h=>?_) (fun hb h=>?_)
    ·refine Qac h (fun hb h=>?_) (fun hb h=>?_)
     ·refine bT ?_;refine Qac h (fun hb h=>?_) (fun hb h=>?_)
      ·refine bT ?_;refine Qac h (fun hb h=>?_) (fun hb h=>?_)
       ·refine bT ?_;refine Qac h (fun hb h=>?_) (fun hb h=>?_)
        ·refine JP1.a h ?_;exact Le.tz 1 0 rfl rfl rfl
        ·refine view (Qaw _ _) rfl ?_;refine JP1.a h ?_;exact Le.tz 1 0 rfl rfl rfl
       ·refine view (Qaw _ _) rfl ?_;refine Qac h (fun hb h=>?_) (fun hb h=>?_)
        ·refine Qac h (fun hb h=>?_) (fun hb h=>?_)
         ·refine JP1.a h ?_;exact Le.tz 1 0 rfl rfl rfl
         ·refine view (Qaw _ _) rfl ?_;refine JP1.a h ?_;exact Le.tz 1 0 rfl rfl rfl
        ·refine JP1.a h ?_;exact Le.tz 1 0 rfl rfl rfl
      ·refine view (Qaw _ _) rfl ?_;refine Qac h (fun hb h=>?_) (fun hb h=>?_)
       ·refine Qac h (fun hb h=>?_) (fun hb h=>?_)
        ·refine bT ?_;refine Qac h (fun hb h=>?_) (fun hb h=>?_)
         ·refine JP1.a h ?_;exact Le.tz 1 0 rfl rfl rfl
         ·refine view (Qaw _ _) rfl ?_;refine JP1.a h ?_;exact Le.tz 1 0 rfl rfl rfl
        ·refine view (Qaw _ _) rfl ?_;refine Qac h (fun hb h=>?_) (fun hb h=>?_)
         ·refine Qac h (fun hb h=>?_) (fun hb h=>?_)
          ·refine JP1.a h ?_;exact Le.tz 1 0 rfl rfl rfl
          ·refine view (Qaw _ _) rfl ?_;refine JP1.a h ?_;exact Le.tz 1 0 rfl rfl rfl
         ·refine JP1.a h ?_;exact Le.tz 1 0 rfl rfl rfl
       ·refine bF ?_;refine JP1.a h ?_;exact Le.tz 1 0 rfl rfl rfl
     ·refine Qac h (fun hb h=>?_) (fun hb h=>?_)
      ·refine Qac h (fun hb h=>?_) (fun hb h=>?_)
       ·refine bT ?_;refine Qac h (fun hb h=>?_) (fun hb h=>?_)
        ·refine bT ?_;refine Qac h (fun hb h=>?_) (fun hb h=>?_)
         ·refine JP1.a h ?_;exact Le.tz 1 0 rfl rfl rfl
         ·refine view (Qaw _ _) rfl ?_;refine JP1.a h ?_;exact Le.tz 1 0 rfl rfl rfl
        ·refine view (Qaw _ _) rfl ?_;refine Qac h (fun hb h=>?_) (fun hb h=>?_)
         ·refine Qac h (fun hb h=>?_) (fun hb h=>?_)
          ·refine JP1.a h ?_;exact Le.tz 1 0 rfl rfl rfl
          ·refine view (Qaw _ _) rfl ?_;refine JP1.a h ?_;exact Le.tz 1 0 rfl rfl rfl
         ·refine JP1.a h ?_;exact Le.tz 1 0 rfl rfl rfl
       ·refine view (Qaw _ _) rfl ?_;refine Qac h (fun hb h=>?_) (fun hb h=>?_)
        ·refine Qac h (fun hb h=>?_) (fun hb h=>?_)
         ·refine bT ?_;refine Qac h (fun hb h=>?_) (fun hb h=>?_)
          ·refine JP1.a h ?_;exact Le.tz 1 0 rfl rfl rfl
          ·refine view (Qaw _ _) rfl ?_;refine JP1.a h ?_;exact Le.tz 1 0 rfl rfl rfl
         ·refine view (Qaw _ _) rfl ?_;refine Qac h (fun hb h=>?_) (fun hb h=>?_)
          ·refine Qac h (fun hb h=>?_) (fun hb h=>?_)
           ·refine JP1.a h ?_;exact Le.tz 1 0 rfl rfl rfl
           ·refine view (Qaw _ _) rfl ?_;refine JP1.a h ?_;exact Le.tz 1 0 rfl rfl rfl
          ·refine JP1.a h ?_;exact Le.tz 1 0 rfl rfl rfl
        ·refine bF ?_;refine JP1.a h ?_;exact Le.tz 1 0 rfl rfl rfl
      ·refine bF ?_;refine bF ?_;refine JP1.a h ?_;exact Le.tz 1 0 rfl rfl rfl
    ·refine bF ?_;refine bF ?_;refine bF ?_;refine JP1.a h ?_;exact Le.tz 1 0 rfl rfl rfl
  ·refine Qac h (fun hb h=>?_) (fun hb h=>?_)
   ·refine Qac h (fun hb h=>?_) (fun hb h=>?_)
    ·refine bT ?_;refine Qac h (fun hb h=>?_) (fun hb h=>?_)
     ·refine bT ?_;refine Qac h (fun hb h=>?_) (fun hb h=>?_)
      ·refine bT ?_;refine Qac h (fun hb h=>?_) (fun hb h=>?_)
       ·refine bT ?_;refine Qac h (fun hb h=>?_) (fun hb h=>?_)
        ·refine JP1.a h ?_;exact Le.tz 1 0 rfl rfl rfl
        ·refine view (Qaw _ _) rfl ?_;refine JP1.a h ?_;exact Le.tz 1 0 rfl rfl rfl
       ·refine view (Qaw _ _) rfl ?_;refine Qac h (fun hb h=>?_) (fun hb h=>?_)
        ·refine Qac h (fun hb h=>?_) (fun hb h=>?_)
         ·refine JP1.a h ?_;exact Le.tz 1 0 rfl rfl rfl
         ·refine view (Qaw _ _) rfl ?_;refine JP1.a h ?_;exact Le.tz 1 0 rfl rfl rfl
        ·refine JP1.a h ?_;exact Le.tz 1 0 rfl rfl rfl
      ·refine view (Qaw _ _) rfl ?_;refine Qac h (fun hb h=>?_) (fun hb h=>?_)
       ·refine Qac h (fun hb h=>?_) (fun hb h=>?_)
        ·refine bT ?_;refine Qac h (fun hb h=>?_) (fun hb h=>?_)
         ·refine JP1.a h ?_;exact Le.tz 1 0 rfl rfl rfl
         ·refine view (Qaw _ _) rfl ?_;refine JP1.a h ?_;exact Le.tz 1 0 rfl rfl rfl
        ·refine view (Qaw _ _) rfl ?_;refine Qac h (fun hb h=>?_) (fun hb h=>?_)
         ·refine Qac h (fun hb h=>?_) (fun hb h=>?_)
          ·refine JP1.a h ?_;exact Le.tz 1 0 rfl rfl rfl
          ·refine view (Qaw _ _) rfl ?_;refine JP1.a h ?_;exact Le.tz 1 0 rfl rfl rfl
         ·refine JP1.a h ?_;exact Le.tz 1 0 rfl rfl rfl
       ·refine bF ?_;refine JP1.a h ?_;exact Le.tz 1 0 rfl rfl rfl
     ·refine Qac h (fun hb h=>?_) (fun hb h=>?_)
      ·refine Qac h (fun hb h=>?_) (fun hb h=>?_)
       ·refine bT ?_;refine Qac h (fun hb h=>?_) (fun hb h=>?_)
        ·refine bT ?_;refine Qac h (fun hb h=>?_) (fun hb h=>?_)
         ·refine JP1.a h ?_;exact Le.tz 1 0 rfl rfl rfl
         ·refine view (Qaw _ _) rfl ?_;refine JP1.a h ?_;exact Le.tz 1 0 rfl rfl rfl
        ·refine view (Qaw _ _) rfl ?_;refine Qac h (fun hb h=>?_) (fun hb h=>?_)
         ·refine Qac h (fun hb h=>?_) (fun hb h=>?_)
          ·refine JP1.a h ?_;exact Le.tz 1 0 rfl rfl rfl
          ·refine view (Qaw _ _) rfl ?_;refine JP1.a h ?_;exact Le.tz 1 0 rfl rfl rfl
         ·refine JP1.a h ?_;exact Le.tz 1 0 rfl rfl rfl
       ·refine view (Qaw _ _) rfl ?_;refine Qac h (fun hb h=>?_) (fun hb h=>?_)
        ·refine Qac h (fun hb h=>?_) (fun hb h=>?_)
         ·refine bT ?_;refine Qac h (fun hb h=>?_) (fun hb h=>?_)
          ·refine JP1.a h ?_;exact Le.tz 1 0 rfl rfl rfl
          ·refine view (Qaw _ _) rfl ?_;refine JP1.a h ?_;exact Le.tz 1 0 rfl rfl rfl
         ·refine view (Qaw _ _) rfl ?_;refine Qac h (fun hb h=>?_) (fun hb h=>?_)
          ·refine Qac h (fun hb h=>?_) (fun hb h=>?_)
           ·refine JP1.a h ?_;exact Le.tz 1 0 rfl rfl rfl
           ·refine view (Qaw _ _) rfl ?_;refine JP1.a h ?_;exact Le.tz 1 0 rfl rfl rfl
          ·refine JP1.a h ?_;exact Le.tz 1 0 rfl rfl rfl
        ·refine bF ?_;refine JP1.a h ?_;exact Le.tz 1 0 rfl rfl rfl
      ·refine bF ?_;refine bF ?_;refine JP1.a h ?_;exact Le.tz 1 0 rfl rfl rfl
    ·refine Qac h (fun hb h=>?_) (fun hb h=>?_)
     ·refine Qac h (fun hb h=>?_) (fun hb h=>?_)
      ·refine bT ?_;refine Qac h (fun hb h=>?_) (fun hb h=>?_)
       ·refine bT ?_;refine Qac h (fun hb h=>?_) (fun hb h=>?_)
        ·refine bT ?_;refine Qac h (fun hb h=>?_) (fun hb h=>?_)
         ·refine JP1.a h ?_;exact Le.tz 1 0 rfl rfl rfl
         ·refine view (Qaw _ _) rfl ?_;refine JP1.a h ?_;exact Le.tz 1 0 rfl rfl rfl
        ·refine view (Qaw _ _) rfl ?_;refine Qac h (fun hb h=>?_) (fun hb h=>?_)
         ·refine Qac h (fun hb h=>?_) (fun hb h=>?_)
          ·refine JP1.a h ?_;exact Le.tz 1 0 rfl rfl rfl
          ·refine view (Qaw _ _) rfl ?_;refine JP1.a h ?_;exact Le.tz 1 0 rfl rfl rfl
         ·refine JP1.a h ?_;exact Le.tz 1 0 rfl rfl rfl
       ·refine view (Qaw _ _) rfl ?_;refine Qac h (fun hb h=>?_) (fun hb h=>?_)
        ·refine Qac h (fun hb h=>?_) (fun hb h=>?_)
         ·refine bT ?_;refine Qac h (fun hb h=>?_) (fun hb h=>?_)
          ·refine JP1.a h ?_;exact Le.tz 1 0 rfl rfl rfl
          ·refine view (Qaw _ _) rfl ?_;refine JP1.a h ?_;exact Le.tz 1 0 rfl rfl rfl
         ·refine view (Qaw _ _) rfl ?_;refine Qac h (fun hb h=>?_) (fun hb h=>?_)
          ·refine Qac h (fun hb h=>?_) (fun hb h=>?_)
           ·refine JP1.a h ?_;exact Le.tz 1 0 rfl rfl rfl
           ·refine view (Qaw _ _) rfl ?_;refine JP1.a h ?_;exact Le.tz 1 0 rfl rfl rfl
          ·refine JP1.a h ?_;exact Le.tz 1 0 rfl rfl rfl
        ·refine bF ?_;refine JP1.a h ?_;exact Le.tz 1 0 rfl rfl rfl
      ·refine Qac h (fun hb h=>?_) (fun hb h=>?_)
       ·refine Qac h (fun hb h=>?_) (fun hb h=>?_)
        ·refine bT ?_;refine Qac h (fun hb h=>?_) (fun hb h=>?_)
         ·refine bT ?_;refine Qac h (fun hb h=>?_) (fun hb h=>?_)
          ·refine JP1.a h ?_;exact Le.tz 1 0 rfl rfl rfl
          ·refine view (Qaw _ _) rfl ?_;refine JP1.a h ?_;exact Le.tz 1 0 rfl rfl rfl
         ·refine view (Qaw _ _) rfl ?_;refine Qac h (fun hb h=>?_) (fun hb h=>?_)
          ·refine Qac h (fun hb h=>?_) (fun hb h=>?_)
           ·refine JP1.a h ?_;exact Le.tz 1 0 rfl rfl rfl
           ·refine view (Qaw _ _) rfl ?_;refine JP1.a h ?_;exact Le.tz 1 0 rfl rfl rfl
          ·refine JP1.a h ?_;exact Le.tz 1 0 rfl rfl rfl
        ·refine view (Qaw _ _) rfl ?_;refine Qac h (fun hb h=>?_) (fun hb h=>?_)
         ·refine Qac h (fun hb h=>?_) (fun hb h=>?_)
          ·refine bT ?_;refine Qac h (fun hb h=>?_) (fun hb h=>?_)
           ·refine JP1.a h ?_;exact Le.tz 1 0 rfl rfl rfl
           ·refine view (Qaw _ _) rfl ?_;refine JP1.a h ?_;exact Le.tz 1 0 rfl rfl rfl
          ·refine view (Qaw _ _) rfl ?_;refine Qac h (fun hb h=>?_) (fun hb h=>?_)
           ·refine Qac h (fun hb h=>?_) (fun hb h=>?_)
            ·refine JP1.a h ?_;exact Le.tz 1 0 rfl rfl rfl
            ·refine view (Qaw _ _) rfl ?_;refine JP1.a h ?_;exact Le.tz 1 0 rfl rfl rfl
           ·refine JP1.a h ?_;exact Le.tz 1 0 rfl rfl rfl
         ·refine bF ?_;refine JP1.a h ?_;exact Le.tz 1 0 rfl rfl rfl
       ·refine bF ?_;refine bF ?_;refine JP1.a h ?_;exact Le.tz 1 0 rfl rfl rfl
     ·refine bF ?_;refine bF ?_;refine bF ?_;refine JP1.a h ?_;exact Le.tz 1 0 rfl rfl rfl
   ·refine bF ?_;refine bF ?_;refine bF ?_;refine bF ?_;refine JP1.a h ?_;exact Le.tz 1 0 rfl rfl rfl
 ·have h:=hk;refine Qas (t:=Qc5) h ?_;exact .refl _
mutual
def Que (p0:Qab):Option (Bool) :=
 if(p0.Kind==1) then
  Qni p0.Text>>=fun x1 =>
  ( if x1.2 then
    Qej p0 false true false false false>>=fun x3 =>
    some x3
   else
    some false:Option (Bool))>>=fun o2 =>
  some o2
 else
  if(p0.Kind==2) then
   Qej p0 false false true false false>>=fun x4 =>
   some x4
  else
   if(p0.Kind==3) then
    ( if(p0.N==0) then
      Qej p0 false false true false false>>=fun x6 =>
      some x6
     else
      if(p0.N==1) then
       Qej p0 false false true false false>>=fun x7 =>
       some x7
      else
       some false:Option (Bool))>>=fun o5 =>
    some o5
   else
    if(p0.Kind==4) then
     ( Qhl p0.Name>>=fun x9 =>
      if x9 then
       Qej p0 true false false false false>>=fun x10 =>
       some x10
      else
       some false:Option (Bool))>>=fun o8 =>
     some o8
    else
     if(p0.Kind==5) then
      ( Qia p0.Name>>=fun x12 =>
       if x12 then
        if((p0.L.length:Int)==1) then
         Qnk p0.L>>=fun x13 =>
         if x13 then
          Qej p0 true false false true false>>=fun x14 =>
          some x14
         else
          some false
        else
         some false
       else
        some false:Option (Bool))>>=fun o11 =>
      some o11
     else
      if(p0.Kind==6) then
       ( Qhl p0.Name>>=fun x16 =>
        if x16 then
         if(decide ((p0.L.length:Int)≤3)) then
          Qnk p0.L>>=fun x17 =>
          if x17 then
           Qej p0 true false false true false>>=fun x18 =>
           some x18
          else
           some false
         else
          some false
        else
         some false:Option (Bool))>>=fun o15 =>
       some o15
      else
       if(p0.Kind==7) then
        ( Qia p0.Name>>=fun x20 =>
         if x20 then
          Qej p0 true false false false false>>=fun x21 =>
          some x21
         else
          some false:Option (Bool))>>=fun o19 =>
        some o19
       else
        some false
 partial_fixpoint
def Qnk (p0:(List Qab)):Option (Bool) :=
 (Qiw p0 0)>>=fun o1 =>
 match o1 with
 | .inl y2 =>
  some true
 | .inr y3 =>
  some false
 partial_fixpoint
def Qiw (p0:(List Qab)) (v3:Int):Option (Unit⊕Unit) :=
 if(decide (v3<(p0.length:Int))) then
  idx p0 v3>>=fun x4 =>
  Que x4>>=fun x5 =>
  if(!x5) then
   some (.inr ())
  else
   Qiw p0 (wr (v3+1))
 else
  some (.inl ())
 partial_fixpoint
end
theorem Qab3:(∀ (p0:Qab) (o:Bool),Que p0=some o→PCall Tryz.prog 156 [.agg [iV p0.Kind,sV p0.Name,sV p0.Text,iV p0.N,.sl false (p0.L.map Qaa),.sl false (p0.Then.map Qaa),.sl false (p0.Else.map Qaa)]] (Qf6 o))∧(∀ (p0:(List Qab)) (o:Bool),Qnk p0=some o→PCall Tryz.prog 130 [.sl false (p0.map Qaa)] (Qid o))∧(∀ (p0:(List Qab)) (v3:Int) (o1:Unit⊕Unit),Qiw p0 v3=some o1→TL (0,0) Tryz.prog 16 Q3v (JP2 (0,0) 16 o1 (.exit 0) (Qsm p0) .ret (Qsn p0)) (Qm5 p0 v3)):=by
 refine Que.mutual_partial_correctness _ _ _ ?_ ?_ ?_
 ·intro Qnk' iQnk p0 o h;refine PCall.ofB mixed tbOk Qaeo Tryz.func156 rfl (by kernel_rfl) (Nat.le_of_ble_eq_true rfl) ?_;refine Qac h (fun hb h=>?_) (fun hb h=>?_)
  ·refine Qan [sV p0.Text] Qm2 h (fun x1 hy=>(Qab0 p0.Text x1 hy)) (fun x1 hy h=>?_);refine Qaj h (fun o2 ho hk=>?_);refine Exists.intro (JP1 _ _ o2 .normal (Q7y p0)) (And.intro ?_ (Qa4 ?_))
   ·have h:=ho;refine Qac h (fun hb h=>?_) (fun hb h=>?_)
    ·refine Qan [.agg [iV p0.Kind,sV p0.Name,sV p0.Text,iV p0.N,.sl false (p0.L.map Qaa),.sl false (p0.Then.map Qaa),.sl false (p0.Else.map Qaa)],bV false,bV true,bV false,bV false,bV false] Qc5 h (fun x3 hy=>(Qda p0 false true false false false x3 hy)) (fun x3 hy h=>?_);refine JP1.a h ?_;exact Le.tz 1 0 rfl rfl rfl
    ·refine JP1.a h ?_;exact Le.tz 1 0 rfl rfl rfl
   ·have h:=hk;refine Qas (t:=Qf6) h ?_;exact .refl _
  ·refine Qac h (fun hb h=>?_) (fun hb h=>?_)
   ·refine Qan [.agg [iV p0.Kind,sV p0.Name,sV p0.Text,iV p0.N,.sl false (p0.L.map Qaa),.sl false (p0.Then.map Qaa),.sl false (p0.Else.map Qaa)],bV false,bV false,bV true,bV false,bV false] Qc5 h (fun x4 hy=>(Qda p0 false false true false false x4 hy)) (fun x4 hy h=>?_);refine Qas (t:=Qf6) h ?_;exact .refl _
   ·refine Qac h (fun hb h=>?_) (fun hb h=>?_)
    ·refine Qaj h (fun o5 ho hk=>?_);refine Exists.intro (JP1 _ _ o5 .normal (Q7z p0)) (And.intro ?_ (Qa4 ?_))
     ·have h:=ho;refine Qac h (fun hb h=>?_) (fun hb h=>?_)
      ·refine bT ?_;refine Qan [.agg [iV p0.Kind,sV p0.Name,sV p0.Text,iV p0.N,.sl false (p0.L.map Qaa),.sl false (p0.Then.map Qaa),.sl false (p0.Else.map Qaa)],bV false,bV false,bV true,bV false,bV false] Qc5 h (fun x6 hy=>(Qda p0 false false true false false x6 hy)) (fun x6 hy h=>?_);refine JP1.a h ?_;exact Le.tz 1 0 rfl rfl rfl
      ·refine Qac h (fun hb h=>?_) (fun hb h=>?_)
       ·refine Qan [.agg [iV p0.Kind,sV p0.Name,sV p0.Text,iV p0.N,.sl false (p0.L.map Qaa),.sl false (p0.Then.map Qaa),.sl false (p0.Else.map Qaa)],bV false,bV false,bV true,bV false,bV false] Qc5 h (fun x7 hy=>(Qda p0 false false true false false x7 hy)) (fun x7 hy h=>?_);refine JP1.a h ?_;exact Le.tz 1 0 rfl rfl rfl
       ·refine JP1.a h ?_;exact Le.tz 1 0 rfl rfl rfl
     ·have h:=hk;refine Qas (t:=Qf6) h ?_;exact .refl _
    ·refine Qac h (fun hb h=>?_) (fun hb h=>?_)
     ·refine Qaj h (fun o8 ho hk=>?_);refine Exists.intro (JP1 _ _ o8 .normal (Q70 p0)) (And.intro ?_ (Qa4 ?_))
      ·have h:=ho;refine Qan [sV p0.Name] Qhj h (fun x9 hy=>(Qkm p0.Name x9 hy)) (fun x9 hy h=>?_);refine Qac h (fun hb h=>?_) (fun hb h=>?_)
       ·refine Qan [.agg [iV p0.Kind,sV p0.Name,sV p0.Text,iV p0.N,.sl false (p0.L.map Qaa),.sl false (p0.Then.map Qaa),.sl false (p0.Else.map Qaa)],bV true,bV false,bV false,bV false,bV false] Qc5 h (fun x10 hy=>(Qda p0 true false false false false x10 hy)) (fun x10 hy h=>?_);refine JP1.a h ?_;exact Le.tz 1 0 rfl rfl rfl
       ·refine JP1.a h ?_;exact Le.tz 1 0 rfl rfl rfl
      ·have h:=hk;refine Qas (t:=Qf6) h ?_;exact .refl _
     ·refine Qac h (fun hb h=>?_) (fun hb h=>?_)
      ·refine Qaj h (fun o11 ho hk=>?_);refine Exists.intro (JP1 _ _ o11 .normal (Q71 p0)) (And.intro ?_ (Qa4 ?_))
       ·have h:=ho;refine Qan [sV p0.Name] Qhi h (fun x12 hy=>(Qnj p0.Name x12 hy)) (fun x12 hy h=>?_);refine Qac h (fun hb h=>?_) (fun hb h=>?_)
        ·refine view (Qaw _ _) rfl ?_;refine Qac h (fun hb h=>?_) (fun hb h=>?_)
         ·refine Qan [.sl false (p0.L.map Qaa)] Qid h (fun x13 hy=>(iQnk p0.L x13 hy)) (fun x13 hy h=>?_);refine Qac h (fun hb h=>?_) (fun hb h=>?_)
          ·refine Qan [.agg [iV p0.Kind,sV p0.Name,sV p0.Text,iV p0.N,.sl false (p0.L.map Qaa),.sl false (p0.Then.map Qaa),.sl false (p0.Else.map Qaa)],bV true,bV false,bV false,bV true,bV false] Qc5 h (fun x14 hy=>(Qda p0 true false false true false x14 hy)) (fun x14 hy h=>?_);refine JP1.a h ?_;exact Le.tz 1 0 rfl rfl rfl
          ·refine JP1.a h ?_;exact Le.tz 1 0 rfl rfl rfl
         ·refine bF ?_;refine JP1.a h ?_;exact Le.tz 1 0 rfl rfl rfl
        ·refine bF ?_;refine bF ?_;refine JP1.a h ?_;exact Le.tz 1 0 rfl rfl rfl
       ·have h:=hk;refine Qas (t:=Qf6) h ?_;exact .refl _
      ·refine Qac h (fun hb h=>?_) (fun hb h=>?_)
       ·refine Qaj h (fun o15 ho hk=>?_);refine Exists.intro (JP1 _ _ o15 .normal (Q72 p0)) (And.intro ?_ (Qa4 ?_))
        ·have h:=ho;refine Qan [sV p0.Name] Qhj h (fun x16 hy=>(Qkm p0.Name x16 hy)) (fun x16 hy h=>?_);refine Qac h (fun hb h=>?_) (fun hb h=>?_)
         ·refine view (Qaw _ _) rfl ?_;refine Qac h (fun hb h=>?_) (fun hb h=>?_)
          ·refine Qan [.sl false (p0.L.map Qaa)] Qid h (fun x17 hy=>(iQnk p0.L x17 hy)) (fun x17 hy h=>?_);refine Qac h (fun hb h=>?_) (fun hb h=>?_)
           ·refine Qan [.agg [iV p0.Kind,sV p0.Name,sV p0.Text,iV p0.N,.sl false (p0.L.map Qaa),.sl false (p0.Then.map Qaa),.sl false (p0.Else.map Qaa)],bV true,bV false,bV false,bV true,bV false] Qc5 h (fun x18 hy=>(Qda p0 true false false true false x18 hy)) (fun x18 hy h=>?_);refine JP1.a h ?_;exact Le.tz 1 0 rfl rfl rfl
           ·refine JP1.a h ?_;exact Le.tz 1 0 rfl rfl rfl
          ·refine bF ?_;refine JP1.a h ?_;exact Le.tz 1 0 rfl rfl rfl
         ·refine bF ?_;refine bF ?_;refine JP1.a h ?_;exact Le.tz 1 0 rfl rfl rfl
        ·have h:=hk;refine Qas (t:=Qf6) h ?_;exact .refl _
       ·refine Qac h (fun hb h=>?_) (fun hb h=>?_)
        ·refine Qaj h (fun o19 ho hk=>?_);refine Exists.intro (JP1 _ _ o19 .normal (Q73 p0)) (And.intro ?_ (Qa4 ?_))
         ·have h:=ho;refine Qan [sV p0.Name] Qhi h (fun x20 hy=>(Qnj p0.Name x20 hy)) (fun x20 hy h=>?_);refine Qac h (fun hb h=>?_) (fun hb h=>?_)
          ·refine Qan [.agg [iV p0.Kind,sV p0.Name,sV p0.Text,iV p0.N,.sl false (p0.L.map Qaa),.sl false (p0.Then.map Qaa),.sl false (p0.Else.map Qaa)],bV true,bV false,bV false,bV false,bV false] Qc5 h (fun x21 hy=>(Qda p0 true false false false false x21 hy)) (fun x21 hy h=>?_);refine JP1.a h ?_;exact Le.tz 1 0 rfl rfl rfl
          ·refine JP1.a h ?_;exact Le.tz 1 0 rfl rfl rfl
         ·have h:=hk;refine Qas (t:=Qf6) h ?_;exact .refl _
        ·refine Qas (t:=Qf6) h ?_;exact .refl _
 ·intro Qiw' iQiw p0 o h;refine PCall.ofB mixed tbOk Qy7 Tryz.func130 rfl (by kernel_rfl) (Nat.le_of_ble_eq_true rfl) ?_;refine Qaj h (fun o1 ho hk=>?_);refine Exists.intro (JP2 _ _ o1 (.exit 0) (Qsm p0) .ret (Qsn p0)) (And.intro (Qhe (τ := Qm5 p0 0) ?_ (TL.loop (iQiw p0 0 o1 ho))) (Qfg (fun y2 hy=>?_) (fun y3 hy=>?_)))
  ·exact Le.tz 0 0 rfl rfl rfl
  ·have h:=(by rw[hy] at hk; exact hk);refine Qas (t:=Qid) h ?_;exact .refl _
  ·have h:=(by rw[hy] at hk; exact hk);refine Qas (t:=Qid) h ?_;exact .refl _
 ·intro Que' Qiw' iQue iQiw p0 v3 o1 h;refine TL.round (Qar mixed tbOk (lv:=Qy7) _ _ _ ?_);refine view (Qaw _ _) rfl ?_;refine Qac h (fun hb h=>?_) (fun hb h=>?_)
  ·refine Qa8 (l:=p0) (c:=Qaa) (c' := Qa2) h Qao (fun _=>rfl) (by decide) (fun x4 hi h=>?_);refine Qan [.agg [iV x4.Kind,sV x4.Name,sV x4.Text,iV x4.N,.sl false (x4.L.map Qaa),.sl false (x4.Then.map Qaa),.sl false (x4.Else.map Qaa)]] Qf6 h (fun x5 hy=>(iQue x4 x5 hy)) (fun x5 hy h=>?_);refine Qac h (fun hb h=>?_) (fun hb h=>?_)
   ·exact JP2.b h (Le.tz 0 0 rfl rfl rfl)
   ·refine TL.le (τ := Qm5 p0 (wr (v3+1))) ?_ ((iQiw p0 (wr (v3+1)) _ h));exact Le.tz 0 0 rfl rfl rfl
  ·exact JP2.a h (Le.tz 0 0 rfl rfl rfl)
theorem Qab4:∀ (p0:(List Qab)) (o:Bool),Qnk p0=some o→PCall Tryz.prog 130 [.sl false (p0.map Qaa)] (Qid o):=fun p0=>Qab3.2.1 p0
def Qfl (p0:(List UInt8)) (p1:(List UInt8)) (v5:Int):Option (Unit⊕Unit) :=
 if(decide (v5<(p0.length:Int))) then
  Qe3 p0 p1 v5>>=fun x4 =>
  if x4 then
   some (.inr ())
  else
   Qfl p0 p1 (wr (v5+1))
 else
  some (.inl ())
 partial_fixpoint
theorem Qaht:∀ (p0:(List UInt8)) (p1:(List UInt8)),(∀ (v5:Int) (o1:Unit⊕Unit),Qfl p0 p1 v5=some o1→TL (0,0) Tryz.prog 16 Q1z (JP2 (0,0) 16 o1 (.exit 0) (Qq8 p0 p1) .ret (Qq9 p0 p1)) (Qlv p0 p1 v5)):=by
 intro p0 p1;refine Qfl.partial_correctness p0 p1 _ ?_;intro Qfl' iQfl v5 o1 h;refine TL.round (Qar mixed tbOk (lv:=Qw4) _ _ _ ?_);refine vrfl ?_;refine Qac h (fun hb h=>?_) (fun hb h=>?_)
 ·refine Qan [sV p0,sV p1,iV v5] Qit h (fun x4 hy=>(Qmf p0 p1 v5 x4 hy)) (fun x4 hy h=>?_);refine Qac h (fun hb h=>?_) (fun hb h=>?_)
  ·exact JP2.b h (Le.tz 0 0 rfl rfl rfl)
  ·refine TL.le (τ := Qlv p0 p1 (wr (v5+1))) ?_ ((iQfl (wr (v5+1)) _ h));exact Le.tz 0 0 rfl rfl rfl
 ·exact JP2.a h (Le.tz 0 0 rfl rfl rfl)
def Qps (p0:(List UInt8)) (p1:(List UInt8)):Option (Bool) :=
 (Qfl p0 p1 0)>>=fun o1 =>
 match o1 with
 | .inl y2 =>
  some false
 | .inr y3 =>
  some true
theorem Q8v:∀ (p0:(List UInt8)) (p1:(List UInt8)) (o:Bool),Qps p0 p1=some o→PCall Tryz.prog 131 [sV p0,sV p1] (Qn1 o):=by
 intro p0 p1 o h;unfold Qps at h;refine PCall.ofB mixed tbOk Qw4 Tryz.func131 rfl (by kernel_rfl) (Nat.le_of_ble_eq_true rfl) ?_;refine Qaj h (fun o1 ho hk=>?_);refine Exists.intro (JP2 _ _ o1 (.exit 0) (Qq8 p0 p1) .ret (Qq9 p0 p1)) (And.intro (Qhe (τ := Qlv p0 p1 0) ?_ (TL.loop (Qaht p0 p1 0 o1 ho))) (Qfg (fun y2 hy=>?_) (fun y3 hy=>?_)))
 ·exact Le.tz 0 0 rfl rfl rfl
 ·have h:=(by rw[hy] at hk; exact hk);refine Qas (t:=Qn1) h ?_;exact .refl _
 ·have h:=(by rw[hy] at hk; exact hk);refine Qas (t:=Qn1) h ?_;exact .refl _
mutual
def Qjd (p0:(List Qab)) (p1:Bool):Option (Bool) :=
 (Qgq p0 p1 0)>>=fun o1 =>
 match o1 with
 | .inl y2 =>
  some true
 | .inr y3 =>
  some false
 partial_fixpoint
def Qgq (p0:(List Qab)) (p1:Bool) (v5:Int):Option (Unit⊕Unit) :=
 if(decide (v5<(p0.length:Int))) then
  idx p0 v5>>=fun x4 =>
  Qw9 x4>>=fun x5 =>
  if(!x5) then
   some (.inr ())
  else
   idx p0 v5>>=fun x6 =>
   if(x6.Kind != 8) then
    Qgq p0 p1 (wr (v5+1))
   else
    idx p0 v5>>=fun x7 =>
    ( if(!(v5==(wr ((p0.length:Int)-1)))) then
      idx p0 (wr (v5+1))>>=fun x9 =>
      if(x9.Kind==8) then
       some true
      else
       if(!(v5==(wr ((p0.length:Int)-1)))) then
        idx x7.Text (wr ((x7.Text.length:Int)-1))>>=fun x10 =>
        some ((x10.toNat:Int)==123)
       else
        if p1 then
         idx x7.Text (wr ((x7.Text.length:Int)-1))>>=fun x11 =>
         some ((x11.toNat:Int)==123)
        else
         some false
     else
      if(!(v5==(wr ((p0.length:Int)-1)))) then
       idx x7.Text (wr ((x7.Text.length:Int)-1))>>=fun x12 =>
       some ((x12.toNat:Int)==123)
      else
       if p1 then
        idx x7.Text (wr ((x7.Text.length:Int)-1))>>=fun x13 =>
        some ((x13.toNat:Int)==123)
       else
        some false:Option (Bool))>>=fun o8 =>
    if o8 then
     some (.inr ())
    else
     Qgq p0 p1 (wr (v5+1))
 else
  some (.inl ())
 partial_fixpoint
def Qw9 (p0:Qab):Option (Bool) :=
 ( if((p0.L.length:Int)==1) then
   Qnk p0.L>>=fun x2 =>
   some x2
  else
   some false:Option (Bool))>>=fun o1 =>
 if(p0.Kind==8) then
  ( if(!(p0.Text==[])) then
    Qps p0.Text [123,123]>>=fun x4 =>
    if(!x4) then
     Qej p0 false true false false false>>=fun x5 =>
     some x5
    else
     some false
   else
    some false:Option (Bool))>>=fun o3 =>
  some o3
 else
  if(p0.Kind==9) then
   ( if o1 then
     Qej p0 false false false true false>>=fun x7 =>
     some x7
    else
     some false:Option (Bool))>>=fun o6 =>
   some o6
  else
   if(p0.Kind==10) then
    ( if o1 then
      Qjd p0.Then true>>=fun x9 =>
      if x9 then
       Qjd p0.Else true>>=fun x10 =>
       if x10 then
        Qej p0 false false false true true>>=fun x11 =>
        some x11
       else
        some false
      else
       some false
     else
      some false:Option (Bool))>>=fun o8 =>
    some o8
   else
    ( if(p0.Kind==11) then
      some (p0.Kind==11)
     else
      some (p0.Kind==12):Option (Bool))>>=fun o12 =>
    if o12 then
     ( Qhl p0.Name>>=fun x14 =>
      if x14 then
       if o1 then
        Qjd p0.Then true>>=fun x15 =>
        if x15 then
         Qej p0 true false false true true>>=fun x16 =>
         some x16
        else
         some false
       else
        some false
      else
       some false:Option (Bool))>>=fun o13 =>
     some o13
    else
     if(p0.Kind==13) then
      ( Qhl p0.Name>>=fun x18 =>
       if x18 then
        if o1 then
         Qej p0 true false false true false>>=fun x19 =>
         some x19
        else
         some false
       else
        some false:Option (Bool))>>=fun o17 =>
      some o17
     else
      some false
 partial_fixpoint
end
theorem Q8w:(∀ (p0:(List Qab)) (p1:Bool) (o:Bool),Qjd p0 p1=some o→PCall Tryz.prog 78 [.sl false (p0.map Qaa),bV p1] (Qgl o))∧(∀ (p0:(List Qab)) (p1:Bool) (v5:Int) (o1:Unit⊕Unit),Qgq p0 p1 v5=some o1→TL (0,0) Tryz.prog 62 Q3u (JP2 (0,0) 62 o1 (.exit 0) (Qsk p0 p1) .ret (Qsl p0 p1)) (Qi5 p0 p1 v5))∧(∀ (p0:Qab) (o:Bool),Qw9 p0=some o→PCall Tryz.prog 103 [.agg [iV p0.Kind,sV p0.Name,sV p0.Text,iV p0.N,.sl false (p0.L.map Qaa),.sl false (p0.Then.map Qaa),.sl false (p0.Else.map Qaa)]] (Qiv o)):=by
 refine Qjd.mutual_partial_correctness _ _ _ ?_ ?_ ?_
 ·intro Qgq' iQgq p0 p1 o h;refine PCall.ofB mixed tbOk Qy6 Tryz.func78 rfl (by kernel_rfl) (Nat.le_of_ble_eq_true rfl) ?_;refine Qaj h (fun o1 ho hk=>?_);refine Exists.intro (JP2 _ _ o1 (.exit 0) (Qsk p0 p1) .ret (Qsl p0 p1)) (And.intro (Qhe (τ := Qi5 p0 p1 0) ?_ (TL.loop (iQgq p0 p1 0 o1 ho))) (Qfg (fun y2 hy=>?_) (fun y3 hy=>?_)))
  ·exact Le.tz 0 0 rfl rfl rfl
  ·have h:=(by rw[hy] at hk; exact hk);refine Qas (t:=Qgl) h ?_;exact .refl _
  ·have h:=(by rw[hy] at hk; exact hk);refine Qas (t:=Qgl) h ?_;exact .refl _
 ·intro Qgq' Qw9' iQgq iQw9 p0 p1 v5 o1 h;refine TL.round (Qar mixed tbOk (lv:=Qy6) _ _ _ ?_);refine view (Qaw _ _) rfl ?_;refine Qac h (fun hb h=>?_) (fun hb h=>?_)
  ·refine Qa8 (l:=p0) (c:=Qaa) (c' := Qa2) h Qao (fun _=>rfl) (by decide) (fun x4 hi h=>?_);refine Qan [.agg [iV x4.Kind,sV x4.Name,sV x4.Text,iV x4.N,.sl false (x4.L.map Qaa),.sl false (x4.Then.map Qaa),.sl false (x4.Else.map Qaa)]] Qiv h (fun x5 hy=>(iQw9 x4 x5 hy)) (fun x5 hy h=>?_);refine Qac h (fun hb h=>?_) (fun hb h=>?_)
   ·exact JP2.b h (Le.tz 0 0 rfl rfl rfl)
   ·refine Qa8 (l:=p0) (c:=Qaa) (c' := Qa2) h Qao (fun _=>rfl) (by decide) (fun x6 hi h=>?_);refine Qac h (fun hb h=>?_) (fun hb h=>?_)
    ·refine TL.le (τ := Qi5 p0 p1 (wr (v5+1))) ?_ ((iQgq p0 p1 (wr (v5+1)) _ h));exact Le.tz 0 0 rfl rfl rfl
    ·refine Qa8 (l:=p0) (c:=Qaa) (c' := Qa2) h Qao (fun _=>rfl) (by decide) (fun x7 hi h=>?_);refine view (Qaw _ _) rfl ?_;refine Qaj h (fun o8 ho hk=>?_);refine Exists.intro (JP1 _ _ o8 .normal (Q3t p0 p1 v5)) (And.intro ?_ (Qa4 ?_))
     ·have h:=ho;refine Qac h (fun hb h=>?_) (fun hb h=>?_)
      ·refine Qa8 (l:=p0) (c:=Qaa) (c' := Qa2) h Qao (fun _=>rfl) (by decide) (fun x9 hi h=>?_);refine Qac h (fun hb h=>?_) (fun hb h=>?_)
       ·refine JP1.a h ?_;exact Le.tz 0 0 rfl rfl rfl
       ·refine Qac h (fun hb h=>?_) (fun hb h=>?_)
        ·refine bT ?_;refine vrfl ?_;refine Qde h (fun x10 hi h=>?_);refine JP1.a h ?_;exact Le.tz 0 0 rfl rfl rfl
        ·refine Qac h (fun hb h=>?_) (fun hb h=>?_)
         ·refine vrfl ?_;refine Qde h (fun x11 hi h=>?_);refine JP1.a h ?_;exact Le.tz 0 0 rfl rfl rfl
         ·refine JP1.a h ?_;exact Le.tz 0 0 rfl rfl rfl
      ·refine bF ?_;refine Qac h (fun hb h=>?_) (fun hb h=>?_)
       ·refine bT ?_;refine vrfl ?_;refine Qde h (fun x12 hi h=>?_);refine JP1.a h ?_;exact Le.tz 0 0 rfl rfl rfl
       ·refine Qac h (fun hb h=>?_) (fun hb h=>?_)
        ·refine vrfl ?_;refine Qde h (fun x13 hi h=>?_);refine JP1.a h ?_;exact Le.tz 0 0 rfl rfl rfl
        ·refine JP1.a h ?_;exact Le.tz 0 0 rfl rfl rfl
     ·have h:=hk;refine Qac h (fun hb h=>?_) (fun hb h=>?_)
      ·exact JP2.b h (Le.tz 0 0 rfl rfl rfl)
      ·refine TL.le (τ := Qi5 p0 p1 (wr (v5+1))) ?_ ((iQgq p0 p1 (wr (v5+1)) _ h));exact Le.tz 0 0 rfl rfl rfl
  ·exact JP2.a h (Le.tz 0 0 rfl rfl rfl)
 ·intro Qjd' iQjd p0 o h;refine PCall.ofB mixed tbOk Qaep Tryz.func103 rfl (by kernel_rfl) (Nat.le_of_ble_eq_true rfl) ?_;refine Qaj h (fun o1 ho hk=>?_);refine Exists.intro (JP1 _ _ o1 .normal (Q74 p0)) (And.intro ?_ (Qa4 ?_))
  ·have h:=ho;refine view (Qaw _ _) rfl ?_;refine Qac h (fun hb h=>?_) (fun hb h=>?_)
   ·refine Qan [.sl false (p0.L.map Qaa)] Qid h (fun x2 hy=>(Qab4 p0.L x2 hy)) (fun x2 hy h=>?_);refine JP1.a h ?_;exact Le.tz 1 0 rfl rfl rfl
   ·refine JP1.a h ?_;exact Le.tz 1 0 rfl rfl rfl
  ·have h:=hk;refine Qac h (fun hb h=>?_) (fun hb h=>?_)
   ·refine Qaj h (fun o3 ho hk=>?_);refine Exists.intro (JP1 _ _ o3 .normal (Q75 p0)) (And.intro ?_ (Qa4 ?_))
    ·have h:=ho;refine Qac h (fun hb h=>?_) (fun hb h=>?_)
     ·refine Qan [sV p0.Text,sV [123,123]] Qn1 h (fun x4 hy=>(Q8v p0.Text [123,123] x4 hy)) (fun x4 hy h=>?_);refine Qac h (fun hb h=>?_) (fun hb h=>?_)
      ·refine Qan [.agg [iV p0.Kind,sV p0.Name,sV p0.Text,iV p0.N,.sl false (p0.L.map Qaa),.sl false (p0.Then.map Qaa),.sl false (p0.Else.map Qaa)],bV false,bV true,bV false,bV false,bV false] Qc5 h (fun x5 hy=>(Qda p0 false true false false false x5 hy)) (fun x5 hy h=>?_);refine JP1.a h ?_;exact Le.tz 1 0 rfl rfl rfl
      ·refine JP1.a h ?_;exact Le.tz 1 0 rfl rfl rfl
     ·refine bF ?_;refine JP1.a h ?_;exact Le.tz 1 0 rfl rfl rfl
    ·have h:=hk;refine Qas (t:=Qiv) h ?_;exact .refl _
   ·refine Qac h (fun hb h=>?_) (fun hb h=>?_)
    ·refine Qaj h (fun o6 ho hk=>?_);refine Exists.intro (JP1 _ _ o6 .normal (Q76 p0)) (And.intro ?_ (Qa4 ?_))
     ·have h:=ho;refine Qac h (fun hb h=>?_) (fun hb h=>?_)
      ·refine Qan [.agg [iV p0.Kind,sV p0.Name,sV p0.Text,iV p0.N,.sl false (p0.L.map Qaa),.sl false (p0.Then.map Qaa),.sl false (p0.Else.map Qaa)],bV false,bV false,bV false,bV true,bV false] Qc5 h (fun x7 hy=>(Qda p0 false false false true false x7 hy)) (fun x7 hy h=>?_);refine JP1.a h ?_;exact Le.tz 1 0 rfl rfl rfl
      ·refine JP1.a h ?_;exact Le.tz 1 0 rfl rfl rfl
     ·have h:=hk;refine Qas (t:=Qiv) h ?_;exact .refl _
    ·refine Qac h (fun hb h=>?_) (fun hb h=>?_)
     ·refine Qaj h (fun o8 ho hk=>?_);refine Exists.intro (JP1 _ _ o8 .normal (Q77 p0)) (And.intro ?_ (Qa4 ?_))
      ·have h:=ho;refine Qac h (fun hb h=>?_) (fun hb h=>?_)
       ·refine Qan [.sl false (p0.Then.map Qaa),bV true] Qgl h (fun x9 hy=>(iQjd p0.Then true x9 hy)) (fun x9 hy h=>?_);refine Qac h (fun hb h=>?_) (fun hb h=>?_)
        ·refine Qan [.sl false (p0.Else.map Qaa),bV true] Qgl h (fun x10 hy=>(iQjd p0.Else true x10 hy)) (fun x10 hy h=>?_);refine Qac h (fun hb h=>?_) (fun hb h=>?_)
         ·refine Qan [.agg [iV p0.Kind,sV p0.Name,sV p0.Text,iV p0.N,.sl false (p0.L.map Qaa),.sl false (p0.Then.map Qaa),.sl false (p0.Else.map Qaa)],bV false,bV false,bV false,bV true,bV true] Qc5 h (fun x11 hy=>(Qda p0 false false false true true x11 hy)) (fun x11 hy h=>?_);refine JP1.a h ?_;exact Le.tz 1 0 rfl rfl rfl
         ·refine JP1.a h ?_;exact Le.tz 1 0 rfl rfl rfl
        ·refine bF ?_;refine JP1.a h ?_;exact Le.tz 1 0 rfl rfl rfl
       ·refine bF ?_;refine bF ?_;refine JP1.a h ?_;exact Le.tz 1 0 rfl rfl rfl
      ·have h:=hk;refine Qas (t:=Qiv) h ?_;exact .refl _
     ·refine Qaj h (fun o12 ho hk=>?_);refine Exists.intro (JP1 _ _ o12 .normal (Q78 p0 o1)) (And.intro ?_ (Qa4 ?_))
      ·have h:=ho;refine Qac h (fun hb h=>?_) (fun hb h=>?_)
       ·refine JP1.a h ?_;exact Le.tz 1 0 rfl rfl rfl
       ·refine JP1.a h ?_;exact Le.tz 1 0 rfl rfl rfl
      ·have h:=hk;refine Qac h (fun hb h=>?_) (fun hb h=>?_)
       ·refine Qaj h (fun o13 ho hk=>?_);refine Exists.intro (JP1 _ _ o13 .normal (Q79 p0)) (And.intro ?_ (Qa4 ?_))
        ·have h:=ho;refine Qan [sV p0.Name] Qhj h (fun x14 hy=>(Qkm p0.Name x14 hy)) (fun x14 hy h=>?_);refine Qac h (fun hb h=>?_) (fun hb h=>?_)
         ·refine Qac h (fun hb h=>?_) (fun hb h=>?_)
          ·refine Qan [.sl false (p0.Then.map Qaa),bV true] Qgl h (fun x15 hy=>(iQjd p0.Then true x15 hy)) (fun x15 hy h=>?_);refine Qac h (fun hb h=>?_) (fun hb h=>?_)
           ·refine Qan [.agg [iV p0.Kind,sV p0.Name,sV p0.Text,iV p0.N,.sl false (p0.L.map Qaa),.sl false (p0.Then.map Qaa),.sl false (p0.Else.map Qaa)],bV true,bV false,bV false,bV true,bV true] Qc5 h (fun x16 hy=>(Qda p0 true false false true true x16 hy)) (fun x16 hy h=>?_);refine JP1.a h ?_;exact Le.tz 1 0 rfl rfl rfl
           ·refine JP1.a h ?_;exact Le.tz 1 0 rfl rfl rfl
          ·refine bF ?_;refine JP1.a h ?_;exact Le.tz 1 0 rfl rfl rfl
         ·refine bF ?_;refine bF ?_;refine JP1.a h ?_;exact Le.tz 1 0 rfl rfl rfl
        ·have h:=hk;refine Qas (t:=Qiv) h ?_;exact .refl _
       ·refine Qac h (fun hb h=>?_) (fun hb h=>?_)
        ·refine Qaj h (fun o17 ho hk=>?_);refine Exists.intro (JP1 _ _ o17 .normal (Q8a p0)) (And.intro ?_ (Qa4 ?_))
         ·have h:=ho;refine Qan [sV p0.Name] Qhj h (fun x18 hy=>(Qkm p0.Name x18 hy)) (fun x18 hy h=>?_);refine Qac h (fun hb h=>?_) (fun hb h=>?_)
          ·refine Qac h (fun hb h=>?_) (fun hb h=>?_)
           ·refine Qan [.agg [iV p0.Kind,sV p0.Name,sV p0.Text,iV p0.N,.sl false (p0.L.map Qaa),.sl false (p0.Then.map Qaa),.sl false (p0.Else.map Qaa)],bV true,bV false,bV false,bV true,bV false] Qc5 h (fun x19 hy=>(Qda p0 true false false true false x19 hy)) (fun x19 hy h=>?_);refine JP1.a h ?_;exact Le.tz 1 0 rfl rfl rfl
           ·refine JP1.a h ?_;exact Le.tz 1 0 rfl rfl rfl
          ·refine bF ?_;refine JP1.a h ?_;exact Le.tz 1 0 rfl rfl rfl
         ·have h:=hk;refine Qas (t:=Qiv) h ?_;exact .refl _
        ·refine Qas (t:=Qiv) h ?_;exact .refl _
theorem Qab5:∀ (p0:(List Qab)) (p1:Bool) (o:Bool),Qjd p0 p1=some o→PCall Tryz.prog 78 [.sl false (p0.map Qaa),bV p1] (Qgl o):=fun p0 p1=>Q8w.1 p0 p1
def Qab6 (p0:(List Qab)):Option (Bool) :=
 ( Qjd p0 false>>=fun x2 =>
  if x2 then
   Qfj p0>>=fun x3 =>
   if(decide (x3≤12)) then
    Qd3 p0>>=fun x4 =>
    some (decide (x4≤1024))
   else
    some false
  else
   some false:Option (Bool))>>=fun o1 =>
 some o1
theorem Qakg:∀ (p0:(List Qab)) (o:Bool),Qab6 p0=some o→PCall Tryz.prog 44 [.sl false (p0.map Qaa)] (Q7v o):=by
 intro p0 o h;unfold Qab6 at h;refine PCall.ofB mixed tbOk Qaj9 Tryz.func44 rfl (by kernel_rfl) (Nat.le_of_ble_eq_true rfl) ?_;refine Qaj h (fun o1 ho hk=>?_);refine Exists.intro (JP1 _ _ o1 .normal (Qaem )) (And.intro ?_ (Qa4 ?_))
 ·have h:=ho;refine Qan [.sl false (p0.map Qaa),bV false] Qgl h (fun x2 hy=>(Qab5 p0 false x2 hy)) (fun x2 hy h=>?_);refine Qac h (fun hb h=>?_) (fun hb h=>?_)
  ·refine Qan [.sl false (p0.map Qaa)] Qiu h (fun x3 hy=>(Q2i p0 x3 hy)) (fun x3 hy h=>?_);refine Qac h (fun hb h=>?_) (fun hb h=>?_)
   ·refine Qan [.sl false (p0.map Qaa)] Qgk h (fun x4 hy=>(Qze p0 x4 hy)) (fun x4 hy h=>?_);refine JP1.a h ?_;exact Le.tz 0 0 rfl rfl rfl
   ·refine JP1.a h ?_;exact Le.tz 0 0 rfl rfl rfl
  ·refine bF ?_;refine JP1.a h ?_;exact Le.tz 0 0 rfl rfl rfl
 ·have h:=hk;refine Qas (t:=Q7v) h ?_;exact .refl _
def Qig (p0:(List Qae)) (p1:(List UInt8)) (v6:Int):Option (Unit⊕(List Qab)) :=
 if(decide (v6<(p0.length:Int))) then
  idx p0 v6>>=fun x4 =>
  if(x4.Name==p1) then
   idx p0 v6>>=fun x5 =>
   some (.inr x5.L)
  else
   Qig p0 p1 (wr (v6+1))
 else
  some (.inl ())
 partial_fixpoint
theorem Qakh:∀ (p0:(List Qae)) (p1:(List UInt8)),(∀ (v6:Int) (o1:Unit⊕(List Qab)),Qig p0 p1 v6=some o1→TL (0,0) Tryz.prog 25 Q8b (JP2 (0,0) 25 o1 (.exit 0) (Qvf p0 p1) .ret (Qvg p0 p1)) (Qor p0 p1 v6)):=by
 intro p0 p1;refine Qig.partial_correctness p0 p1 _ ?_;intro Qig' iQig v6 o1 h;refine TL.round (Qar mixed tbOk (lv:=Q10) _ _ _ ?_);refine view (Qaw _ _) rfl ?_;refine Qac h (fun hb h=>?_) (fun hb h=>?_)
 ·refine Qa8 (l:=p0) (c:=Qaf) (c' := Qaf) h (fun _=>rfl) (fun _=>rfl) (by decide) (fun x4 hi h=>?_);refine Qac h (fun hb h=>?_) (fun hb h=>?_)
  ·refine Qa8 (l:=p0) (c:=Qaf) (c' := Qaf) h (fun _=>rfl) (fun _=>rfl) (by decide) (fun x5 hi h=>?_);exact JP2.b h (Le.tz 0 0 rfl rfl rfl)
  ·refine TL.le (τ := Qor p0 p1 (wr (v6+1))) ?_ ((iQig (wr (v6+1)) _ h));exact Le.tz 0 0 rfl rfl rfl
 ·exact JP2.a h (Le.tz 0 0 rfl rfl rfl)
def Qhm (p0:(List Qae)) (p1:(List UInt8)):Option ((List Qab)×Bool) :=
 (Qig p0 p1 0)>>=fun o1 =>
 match o1 with
 | .inl y2 =>
  some ([],false)
 | .inr y3 =>
  some (y3,true)
theorem Qgr:∀ (p0:(List Qae)) (p1:(List UInt8)) (o:(List Qab)×Bool),Qhm p0 p1=some o→PCall Tryz.prog 31 [.sl false (p0.map Qaf),sV p1] (Qe1 o):=by
 intro p0 p1 o h;unfold Qhm at h;refine PCall.ofB mixed tbOk Q10 Tryz.func31 rfl (by kernel_rfl) (Nat.le_of_ble_eq_true rfl) ?_;refine Qaj h (fun o1 ho hk=>?_);refine Exists.intro (JP2 _ _ o1 (.exit 0) (Qvf p0 p1) .ret (Qvg p0 p1)) (And.intro (Qhe (τ := Qor p0 p1 0) ?_ (TL.loop (Qakh p0 p1 0 o1 ho))) (Qfg (fun y2 hy=>?_) (fun y3 hy=>?_)))
 ·exact Le.tz 0 0 rfl rfl rfl
 ·have h:=(by rw[hy] at hk; exact hk);refine Qas (t:=Qe1) h ?_;exact .tup (xs:=[.sl true [],bV false]) (ys:=[.sl false [],bV false]) (.cons (.not) (.cons (.refl _) (.nil)))
 ·have h:=(by rw[hy] at hk; exact hk);refine Qas (t:=Qe1) h ?_;exact .refl _
def Qgs (p0:(List Qae)) (v4:Int):Option (Unit⊕((List UInt8)×Int)) :=
 if(decide (v4<(p0.length:Int))) then
  ( idx p0 v4>>=fun x5 =>
   Qhl x5.Name>>=fun x6 =>
   if(!x6) then
    some true
   else
    idx p0 v4>>=fun x7 =>
    Qab6 x7.L>>=fun x8 =>
    some (!x8):Option (Bool))>>=fun o4 =>
  if o4 then
   idx p0 v4>>=fun x9 =>
   some (.inr (x9.Name,7))
  else
   cutL p0 0 v4>>=fun x10 =>
   idx p0 v4>>=fun x11 =>
   Qhm x10 x11.Name>>=fun x12 =>
   if x12.2 then
    idx p0 v4>>=fun x13 =>
    some (.inr (x13.Name,9))
   else
    Qgs p0 (wr (v4+1))
 else
  some (.inl ())
 partial_fixpoint
theorem Qaic:∀ (p0:(List Qae)),(∀ (v4:Int) (o1:Unit⊕((List UInt8)×Int)),Qgs p0 v4=some o1→TL (0,0) Tryz.prog 119 Q3x (JP2 (0,0) 119 o1 (.exit 0) (Qso p0) .ret (Qsp p0)) (Qm6 p0 v4)):=by
 intro p0;refine Qgs.partial_correctness p0 _ ?_;intro Qgs' iQgs v4 o1 h;refine TL.round (Qar mixed tbOk (lv:=Qlf) _ _ _ ?_);refine view (Qaw _ _) rfl ?_;refine Qac h (fun hb h=>?_) (fun hb h=>?_)
 ·refine Qaj h (fun o4 ho hk=>?_);refine Exists.intro (JP1 _ _ o4 .normal (Q3w p0 v4)) (And.intro ?_ (Qa4 ?_))
  ·have h:=ho;refine Qa8 (l:=p0) (c:=Qaf) (c' := Qaf) h (fun _=>rfl) (fun _=>rfl) (by decide) (fun x5 hi h=>?_);refine Qan [sV x5.Name] Qhj h (fun x6 hy=>(Qkm x5.Name x6 hy)) (fun x6 hy h=>?_);refine Qac h (fun hb h=>?_) (fun hb h=>?_)
   ·refine JP1.a h ?_;exact Le.tz 0 0 rfl rfl rfl
   ·refine Qa8 (l:=p0) (c:=Qaf) (c' := Qaf) h (fun _=>rfl) (fun _=>rfl) (by decide) (fun x7 hi h=>?_);refine Qan [.sl false (x7.L.map Qaa)] Q7v h (fun x8 hy=>(Qakg x7.L x8 hy)) (fun x8 hy h=>?_);refine JP1.a h ?_;exact Le.tz 0 0 rfl rfl rfl
  ·have h:=hk;refine Qac h (fun hb h=>?_) (fun hb h=>?_)
   ·refine Qa8 (l:=p0) (c:=Qaf) (c' := Qaf) h (fun _=>rfl) (fun _=>rfl) (by decide) (fun x9 hi h=>?_);exact JP2.b h (Le.tz 0 0 rfl rfl rfl)
   ·refine And.intro (by decide +kernel) (And.intro rfl ?_);refine Qaf6 (c:=Qaf) none (some v4) h (fun _=>rfl) (fun x10 hi h=>?_);refine Qa8 (l:=p0) (c:=Qaf) (c' := Qaf) h (fun _=>rfl) (fun _=>rfl) (by decide) (fun x11 hi h=>?_);refine Qdk [.sl false (x10.map Qaf),sV x11.Name] Qe1 h (fun x12 hy=>(Qgr x10 x11.Name x12 hy)) (fun x12 hy h=>?_);refine Qac h (fun hb h=>?_) (fun hb h=>?_)
    ·refine Qa8 (l:=p0) (c:=Qaf) (c' := Qaf) h (fun _=>rfl) (fun _=>rfl) (by decide) (fun x13 hi h=>?_);exact JP2.b h (Le.tz 0 0 rfl rfl rfl)
    ·refine TL.le (τ := Qm6 p0 (wr (v4+1))) ?_ ((iQgs (wr (v4+1)) _ h));exact Le.tz 0 0 rfl rfl rfl
 ·exact JP2.a h (Le.tz 0 0 rfl rfl rfl)
def Qgt (p0:(List Qae)) (v7:Int) (x18:(List (List UInt8))) (v9:Int):Option (Unit⊕(List UInt8)) :=
 if(decide (v9<(x18.length:Int))) then
  idx x18 v9>>=fun x22 =>
  Qhm p0 x22>>=fun x23 =>
  if(!x23.2) then
   idx p0 v7>>=fun x24 =>
   some (.inr x24.Name)
  else
   Qgt p0 v7 x18 (wr (v9+1))
 else
  some (.inl ())
 partial_fixpoint
theorem Qaid:∀ (p0:(List Qae)) (v7:Int) (x18:(List (List UInt8))),(∀ (v9:Int) (o19:Unit⊕(List UInt8)),Qgt p0 v7 x18 v9=some o19→TL (0,0) Tryz.prog 119 Q3y (JP2 (0,0) 119 o19 (.exit 4) (Qsq p0 v7 x18) .ret (Qsr p0 v7 x18)) (Qm7 p0 v7 x18 v9)):=by
 intro p0 v7 x18;refine Qgt.partial_correctness p0 v7 x18 _ ?_;intro Qgt' iQgt v9 o19 h;refine TL.round (Qar mixed tbOk (lv:=Qlf) _ _ _ ?_);refine view (Qaw _ _) rfl ?_;refine Qac h (fun hb h=>?_) (fun hb h=>?_)
 ·refine Qa8 (l:=x18) (c:=cStr) (c' := cStr) h (fun _=>rfl) (fun _=>rfl) (by decide) (fun x22 hi h=>?_);refine Qan [.sl false (p0.map Qaf),sV x22] Qe1 h (fun x23 hy=>(Qgr p0 x22 x23 hy)) (fun x23 hy h=>?_);refine Qac h (fun hb h=>?_) (fun hb h=>?_)
  ·refine Qa8 (l:=p0) (c:=Qaf) (c' := Qaf) h (fun _=>rfl) (fun _=>rfl) (by decide) (fun x24 hi h=>?_);exact JP2.b h (Le.tz 0 1 rfl rfl rfl)
  ·refine TL.le (τ := Qm7 p0 v7 x18 (wr (v9+1))) ?_ ((iQgt (wr (v9+1)) _ h));exact Le.tz 0 1 rfl rfl rfl
 ·exact JP2.a h (Le.tz 0 1 rfl rfl rfl)
def Qnl (p0:(List (List UInt8))) (p1:(List UInt8)) (v5:Int):Option (Unit⊕Unit) :=
 if(decide (v5<(p0.length:Int))) then
  idx p0 v5>>=fun x4 =>
  if(x4==p1) then
   some (.inr ())
  else
   Qnl p0 p1 (wr (v5+1))
 else
  some (.inl ())
 partial_fixpoint
theorem Qamr:∀ (p0:(List (List UInt8))) (p1:(List UInt8)),(∀ (v5:Int) (o1:Unit⊕Unit),Qnl p0 p1 v5=some o1→TL (0,0) Tryz.prog 18 Qaeq (JP2 (0,0) 18 o1 (.exit 0) (Qy8 p0 p1) .ret (Qy9 p0 p1)) (Qsw p0 p1 v5)):=by
 intro p0 p1;refine Qnl.partial_correctness p0 p1 _ ?_;intro Qnl' iQnl v5 o1 h;refine TL.round (Qar mixed tbOk (lv:=Qabs) _ _ _ ?_);refine view (Qaw _ _) rfl ?_;refine Qac h (fun hb h=>?_) (fun hb h=>?_)
 ·refine Qa8 (l:=p0) (c:=cStr) (c' := cStr) h (fun _=>rfl) (fun _=>rfl) (by decide) (fun x4 hi h=>?_);refine Qac h (fun hb h=>?_) (fun hb h=>?_)
  ·exact JP2.b h (Le.tz 0 0 rfl rfl rfl)
  ·refine TL.le (τ := Qsw p0 p1 (wr (v5+1))) ?_ ((iQnl (wr (v5+1)) _ h));exact Le.tz 0 0 rfl rfl rfl
 ·exact JP2.a h (Le.tz 0 0 rfl rfl rfl)
end Go.Proofs.YtfgegilhjlnohaaGreat
end
