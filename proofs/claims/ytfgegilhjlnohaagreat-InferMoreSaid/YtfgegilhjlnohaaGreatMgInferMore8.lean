/- A part of the proof. -/
import Derived.Test.YtfgegilhjlnohaaGreatMgInferMore7

noncomputable section
set_option linter.unusedVariables false
set_option linter.unusedSimpArgs false
set_option maxRecDepth 100000
set_option maxHeartbeats 4000000
namespace Go.Proofs.YtfgegilhjlnohaaGreat
open Go.RowKit
structure Qab where
 Kind:Int
 Name:(List UInt8)
 Text:(List UInt8)
 N:Int
 L:(List Qab)
 Then:(List Qab)
 Else:(List Qab)
mutual
def Qaa:Qab→List V
 | ⟨x0,x1,x2,x3,x4,x5,x6⟩=>[iV x0,sV x1,sV x2,iV x3,.sl false (Qj3 x4),.sl false (Qj3 x5),.sl false (Qj3 x6)]
def Qj3:List Qab→List (List V)
 | []=>[]
 | x::r=>Qaa x::Qj3 r
end
theorem Qrv:∀ l:List Qab,Qj3 l=l.map Qaa
 | []=>rfl
 | x::r=>by rw[Qj3,Qrv r]; rfl
def Qa0 (x:Qab):List V:=[iV x.Kind,sV x.Name,sV x.Text,iV x.N,.sl false (x.L.map Qaa),.sl false (x.Then.map Qaa),.sl false (x.Else.map Qaa)]
theorem Qaq(x:Qab):Qaa x=Qa0 x:=by cases x; simp[Qaa,Qa0,Qrv]
structure Qae where
 Name:(List UInt8)
 L:(List Qab)
def Qaf (x:Qae):List V:=[sV x.Name,.sl false (x.L.map Qaa)]
structure Qdg where
 name_:Bool
 text_:Bool
 num_:Bool
 then_:Bool
 other_:Bool
 l_:Int
def Qik (y:Bool):D :=.p (bV y)
def Q7a:List (Nat×List Nat):=[(0,[0,1,2]),(1,[6]),(3000001,[])]
def Q1b  (o1:Bool):St:=⟨[(6,.p (bV o1))],⟨[],[]⟩⟩
def Qj4 (y:(List UInt8)):D :=.p (sV y)
def Qabg:List (Nat×List Nat):=[(0,[0]),(1,[0,5]),(2,[0]),(3,[0,7]),(4,[2]),(5,[0,13]),(6,[2]),(7,[0,25]),(8,[2]),(9,[2]),(2001005,[])]
def Q3b  (o1:Int):St:=⟨[(0,.p (iV o1))],⟨[],[]⟩⟩
def Qz5 (y:Bool):D :=.p (bV y)
def Qabh:List (Nat×List Nat):=[(0,[0]),(1,[0,3]),(2,[0,3,9]),(3,[0,3,4,5]),(4,[0,3,5,21]),(5,[2]),(6,[0,3]),(7,[2]),(1000002,[0,3]),(3000004,[])]
def Qaed (p0:(List UInt8)) (v3:Int) (x4:Int×Int) (o5:Bool):St:=⟨[(0,.p (sV p0)),(3,.p (iV v3)),(5,.p (iV x4.2)),(21,.p (bV o5))],⟨[],[]⟩⟩
def Qrw (p0:(List UInt8)) (v3:Int):St:=⟨[(0,.p (sV p0)),(3,.p (iV v3))],⟨[],[]⟩⟩
def Qye (p0:(List UInt8)) (y2:Unit):St:=⟨[],⟨[],[]⟩⟩
def Qyf (p0:(List UInt8)) (y3:Unit):St:=⟨[(2,.p (bV false))],⟨[],[]⟩⟩
def Qaee:Code:=((Qav (Tryz.f179.body.getD .skip)).getD 0 .skip)
def Qmc (y:Int×Int):D :=.tup [.p (iV y.1),.p (iV y.2)]
def Qvb:List (Nat×List Nat):=[(0,[0,1]),(1,[0,1,17]),(2,[4,5]),(3,[0,1,6]),(4,[0,1,6,7]),(5,[0,1,6,7,28]),(6,[0,1,6,7]),(7,[0,1,6,7,8]),(8,[0,1,6,7,8,9]),(9,[0,1,6,7,8,9,42]),(10,[0,1,6,7,8,9]),(11,[0,1,6,7,8,9]),(12,[0,1,6,7,8,71]),(13,[4,5]),(14,[4,5]),(1000005,[0,1,6,7]),(1000009,[0,1,6,7,8,9]),(3000001,[]),(3000005,[]),(3000012,[])]
def Q7b (p0:(List UInt8)) (p1:Int) (o1:Bool):St:=⟨[(0,.p (sV p0)),(1,.p (iV p1)),(17,.p (bV o1))],⟨[],[]⟩⟩
def Q7c (p0:(List UInt8)) (p1:Int) (v6:(List Int)) (v7:Int) (o5:Bool):St:=⟨[(0,.p (sV p0)),(1,.p (iV p1)),(6,.p (.sl true (v6.map cInt))),(7,.p (iV v7)),(28,.p (bV o5))],⟨[],[]⟩⟩
def Qn8 (p0:(List UInt8)) (p1:Int) (v6:(List Int)) (v7:Int) (v8:Int) (v9:Int):St:=⟨[(0,.p (sV p0)),(1,.p (iV p1)),(6,.p (.sl true (v6.map cInt))),(7,.p (iV v7)),(8,.p (iV v8)),(9,.p (iV v9))],⟨[],[]⟩⟩
def Qul (p0:(List UInt8)) (p1:Int) (v6:(List Int)) (v7:Int) (o8:Int):St:=⟨[(0,.p (sV p0)),(1,.p (iV p1)),(6,.p (.sl true (v6.map cInt))),(7,.p (iV v7)),(8,.p (iV o8))],⟨[],[]⟩⟩
def Q7d:Code:=((Qav (Tryz.f171.body.getD .skip)).getD 1 .skip)
def Q7e (p0:(List UInt8)) (p1:Int) (v6:(List Int)) (v7:Int) (o8:Int) (o10:Bool):St:=⟨[(0,.p (sV p0)),(1,.p (iV p1)),(6,.p (.sl true (v6.map cInt))),(7,.p (iV v7)),(8,.p (iV o8)),(71,.p (bV o10))],⟨[],[]⟩⟩
def Qn9 (p0:(List UInt8)) (p1:Int) (v6:(List Int)) (v7:Int):St:=⟨[(0,.p (sV p0)),(1,.p (iV p1)),(6,.p (.sl true (v6.map cInt))),(7,.p (iV v7))],⟨[],[]⟩⟩
def Qum (p0:(List UInt8)) (p1:Int) (y3:Unit):St:=⟨[],⟨[],[]⟩⟩
def Qun (p0:(List UInt8)) (p1:Int) (y4:Int×Int):St:=⟨[(4,.p (iV y4.1)),(5,.p (iV y4.2))],⟨[],[]⟩⟩
def Q7f:Code:=((Qav (Tryz.f171.body.getD .skip)).getD 0 .skip)
def Qtm (y:Bool):D :=.p (bV y)
def Qaef:List (Nat×List Nat):=[(0,[0]),(1,[2]),(3000001,[])]
def Q7g  (o1:Bool):St:=⟨[(2,.p (bV o1))],⟨[],[]⟩⟩
def Qmr (y:(List UInt8)×Bool):D :=.tup [.p (sV y.1),.p (bV y.2)]
def Qyg:List (Nat×List Nat):=[(0,[0]),(1,[0,9]),(2,[2,3]),(3,[0,4]),(4,[0,4,5]),(5,[0,4,5,13]),(6,[0,4,5]),(7,[0,4,5,6]),(8,[0,4,5,6,22]),(9,[2,3]),(10,[0,4,5,6,24]),(11,[0,4,5,6]),(12,[0,4,5,6,26]),(13,[0,4,5,6]),(14,[0,4,5,6,32]),(15,[0,4,5,6]),(16,[0,4,5]),(17,[2,3]),(1000005,[0,4,5]),(2010013,[]),(3000014,[])]
def Q3c (p0:(List UInt8)) (v4:(List UInt8)) (v5:Int) (o6:(List UInt8)):St:=⟨[(0,.p (sV p0)),(4,.p (sV v4)),(5,.p (iV v5)),(6,.p (sV o6))],⟨[],[]⟩⟩
def Q3d (p0:(List UInt8)) (v4:(List UInt8)) (v5:Int) (x5:(List UInt8)) (o7:Bool):St:=⟨[(0,.p (sV p0)),(4,.p (sV v4)),(5,.p (iV v5)),(6,.p (sV x5)),(32,.p (bV o7))],⟨[],[]⟩⟩
def Qms (p0:(List UInt8)) (v4:(List UInt8)) (v5:Int):St:=⟨[(0,.p (sV p0)),(4,.p (sV v4)),(5,.p (iV v5))],⟨[],[]⟩⟩
def Qrx (p0:(List UInt8)) (y3:(List UInt8)):St:=⟨[(4,.p (sV y3))],⟨[],[]⟩⟩
def Qry (p0:(List UInt8)) (y4:Unit):St:=⟨[(2,.p (sV [])),(3,.p (bV false))],⟨[],[]⟩⟩
def Q3e:Code:=((Qav (Tryz.f170.body.getD .skip)).getD 0 .skip)
def Qg2 (y:Bool):D :=.p (bV y)
def Q1c:List (Nat×List Nat):=[(0,[0]),(1,[0,17]),(2,[2]),(3,[0,3]),(4,[0,3,21]),(5,[0,3]),(6,[0,3,41]),(7,[2]),(8,[2]),(1000004,[0,3]),(3000001,[]),(3000006,[])]
def Q7h (p0:(List UInt8)) (o1:Bool):St:=⟨[(0,.p (sV p0)),(17,.p (bV o1))],⟨[],[]⟩⟩
def Q7i (p0:(List UInt8)) (v3:Int) (o7:Bool):St:=⟨[(0,.p (sV p0)),(3,.p (iV v3)),(41,.p (bV o7))],⟨[],[]⟩⟩
def Qoa (p0:(List UInt8)) (v3:Int):St:=⟨[(0,.p (sV p0)),(3,.p (iV v3))],⟨[],[]⟩⟩
def Quo (p0:(List UInt8)) (y5:Unit):St:=⟨[],⟨[],[]⟩⟩
def Qup (p0:(List UInt8)) (y6:Unit):St:=⟨[(2,.p (bV false))],⟨[],[]⟩⟩
def Q7j:Code:=((Qav (Tryz.f77.body.getD .skip)).getD 0 .skip)
def Qj5 (y:Bool):D :=.p (bV y)
def Qabi:List (Nat×List Nat):=[(0,[0]),(1,[2]),(3000001,[])]
def Q3f  (o1:Bool):St:=⟨[(2,.p (bV o1))],⟨[],[]⟩⟩
def Qj6 (y:Bool):D :=.p (bV y)
def Qabj:List (Nat×List Nat):=[(0,[0]),(1,[2]),(3000001,[])]
def Q3g  (o1:Bool):St:=⟨[(2,.p (bV o1))],⟨[],[]⟩⟩
def Qf8 (y:Int):D :=.p (iV y)
def Qyh:List (Nat×List Nat):=[(0,[0]),(1,[0,3]),(2,[0,3,4]),(3,[0,3,4,8]),(4,[0,3,4]),(5,[0,3,4]),(6,[2]),(1000003,[0,3,4])]
def Qmt (p0:(List Qab)) (v3:Int) (v4:Int):St:=⟨[(0,.p (.sl false (p0.map Qaa))),(3,.p (iV v3)),(4,.p (iV v4))],⟨[],[]⟩⟩
def Qrz (p0:(List Qab)) (o1:Int):St:=⟨[(3,.p (iV o1))],⟨[],[]⟩⟩
def Q3h:Code:=((Qav (Tryz.f80.body.getD .skip)).getD 0 .skip)
def Qil (y:Int):D :=.p (iV y)
def Q1d:List (Nat×List Nat):=[(0,[0]),(1,[0,3]),(2,[0,3,4]),(3,[0,3,4,8]),(4,[0,3,4]),(5,[0,3,4]),(6,[2]),(1000003,[0,3,4])]
def Qob (p0:(List Qab)) (v3:Int) (v4:Int):St:=⟨[(0,.p (.sl false (p0.map Qaa))),(3,.p (iV v3)),(4,.p (iV v4))],⟨[],[]⟩⟩
def Quq (p0:(List Qab)) (o1:Int):St:=⟨[(3,.p (iV o1))],⟨[],[]⟩⟩
def Q7k:Code:=((Qav (Tryz.f79.body.getD .skip)).getD 0 .skip)
def Q7l (y:Bool):D :=.p (bV y)
def Qake:List (Nat×List Nat):=[(0,[0]),(1,[2]),(3000001,[])]
def Qaeg  (o1:Bool):St:=⟨[(2,.p (bV o1))],⟨[],[]⟩⟩
def Qg3 (y:Bool):D :=.p (bV y)
def Q1e:List (Nat×List Nat):=[(0,[0]),(1,[0,3]),(2,[0,3,4]),(3,[0,3,4,9]),(4,[0,3,4]),(5,[0,3,4,17]),(6,[2]),(7,[2]),(1000003,[0,3,4])]
def Qoc (p0:(List UInt8)) (x1:(List (List UInt8))) (v4:Int):St:=⟨[(0,.p (sV p0)),(3,.p (.sl false (x1.map cStr))),(4,.p (iV v4))],⟨[],[]⟩⟩
def Qur (p0:(List UInt8)) (x1:(List (List UInt8))) (y3:Unit):St:=⟨[(0,.p (sV p0))],⟨[],[]⟩⟩
def Qus (p0:(List UInt8)) (x1:(List (List UInt8))) (y4:Unit):St:=⟨[(2,.p (bV false))],⟨[],[]⟩⟩
def Q7m:Code:=((Qav (Tryz.f43.body.getD .skip)).getD 0 .skip)
def Qvc (y:(List (List UInt8))):D :=.p (.sl false (y.map cStr))
def Qabk:List (Nat×List Nat):=[(0,[]),(1,[0])]
def Qc1 (y:Bool):D :=.p (bV y)
def Qaeh:List (Nat×List Nat):=[(0,[1,2,3,4,5,6]),(1,[12]),(3000001,[])]
def Q7n (p0:Qab) (o1:Bool):St:=⟨[(12,.p (bV o1))],⟨[[.p (iV p0.Kind),.p (sV p0.Name),.p (sV p0.Text),.p (iV p0.N),.p (.sl false (p0.L.map Qaa)),.p (.sl false (p0.Then.map Qaa)),.p (.sl false (p0.Else.map Qaa))]],[]⟩⟩
def Qf9 (y:Bool):D :=.p (bV y)
def Qyi:List (Nat×List Nat):=[(0,[0,1]),(1,[0,1,5]),(2,[0,1,5,11]),(3,[0,1,5]),(4,[0,1,5,19]),(5,[4]),(6,[0,1,5,25]),(7,[0,1,5,6]),(8,[0,1,5,6,7]),(9,[0,1,5,61]),(10,[4]),(11,[4]),(1000002,[0,1,5]),(3000009,[])]
def Q3i (p0:(List Qab)) (p1:Bool) (v5:Int) (o8:Bool):St:=⟨[(0,.p (.sl false (p0.map Qaa))),(1,.p (bV p1)),(5,.p (iV v5)),(61,.p (bV o8))],⟨[],[]⟩⟩
def Qiy (p0:(List Qab)) (p1:Bool) (v5:Int):St:=⟨[(0,.p (.sl false (p0.map Qaa))),(1,.p (bV p1)),(5,.p (iV v5))],⟨[],[]⟩⟩
def Qr0 (p0:(List Qab)) (p1:Bool) (y2:Unit):St:=⟨[],⟨[],[]⟩⟩
def Qr1 (p0:(List Qab)) (p1:Bool) (y3:Unit):St:=⟨[(4,.p (bV false))],⟨[],[]⟩⟩
def Q3j:Code:=((Qav (Tryz.f78.body.getD .skip)).getD 0 .skip)
def Qfw (y:Bool):D :=.p (bV y)
def Qaei:List (Nat×List Nat):=[(0,[1]),(1,[1,6]),(2,[1,6,7]),(3,[1,4]),(4,[2]),(5,[1,6,20]),(6,[2]),(7,[1,6,24]),(8,[2]),(9,[1,6,38]),(10,[2]),(11,[1,6,47]),(12,[2]),(13,[1,6,67]),(14,[2]),(15,[1,87]),(16,[2]),(17,[2]),(3000004,[]),(3000008,[]),(3000010,[]),(3000012,[]),(3000014,[]),(3000016,[])]
def Q7o (p0:Qab) (o2:Bool):St:=⟨[(2,.p (bV o2))],⟨[[.p (iV p0.Kind),.p (sV p0.Name),.p (sV p0.Text),.p (iV p0.N),.p (.sl false (p0.L.map Qaa)),.p (.sl false (p0.Then.map Qaa)),.p (.sl false (p0.Else.map Qaa))]],[]⟩⟩
def Q7p (p0:Qab) (o5:Bool):St:=⟨[(2,.p (bV o5))],⟨[[.p (iV p0.Kind),.p (sV p0.Name),.p (sV p0.Text),.p (iV p0.N),.p (.sl false (p0.L.map Qaa)),.p (.sl false (p0.Then.map Qaa)),.p (.sl false (p0.Else.map Qaa))]],[]⟩⟩
def Q7q (p0:Qab) (o8:Bool):St:=⟨[(2,.p (bV o8))],⟨[[.p (iV p0.Kind),.p (sV p0.Name),.p (sV p0.Text),.p (iV p0.N),.p (.sl false (p0.L.map Qaa)),.p (.sl false (p0.Then.map Qaa)),.p (.sl false (p0.Else.map Qaa))]],[]⟩⟩
def Q7r (p0:Qab) (o11:Bool):St:=⟨[(2,.p (bV o11))],⟨[[.p (iV p0.Kind),.p (sV p0.Name),.p (sV p0.Text),.p (iV p0.N),.p (.sl false (p0.L.map Qaa)),.p (.sl false (p0.Then.map Qaa)),.p (.sl false (p0.Else.map Qaa))]],[]⟩⟩
def Q7s (p0:Qab) (o15:Bool):St:=⟨[(2,.p (bV o15))],⟨[[.p (iV p0.Kind),.p (sV p0.Name),.p (sV p0.Text),.p (iV p0.N),.p (.sl false (p0.L.map Qaa)),.p (.sl false (p0.Then.map Qaa)),.p (.sl false (p0.Else.map Qaa))]],[]⟩⟩
def Q7t (p0:Qab) (o19:Bool):St:=⟨[(2,.p (bV o19))],⟨[[.p (iV p0.Kind),.p (sV p0.Name),.p (sV p0.Text),.p (iV p0.N),.p (.sl false (p0.L.map Qaa)),.p (.sl false (p0.Then.map Qaa)),.p (.sl false (p0.Else.map Qaa))]],[]⟩⟩
def Qh1 (y:Bool):D :=.p (bV y)
def Qyj:List (Nat×List Nat):=[(0,[0]),(1,[0,3]),(2,[0,3,7]),(3,[0,3]),(4,[0,3,15]),(5,[2]),(6,[2]),(1000002,[0,3])]
def Qmu (p0:(List Qab)) (v3:Int):St:=⟨[(0,.p (.sl false (p0.map Qaa))),(3,.p (iV v3))],⟨[],[]⟩⟩
def Qr2 (p0:(List Qab)) (y2:Unit):St:=⟨[],⟨[],[]⟩⟩
def Qr3 (p0:(List Qab)) (y3:Unit):St:=⟨[(2,.p (bV false))],⟨[],[]⟩⟩
def Q3k:Code:=((Qav (Tryz.f130.body.getD .skip)).getD 0 .skip)
def Qno (y:Bool):D :=.p (bV y)
def Qwe:List (Nat×List Nat):=[(0,[0,1]),(1,[0,1,5]),(2,[0,1,5,9]),(3,[0,1,5]),(4,[0,1,5,15]),(5,[4]),(6,[4]),(1000002,[0,1,5])]
def Qli (p0:(List UInt8)) (p1:(List UInt8)) (v5:Int):St:=⟨[(0,.p (sV p0)),(1,.p (sV p1)),(5,.p (iV v5))],⟨[],[]⟩⟩
def Qql (p0:(List UInt8)) (p1:(List UInt8)) (y2:Unit):St:=⟨[],⟨[],[]⟩⟩
def Qqm (p0:(List UInt8)) (p1:(List UInt8)) (y3:Unit):St:=⟨[(4,.p (bV true))],⟨[],[]⟩⟩
def Q1f:Code:=((Qav (Tryz.f131.body.getD .skip)).getD 0 .skip)
def Qim (y:Bool):D :=.p (bV y)
def Qaej:List (Nat×List Nat):=[(0,[1]),(1,[1,3]),(2,[1,3,14]),(3,[1,3,14,15]),(4,[2]),(5,[1,3,14,30]),(6,[2]),(7,[1,3,14,37]),(8,[2]),(9,[1,3,14,54]),(10,[1,3,14,54]),(11,[2]),(12,[1,3,72]),(13,[2]),(14,[2]),(2009005,[]),(3000001,[]),(3000004,[]),(3000006,[]),(3000008,[]),(3000011,[]),(3000013,[])]
def Q7u (p0:Qab) (o1:Bool):St:=⟨[(1,.ptr 0 0),(3,.p (bV o1))],⟨[[.p (iV p0.Kind),.p (sV p0.Name),.p (sV p0.Text),.p (iV p0.N),.p (.sl false (p0.L.map Qaa)),.p (.sl false (p0.Then.map Qaa)),.p (.sl false (p0.Else.map Qaa))]],[]⟩⟩
def Q7v (p0:Qab) (o3:Bool):St:=⟨[(2,.p (bV o3))],⟨[[.p (iV p0.Kind),.p (sV p0.Name),.p (sV p0.Text),.p (iV p0.N),.p (.sl false (p0.L.map Qaa)),.p (.sl false (p0.Then.map Qaa)),.p (.sl false (p0.Else.map Qaa))]],[]⟩⟩
def Q7w (p0:Qab) (o6:Bool):St:=⟨[(2,.p (bV o6))],⟨[[.p (iV p0.Kind),.p (sV p0.Name),.p (sV p0.Text),.p (iV p0.N),.p (.sl false (p0.L.map Qaa)),.p (.sl false (p0.Then.map Qaa)),.p (.sl false (p0.Else.map Qaa))]],[]⟩⟩
def Q7x (p0:Qab) (o8:Bool):St:=⟨[(2,.p (bV o8))],⟨[[.p (iV p0.Kind),.p (sV p0.Name),.p (sV p0.Text),.p (iV p0.N),.p (.sl false (p0.L.map Qaa)),.p (.sl false (p0.Then.map Qaa)),.p (.sl false (p0.Else.map Qaa))]],[]⟩⟩
def Q7y (p0:Qab) (o1:Bool) (o12:Bool):St:=⟨[(1,.ptr 0 0),(3,.p (bV o1)),(14,.p (iV p0.Kind)),(54,.p (bV o12))],⟨[[.p (iV p0.Kind),.p (sV p0.Name),.p (sV p0.Text),.p (iV p0.N),.p (.sl false (p0.L.map Qaa)),.p (.sl false (p0.Then.map Qaa)),.p (.sl false (p0.Else.map Qaa))]],[]⟩⟩
def Q7z (p0:Qab) (o13:Bool):St:=⟨[(2,.p (bV o13))],⟨[[.p (iV p0.Kind),.p (sV p0.Name),.p (sV p0.Text),.p (iV p0.N),.p (.sl false (p0.L.map Qaa)),.p (.sl false (p0.Then.map Qaa)),.p (.sl false (p0.Else.map Qaa))]],[]⟩⟩
def Q70 (p0:Qab) (o17:Bool):St:=⟨[(2,.p (bV o17))],⟨[[.p (iV p0.Kind),.p (sV p0.Name),.p (sV p0.Text),.p (iV p0.N),.p (.sl false (p0.L.map Qaa)),.p (.sl false (p0.Then.map Qaa)),.p (.sl false (p0.Else.map Qaa))]],[]⟩⟩
def Qh2 (y:(List UInt8)×Int):D :=.tup [.p (sV y.1),.p (iV y.2)]
def Qkz:List (Nat×List Nat):=[(0,[0]),(1,[0,15]),(2,[2,3]),(3,[0,4]),(4,[0,4,19]),(5,[0,4]),(6,[0,4,37]),(7,[2,3]),(8,[0,4,6]),(9,[0,4,55]),(10,[2,3]),(11,[0,7]),(12,[0,7,64]),(13,[0,7]),(14,[0,7,8]),(15,[0,7,8,9]),(16,[0,7,8,9,76]),(17,[0,7,8,9]),(18,[0,7,8,9,11]),(19,[0,7,8,9,89]),(20,[2,3]),(21,[0,12]),(22,[0,12,98]),(23,[0,12]),(24,[0,12,113]),(25,[2,3]),(26,[2,3]),(1000004,[0,4]),(1000012,[0,7]),(1000016,[0,7,8,9]),(1000022,[0,12]),(3000006,[]),(5000024,[1006])]
def Q3l (p0:(List Qae)) (v4:Int) (o4:Bool):St:=⟨[(0,.p (.sl false (p0.map Qaf))),(4,.p (iV v4)),(37,.p (bV o4))],⟨[],[]⟩⟩
def Qmv (p0:(List Qae)) (v4:Int):St:=⟨[(0,.p (.sl false (p0.map Qaf))),(4,.p (iV v4))],⟨[],[]⟩⟩
def Qr4 (p0:(List Qae)) (y2:Unit):St:=⟨[(0,.p (.sl false (p0.map Qaf)))],⟨[],[]⟩⟩
def Qr5 (p0:(List Qae)) (y3:(List UInt8)×Int):St:=⟨[(2,.p (sV y3.1)),(3,.p (iV y3.2))],⟨[],[]⟩⟩
def Q3m:Code:=((Qav (Tryz.f14.body.getD .skip)).getD 0 .skip)
def Qmw (p0:(List Qae)) (v7:Int) (x18:(List (List UInt8))) (v9:Int):St:=⟨[(0,.p (.sl false (p0.map Qaf))),(7,.p (iV v7)),(8,.own 0 9 1 (x18.map cStr)),(9,.p (iV v9))],⟨[],[(x18.map cStr).length]⟩⟩
def Qr6 (p0:(List Qae)) (v7:Int) (x18:(List (List UInt8))) (y20:Unit):St:=⟨[(0,.p (.sl false (p0.map Qaf))),(7,.p (iV v7))],⟨[],[(x18.map cStr).length]⟩⟩
def Qr7 (p0:(List Qae)) (v7:Int) (x18:(List (List UInt8))) (y21:(List UInt8)):St:=⟨[(2,.p (sV y21)),(3,.p (iV 4))],⟨[],[(x18.map cStr).length]⟩⟩
def Q3n:Code:=((Qav (Tryz.f14.body.getD .skip)).getD 2 .skip)
def Qmx (p0:(List Qae)) (v7:Int):St:=⟨[(0,.p (.sl false (p0.map Qaf))),(7,.p (iV v7))],⟨[],[]⟩⟩
def Qr8 (p0:(List Qae)) (y15:Unit):St:=⟨[(0,.p (.sl false (p0.map Qaf)))],⟨[],[]⟩⟩
def Qr9 (p0:(List Qae)) (y16:(List UInt8)):St:=⟨[(2,.p (sV y16)),(3,.p (iV 4))],⟨[],[]⟩⟩
def Q3o:Code:=((Qav (Tryz.f14.body.getD .skip)).getD 1 .skip)
def Qmy (p0:(List Qae)) (v12:Int):St:=⟨[(0,.p (.sl false (p0.map Qaf))),(12,.p (iV v12))],⟨[],[]⟩⟩
def Qsa (p0:(List Qae)) (y26:Unit):St:=⟨[],⟨[],[]⟩⟩
def Qsb (p0:(List Qae)) (y27:(List UInt8)):St:=⟨[(2,.p (sV y27)),(3,.p (iV 10))],⟨[],[]⟩⟩
def Q3p:Code:=((Qav (Tryz.f14.body.getD .skip)).getD 3 .skip)
def Qg4 (y:(List Qab)×Bool):D :=.tup [.p (.sl false (y.1.map Qaa)),.p (bV y.2)]
def Q1g:List (Nat×List Nat):=[(0,[0,1]),(1,[0,1,6]),(2,[0,1,6,10]),(3,[0,1,6]),(4,[0,1,6,19]),(5,[4,5]),(6,[4,5]),(1000002,[0,1,6])]
def Qod (p0:(List Qae)) (p1:(List UInt8)) (v6:Int):St:=⟨[(0,.p (.sl false (p0.map Qaf))),(1,.p (sV p1)),(6,.p (iV v6))],⟨[],[]⟩⟩
def Qut (p0:(List Qae)) (p1:(List UInt8)) (y2:Unit):St:=⟨[],⟨[],[]⟩⟩
def Quu (p0:(List Qae)) (p1:(List UInt8)) (y3:(List Qab)):St:=⟨[(4,.p (.sl false (y3.map Qaa))),(5,.p (bV true))],⟨[],[]⟩⟩
def Q71:Code:=((Qav (Tryz.f31.body.getD .skip)).getD 0 .skip)
def Qwf (y:Bool):D :=.p (bV y)
def Qabl:List (Nat×List Nat):=[(0,[0,1]),(1,[0,1,5]),(2,[0,1,5,9]),(3,[0,1,5]),(4,[0,1,5,17]),(5,[4]),(6,[4]),(1000002,[0,1,5])]
def Qsc (p0:(List (List UInt8))) (p1:(List UInt8)) (v5:Int):St:=⟨[(0,.p (.sl false (p0.map cStr))),(1,.p (sV p1)),(5,.p (iV v5))],⟨[],[]⟩⟩
def Qyk (p0:(List (List UInt8))) (p1:(List UInt8)) (y2:Unit):St:=⟨[],⟨[],[]⟩⟩
def Qyl (p0:(List (List UInt8))) (p1:(List UInt8)) (y3:Unit):St:=⟨[(4,.p (bV true))],⟨[],[]⟩⟩
def Qaek:Code:=((Qav (Tryz.f21.body.getD .skip)).getD 0 .skip)
def Qxv (y:(List (List UInt8))):D :=.own 0 9 1 (y.map cStr)
def Qvd:List (Nat×List Nat):=[(0,[0]),(1,[0,3]),(2,[0,3,4]),(3,[0,3,4,11]),(4,[0,3,4]),(5,[0,3,4,19]),(6,[0,3,4]),(7,[0,3,4,5]),(8,[0,3,4,5,6]),(9,[0,3,4,5,6,43]),(10,[0,3,4,5,6]),(11,[0,3,4,5,6]),(12,[2]),(1000003,[0,3,4]),(1000009,[0,3,4,5,6]),(2005005,[]),(5000007,[1005,1011]),(9000006,[6,0,0,0]),(9000011,[5,0,0,0])]
def Q72 (p0:(List Qab)) (v4:Int) (o2:(List (List UInt8))):St:=⟨[(0,.p (.sl false (p0.map Qaa))),(3,.own 0 9 1 (o2.map cStr)),(4,.p (iV v4))],⟨[],[(o2.map cStr).length]⟩⟩
def Qoe (p0:(List Qab)) (v4:Int) (x9:(List (List UInt8))) (x10:(List (List UInt8))) (v3_:(List (List UInt8))) (v6:Int):St:=⟨[(0,.p (.sl false (p0.map Qaa))),(3,.own 0 9 1 (v3_.map cStr)),(4,.p (iV v4)),(5,.own 1 9 1 (x10.map cStr)),(6,.p (iV v6))],⟨[],[(v3_.map cStr).length,(x10.map cStr).length,(x9.map cStr).length]⟩⟩
def Quv (p0:(List Qab)) (v4:Int) (x9:(List (List UInt8))) (x10:(List (List UInt8))) (o11:(List (List UInt8))):St:=⟨[(0,.p (.sl false (p0.map Qaa))),(3,.own 0 9 1 (o11.map cStr)),(4,.p (iV v4))],⟨[],[(o11.map cStr).length,(x10.map cStr).length,(x9.map cStr).length]⟩⟩
def Q73:Code:=((Qav (Tryz.f45.body.getD .skip)).getD 1 .skip)
def Qof (p0:(List Qab)) (v3:(List (List UInt8))) (v4:Int):St:=⟨[(0,.p (.sl false (p0.map Qaa))),(3,.own 0 9 1 (v3.map cStr)),(4,.p (iV v4))],⟨[],[(v3.map cStr).length]⟩⟩
def Quw (p0:(List Qab)) (o1:(List (List UInt8))):St:=⟨[(3,.own 0 9 1 (o1.map cStr))],⟨[],[(o1.map cStr).length]⟩⟩
def Q74:Code:=((Qav (Tryz.f45.body.getD .skip)).getD 0 .skip)
def Q1h (y:(List (List UInt8))):D :=.own 0 9 1 (y.map cStr)
def Qnp:List (Nat×List Nat):=[(0,[0,1]),(1,[0,5]),(2,[0,7]),(3,[0,7,8]),(4,[0,7,8,26]),(5,[0,7,8]),(6,[0,7,8,9]),(7,[0,7,8,9,10]),(8,[0,7,8,9,10,33]),(9,[0,7,8,9,10]),(10,[0,7,8,9,10,11]),(11,[0,7,8,9,10,13]),(12,[0,7,8,9,10,13,14]),(13,[0,7,8,9,10,13,14,50]),(14,[0,7,8,9,10,13,14]),(15,[0,7,8,9,10,13,14]),(16,[4]),(1000004,[0,7,8]),(1000008,[0,7,8,9,10]),(1000013,[0,7,8,9,10,13,14]),(9000015,[5,0,0,0])]
def Qmz (p0:(List Qae)) (v7:(List (List UInt8))) (v8:Int) (v10:Int) (x7:(List (List UInt8))) (v7__:(List (List UInt8))) (v14:Int):St:=⟨[(0,.p (.sl false (p0.map Qaf))),(7,.own 0 9 1 (v7__.map cStr)),(8,.p (iV v8)),(9,.p (.sl false (v7.map cStr))),(10,.p (iV v10)),(13,.own 1 9 1 (x7.map cStr)),(14,.p (iV v14))],⟨[],[(v7__.map cStr).length,(x7.map cStr).length]⟩⟩
def Qsd (p0:(List Qae)) (v7:(List (List UInt8))) (v8:Int) (v10:Int) (x7:(List (List UInt8))) (o8:(List (List UInt8))):St:=⟨[(0,.p (.sl false (p0.map Qaf))),(7,.own 0 9 1 (o8.map cStr)),(8,.p (iV v8)),(9,.p (.sl false (v7.map cStr))),(10,.p (iV v10))],⟨[],[(o8.map cStr).length,(x7.map cStr).length]⟩⟩
def Q3q:Code:=((Qav (Tryz.f46.body.getD .skip)).getD 2 .skip)
def Qm0 (p0:(List Qae)) (v7:(List (List UInt8))) (v8:Int) (v7_:(List (List UInt8))) (v10:Int):St:=⟨[(0,.p (.sl false (p0.map Qaf))),(7,.own 0 9 1 (v7_.map cStr)),(8,.p (iV v8)),(9,.p (.sl false (v7.map cStr))),(10,.p (iV v10))],⟨[],[(v7_.map cStr).length]⟩⟩
def Qse (p0:(List Qae)) (v7:(List (List UInt8))) (v8:Int) (o4:(List (List UInt8))):St:=⟨[(0,.p (.sl false (p0.map Qaf))),(7,.own 0 9 1 (o4.map cStr)),(8,.p (iV v8))],⟨[],[(o4.map cStr).length]⟩⟩
def Q3r:Code:=((Qav (Tryz.f46.body.getD .skip)).getD 1 .skip)
def Qm1 (p0:(List Qae)) (v7:(List (List UInt8))) (v8:Int):St:=⟨[(0,.p (.sl false (p0.map Qaf))),(7,.own 0 9 1 (v7.map cStr)),(8,.p (iV v8))],⟨[],[(v7.map cStr).length]⟩⟩
def Qsf (p0:(List Qae)) (o3:(List (List UInt8))):St:=⟨[(7,.own 0 9 1 (o3.map cStr))],⟨[],[(o3.map cStr).length]⟩⟩
def Q3s:Code:=((Qav (Tryz.f46.body.getD .skip)).getD 0 .skip)
def Qxw (y:(List (List UInt8))):D :=.own 0 9 1 (y.map cStr)
def Q1i:List (Nat×List Nat):=[(0,[0,1]),(1,[0,1,8]),(2,[4]),(3,[0,1,5]),(4,[0,1,5,21]),(5,[0,1,5]),(6,[0,4]),(1000004,[0,1,5]),(3000004,[])]
def Q75 (p0:(List (List UInt8))) (p1:(List UInt8)) (v5:Int) (o3:Bool):St:=⟨[(0,.own 0 9 1 (p0.map cStr)),(1,.p (sV p1)),(5,.p (iV v5)),(21,.p (bV o3))],⟨[],[(p0.map cStr).length]⟩⟩
def Qog (p0:(List (List UInt8))) (p1:(List UInt8)) (v5:Int):St:=⟨[(0,.own 0 9 1 (p0.map cStr)),(1,.p (sV p1)),(5,.p (iV v5))],⟨[],[(p0.map cStr).length]⟩⟩
def Qux (p0:(List (List UInt8))) (p1:(List UInt8)) (o2:Int):St:=⟨[(0,.own 0 9 1 (p0.map cStr)),(1,.p (sV p1)),(5,.p (iV o2))],⟨[],[(p0.map cStr).length]⟩⟩
def Q76:Code:=((Qav (Tryz.f55.body.getD .skip)).getD 0 .skip)
def Qe2 (y:(List UInt8)×Int):D :=.tup [.p (sV y.1),.p (iV y.2)]
def Qhk:List (Nat×List Nat):=[(0,[0]),(1,[0,19]),(2,[2,3]),(3,[0,20,21,22]),(4,[0,20,21,22,23]),(5,[0,4,5,20,21,22]),(6,[0,4,5,20,21,22,36]),(7,[2,3]),(8,[0,5,7,20,21,22]),(9,[0,5,20,21,22,48]),(10,[2,3]),(11,[0,20,21,22]),(12,[0,8]),(13,[0,8,54,55,56]),(14,[0,8,54,55,56,57]),(15,[0,8,10,54,55,56]),(16,[0,8,10,54,55,56,64,65,66]),(17,[0,8,10,54,55,56,64,65,66,67]),(18,[0,8,10,12,54,55,56,64,65,66]),(19,[0,8,10,14,54,55,56,64,65,66]),(20,[0,8,10,54,55,56,64,65,66,78]),(21,[2,3]),(22,[0,8,10,54,55,56,64,65,66]),(23,[0,8,54,55,56]),(24,[8,83,84,85]),(25,[8,83,84,85,86]),(26,[8,16,83,84,85]),(27,[8,16,83,84,85,98]),(28,[2,3]),(29,[8,83,84,85]),(30,[2,3]),(1000004,[0,20,21,22]),(1000014,[0,8,54,55,56]),(1000017,[0,8,10,54,55,56,64,65,66]),(1000025,[8,83,84,85]),(3000006,[]),(5000027,[2005]),(9000016,[4,0,0,0]),(9000019,[3,0,0,0])]
def Qy6 (p0:(List Qae)) (v22:Int) (x4:Qae) (o5:Bool):St:=⟨[(0,.p (.sl false (p0.map Qaf))),(4,.p (iV v22)),(5,.ptr 0 0),(20,.p (.sl false (p0.map Qaf))),(21,.p (iV (p0.length:Int))),(22,.p (iV v22)),(36,.p (bV o5))],⟨[[.p (sV x4.Name),.p (.sl false (x4.L.map Qaa))]],[]⟩⟩
def Qj7 (p0:(List Qae)) (v22:Int):St:=⟨[(0,.p (.sl false (p0.map Qaf))),(20,.p (.sl false (p0.map Qaf))),(21,.p (iV (p0.length:Int))),(22,.p (iV v22))],⟨[],[]⟩⟩
def Qov (p0:(List Qae)) (y2:Unit):St:=⟨[(0,.p (.sl false (p0.map Qaf)))],⟨[],[]⟩⟩
def Qow (p0:(List Qae)) (y3:(List UInt8)×Int):St:=⟨[(2,.p (sV y3.1)),(3,.p (iV y3.2))],⟨[],[]⟩⟩
def Qy7:Code:=((Qav (Tryz.f13.body.getD .skip)).getD 0 .skip)
def Qj8 (p0:(List Qae)) (x10:(List ((List UInt8)×(List (List UInt8))))) (v56:Int) (x14:Qae) (v66:Int):St:=⟨[(0,.p (.sl false (p0.map Qaf))),(8,.ptr 1 0),(10,.ptr 2 0),(54,.p (.sl false (p0.map Qaf))),(55,.p (iV (p0.length:Int))),(56,.p (iV v56)),(64,.p (.sl false (((mget (fun a b=>a==b) x14.Name x10).getD []).map cStr))),(65,.p (iV (((mget (fun a b=>a==b) x14.Name x10).getD []).length:Int))),(66,.p (iV v66))],⟨[[mpD sV (fun x =>.sl false (x.map cStr)) x10],[.mh 0],[.p (sV x14.Name),.p (.sl false (x14.L.map Qaa))]],[]⟩⟩
def Qox (p0:(List Qae)) (x10:(List ((List UInt8)×(List (List UInt8))))) (v56:Int) (x14:Qae) (y16:Unit):St:=⟨[(0,.p (.sl false (p0.map Qaf))),(8,.ptr 1 0),(54,.p (.sl false (p0.map Qaf))),(55,.p (iV (p0.length:Int))),(56,.p (iV v56))],⟨[[mpD sV (fun x =>.sl false (x.map cStr)) x10],[.mh 0],[.p (sV x14.Name),.p (.sl false (x14.L.map Qaa))]],[]⟩⟩
def Qoy (p0:(List Qae)) (x10:(List ((List UInt8)×(List (List UInt8))))) (v56:Int) (x14:Qae) (y17:Unit):St:=⟨[(2,.p (sV x14.Name)),(3,.p (iV 4))],⟨[[mpD sV (fun x =>.sl false (x.map cStr)) x10],[.mh 0],[.p (sV x14.Name),.p (.sl false (x14.L.map Qaa))]],[]⟩⟩
def Qy8:Code:=((Qav (Tryz.f13.body.getD .skip)).getD 2 .skip)
def Qj9 (p0:(List Qae)) (x10:(List ((List UInt8)×(List (List UInt8))))) (v56:Int):St:=⟨[(0,.p (.sl false (p0.map Qaf))),(8,.ptr 1 0),(54,.p (.sl false (p0.map Qaf))),(55,.p (iV (p0.length:Int))),(56,.p (iV v56))],⟨[[mpD sV (fun x =>.sl false (x.map cStr)) x10],[.mh 0]],[]⟩⟩
def Qoz (p0:(List Qae)) (x10:(List ((List UInt8)×(List (List UInt8))))) (y12:Unit):St:=⟨[(0,.p (.sl false (p0.map Qaf))),(8,.ptr 1 0)],⟨[[mpD sV (fun x =>.sl false (x.map cStr)) x10],[.mh 0]],[]⟩⟩
def Qo0 (p0:(List Qae)) (x10:(List ((List UInt8)×(List (List UInt8))))) (y13:(List UInt8)):St:=⟨[(2,.p (sV y13)),(3,.p (iV 4))],⟨[[mpD sV (fun x =>.sl false (x.map cStr)) x10],[.mh 0]],[]⟩⟩
def Qy9:Code:=((Qav (Tryz.f13.body.getD .skip)).getD 1 .skip)
def Qka (p0:(List Qae)) (x10:(List ((List UInt8)×(List (List UInt8))))) (v85:Int):St:=⟨[(8,.ptr 1 0),(83,.p (.sl false (p0.map Qaf))),(84,.p (iV (p0.length:Int))),(85,.p (iV v85))],⟨[[mpD sV (fun x =>.sl false (x.map cStr)) x10],[.mh 0]],[]⟩⟩
def Qo1 (p0:(List Qae)) (x10:(List ((List UInt8)×(List (List UInt8))))) (y20:Unit):St:=⟨[],⟨[[mpD sV (fun x =>.sl false (x.map cStr)) x10],[.mh 0]],[]⟩⟩
def Qo2 (p0:(List Qae)) (x10:(List ((List UInt8)×(List (List UInt8))))) (y21:(List UInt8)):St:=⟨[(2,.p (sV y21)),(3,.p (iV 10))],⟨[[mpD sV (fun x =>.sl false (x.map cStr)) x10],[.mh 0]],[]⟩⟩
def Qza:Code:=((Qav (Tryz.f13.body.getD .skip)).getD 3 .skip)
def Qin (y:(List Qab)×Bool):D :=.tup [.p (.sl false (y.1.map Qaa)),.p (bV y.2)]
def Qwg:List (Nat×List Nat):=[(0,[0,1]),(1,[1,8,9,10]),(2,[1,8,9,10,11]),(3,[1,7,8,9,10]),(4,[1,7,8,9,10,17]),(5,[4,5]),(6,[1,8,9,10]),(7,[4,5]),(1000002,[1,8,9,10])]
def Qlj (p0:(List Qae)) (p1:(List UInt8)) (v10:Int):St:=⟨[(1,.p (sV p1)),(8,.p (.sl false (p0.map Qaf))),(9,.p (iV (p0.length:Int))),(10,.p (iV v10))],⟨[],[]⟩⟩
def Qqn (p0:(List Qae)) (p1:(List UInt8)) (y2:Unit):St:=⟨[],⟨[],[]⟩⟩
def Qqo (p0:(List Qae)) (p1:(List UInt8)) (y3:(List Qab)):St:=⟨[(4,.p (.sl false (y3.map Qaa))),(5,.p (bV true))],⟨[],[]⟩⟩
def Q1j:Code:=((Qav (Tryz.f39.body.getD .skip)).getD 0 .skip)
def Qsg (y:(List (List UInt8))):D :=.p (.sl false (y.map cStr))
def Q77:List (Nat×List Nat):=[(0,[0]),(1,[0,3]),(2,[0,3,4]),(3,[0,3,4]),(4,[3]),(5,[3]),(6,[2]),(9000005,[1,3,0,0]),(9000006,[1,0,0,0]),(9500004,[])]
def Qoh (_:(List (List UInt8))):D :=.tup []
def Qsh:List (Nat×List Nat):=[(0,[1,2,6,7,8]),(1,[1,2,6,7,8,9]),(2,[1,2,5,6,7,8]),(3,[1,2,5,6,7,8,14]),(4,[1,2,5,6,7,8]),(5,[1,2,5,6,7,8]),(6,[1,2,6,7,8]),(7,[1,2,6,7,8]),(1000001,[1,2,6,7,8]),(2003005,[]),(9000004,[4,0,0,0])]
def Qxx (p0:(List Qab)) (v8:Int) (x2:Qab) (o3:(List (List UInt8))):St:=⟨[(1,.ptr 0 0),(2,.ptr 1 0),(5,.ptr 2 0),(6,.p (.sl false (p0.map Qaa))),(7,.p (iV (p0.length:Int))),(8,.p (iV v8))],⟨[[.x 0 (o3.length+1) (.sl 9 1 (o3.map cStr))],[.fn (.func 99) [] [.ptr 0 0,.ptr 1 0]],[.p (iV x2.Kind),.p (sV x2.Name),.p (sV x2.Text),.p (iV x2.N),.p (.sl false (x2.L.map Qaa)),.p (.sl false (x2.Then.map Qaa)),.p (.sl false (x2.Else.map Qaa))]],[(o3.length+1)]⟩⟩
def Qiz (p0:(List Qab)) (v8:Int) (h0_0_:(List (List UInt8))):St:=⟨[(1,.ptr 0 0),(2,.ptr 1 0),(6,.p (.sl false (p0.map Qaa))),(7,.p (iV (p0.length:Int))),(8,.p (iV v8))],⟨[[.x 0 (h0_0_.length+1) (.sl 9 1 (h0_0_.map cStr))],[.fn (.func 99) [] [.ptr 0 0,.ptr 1 0]]],[(h0_0_.length+1)]⟩⟩
def Qnq (p0:(List Qab)) (o1:(List (List UInt8))):St:=⟨[],⟨[[.x 0 (o1.length+1) (.sl 9 1 (o1.map cStr))],[.fn (.func 99) [] [.ptr 0 0,.ptr 1 0]]],[(o1.length+1)]⟩⟩
def Qxy:Code:=((Qav (Tryz.f99.body.getD .skip)).getD 0 .skip)
def Qwh (_:(List ((List UInt8)×(List (List UInt8))))):D :=.agg [.mh 0]
def Quy:List (Nat×List Nat):=[(0,[0,2]),(1,[0,2,3]),(2,[2,3,10,11,12]),(3,[2,3,10,11,12,13]),(4,[2,3,5,10,11,12]),(5,[2,3,5,7,10,11,12]),(6,[2,3,5,10,11,12,25]),(7,[2,3,10,11,12]),(8,[2,3,10,11,12]),(9,[2]),(1000003,[2,3,10,11,12]),(9000001,[0,0,0,0]),(9000005,[4,0,0,0]),(9000007,[7,0,0,0]),(9800007,[7]),(7000007,[2,3,10,11,12,27,29,32])]
def Qg5 (p0:(List Qae)) (v12:Int) (h1_0:(List ((List UInt8)×(List (List UInt8))))):St:=⟨[(2,.ptr 0 0),(3,.ptr 2 0),(10,.p (.sl false (p0.map Qaf))),(11,.p (iV (p0.length:Int))),(12,.p (iV v12))],⟨[[.p (.v (.map none))],[mpD sV (fun x =>.sl false (x.map cStr)) h1_0],[.mh 1]],[]⟩⟩
def Qo3 (p0:(List Qae)) (o1:(List ((List UInt8)×(List (List UInt8))))):St:=⟨[(2,.ptr 0 0),(3,.ptr 2 0)],⟨[[.p (.v (.map none))],[mpD sV (fun x =>.sl false (x.map cStr)) o1],[.mh 1]],[]⟩⟩
def Qzb:Code:=((Qav (Tryz.f40.body.getD .skip)).getD 0 .skip)
def Qi0 (y:(List (List UInt8))):D :=.p (.sl false (y.map cStr))
def Qe3:List (Nat×List Nat):=[(0,[1,2]),(1,[1,2,5]),(2,[2,5,6]),(3,[2,5,6,15,16,17]),(4,[2,5,6,15,16,17,18]),(5,[2,5,6,8,15,16,17]),(6,[2,5,6,15,16,17]),(7,[2,5,6,15,16,17]),(8,[2,5,6,9]),(9,[2,5,6,9,27]),(10,[2,5,6,9]),(11,[2,5,6,9,36,37,38]),(12,[2,5,6,9,36,37,38,39]),(13,[2,5,6,9,11,36,37,38]),(14,[2,5,6,9,11,36,37,38,45]),(15,[2,5,6,9,11,36,37,38]),(16,[2,5,6,9,36,37,38]),(17,[2,5,6,9,36,37,38]),(18,[6]),(19,[4]),(1000004,[2,5,6,15,16,17]),(1000009,[2,5,6,9]),(1000012,[2,5,6,9,36,37,38]),(5000011,[2004,2005,2006]),(9000001,[0,0,0,0]),(9000003,[1,0,0,0]),(9000005,[0,0,0,0,1,0,0,0]),(9000006,[2,0,0,0]),(9000009,[2,0,0,0]),(9000014,[2,0,0,0]),(9000015,[2,0,0,0]),(9000016,[3,0,0,0]),(9000018,[1,1,6,0])]
def Qfz (h0_0:(List ((List UInt8)×(List (List UInt8))))) (x1:(List (List UInt8))) (v17:Int) (h2_0:(List ((List UInt8)×Int))):St:=⟨[(2,.ptr 1 0),(5,.mh 2),(6,.x 0 1 (.sl 9 1 (x1.map cStr))),(15,.x 0 1 (.sl 9 1 (x1.map cStr))),(16,.p (iV (x1.length:Int))),(17,.p (iV v17))],⟨[[mpD sV (fun x =>.sl false (x.map cStr)) h0_0],[.mh 0],[mpD sV iV h2_0]],[1]⟩⟩
def Qjr (h0_0:(List ((List UInt8)×(List (List UInt8))))) (x1:(List (List UInt8))) (o2:(List ((List UInt8)×Int))):St:=⟨[(2,.ptr 1 0),(5,.mh 2),(6,.x 0 1 (.sl 9 1 (x1.map cStr)))],⟨[[mpD sV (fun x =>.sl false (x.map cStr)) h0_0],[.mh 0],[mpD sV iV o2]],[1]⟩⟩
def Qsi:Code:=((Qav (Tryz.f42.body.getD .skip)).getD 0 .skip)
def Qd4 (h0_0:(List ((List UInt8)×(List (List UInt8))))) (v9:Int) (x5:(List UInt8)) (v6_:(List (List UInt8))) (v38:Int) (h2_0_:(List ((List UInt8)×Int))):St:=⟨[(2,.ptr 1 0),(5,.mh 2),(6,.x 0 1 (.sl 9 1 (v6_.map cStr))),(9,.p (iV v9)),(36,.p (.sl false (((mget (fun a b=>a==b) x5 h0_0).getD []).map cStr))),(37,.p (iV (((mget (fun a b=>a==b) x5 h0_0).getD []).length:Int))),(38,.p (iV v38))],⟨[[mpD sV (fun x =>.sl false (x.map cStr)) h0_0],[.mh 0],[mpD sV iV h2_0_]],[1]⟩⟩
def Qjs (h0_0:(List ((List UInt8)×(List (List UInt8))))) (v9:Int) (x5:(List UInt8)) (o6:(List (List UInt8))×(List ((List UInt8)×Int))):St:=⟨[(2,.ptr 1 0),(5,.mh 2),(6,.x 0 1 (.sl 9 1 (o6.1.map cStr))),(9,.p (iV v9))],⟨[[mpD sV (fun x =>.sl false (x.map cStr)) h0_0],[.mh 0],[mpD sV iV o6.2]],[1]⟩⟩
def Qsj:Code:=((Qav (Tryz.f42.body.getD .skip)).getD 2 .skip)
def Qf0 (h0_0:(List ((List UInt8)×(List (List UInt8))))) (v6:(List (List UInt8))) (v9:Int) (h2_0:(List ((List UInt8)×Int))):St:=⟨[(2,.ptr 1 0),(5,.mh 2),(6,.x 0 1 (.sl 9 1 (v6.map cStr))),(9,.p (iV v9))],⟨[[mpD sV (fun x =>.sl false (x.map cStr)) h0_0],[.mh 0],[mpD sV iV h2_0]],[1]⟩⟩
def Qjt (h0_0:(List ((List UInt8)×(List (List UInt8))))) (o4:(List (List UInt8))×(List ((List UInt8)×Int))):St:=⟨[(6,.x 0 1 (.sl 9 1 (o4.1.map cStr)))],⟨[[mpD sV (fun x =>.sl false (x.map cStr)) h0_0],[.mh 0],[mpD sV iV o4.2]],[1]⟩⟩
def Qsk:Code:=((Qav (Tryz.f42.body.getD .skip)).getD 1 .skip)
def Qct (y:Bool):D :=.p (bV y)
def Qi1:List (Nat×List Nat):=[(0,[0,1]),(1,[4]),(3000001,[])]
def Qh3  (o1:Bool):St:=⟨[(4,.p (bV o1))],⟨[],[]⟩⟩
def Qf1 (y:Int):D :=.p (iV y)
def Qem (y:Int):D :=.p (iV y)
def Qpy (y:(List UInt8)×Bool):D :=.tup [.p (sV y.1),.p (bV y.2)]
def Qym:List (Nat×List Nat):=[(0,[0]),(1,[0,14]),(2,[2,3]),(3,[0,4]),(4,[0,4,17,18]),(5,[0,4,17,18,19]),(6,[0,4,5,17,18]),(7,[0,4,6,17,18]),(8,[0,4,6,17,18,24]),(9,[0,4,17,18]),(10,[0,4,6,17,18,24,29]),(11,[0,4,17,18]),(12,[0,4,6,17,18,24,33]),(13,[0,4,17,18]),(14,[0,4,6,17,18,24,37]),(15,[0,4,6,17,18,37]),(16,[0,4,17,18]),(17,[0,4,17,18]),(18,[2,3]),(1000005,[0,4,17,18]),(2014005,[]),(3000001,[])]
def Q3t (p0:(List UInt8)) (o1:Bool):St:=⟨[(0,.p (sV p0)),(14,.p (bV o1))],⟨[],[]⟩⟩
def Q3u (p0:(List UInt8)) (v4:(List Int)) (v18:Int) (x5:UInt8) (o8:Bool):St:=⟨[(0,.p (sV p0)),(4,.own 0 1000005 1 (v4.map (cNum .u8))),(6,.p (nV .u8 (x5.toNat:Int))),(17,.p (iV (p0.length:Int))),(18,.p (iV v18)),(37,.p (bV o8))],⟨[],[(v4.map (cNum .u8)).length]⟩⟩
def Qet (p0:(List UInt8)) (v4:(List Int)) (v18:Int):St:=⟨[(0,.p (sV p0)),(4,.own 0 1000005 1 (v4.map (cNum .u8))),(17,.p (iV (p0.length:Int))),(18,.p (iV v18))],⟨[],[(v4.map (cNum .u8)).length]⟩⟩
def Qsl (p0:(List UInt8)) (o4:(List Int)):St:=⟨[(4,.own 0 1000005 1 (o4.map (cNum .u8)))],⟨[],[(o4.map (cNum .u8)).length]⟩⟩
def Q3v:Code:=((Qav (Tryz.f154.body.getD .skip)).getD 0 .skip)
def Qmd (y:Bool):D :=.p (bV y)
def Q1k:List (Nat×List Nat):=[(0,[0]),(1,[0,5,6]),(2,[0,5,6,7]),(3,[0,3,5,6]),(4,[0,5,6,13]),(5,[2]),(6,[0,5,6]),(7,[2]),(1000002,[0,5,6]),(3000007,[])]
def Qoi (p0:(List UInt8)) (v6:Int):St:=⟨[(0,.p (sV p0)),(5,.p (iV (p0.length:Int))),(6,.p (iV v6))],⟨[],[]⟩⟩
def Quz (p0:(List UInt8)) (y2:Unit):St:=⟨[(0,.p (sV p0))],⟨[],[]⟩⟩
def Qu0 (p0:(List UInt8)) (y3:Unit):St:=⟨[(2,.p (bV false))],⟨[],[]⟩⟩
def Q78:Code:=((Qav (Tryz.f69.body.getD .skip)).getD 0 .skip)
def Q79  (o6:Bool):St:=⟨[(2,.p (bV o6))],⟨[],[]⟩⟩
def Qpz (y:Bool):D :=.p (bV y)
def Qabm:List (Nat×List Nat):=[(0,[0]),(1,[2]),(3000001,[])]
def Q3w  (o1:Bool):St:=⟨[(2,.p (bV o1))],⟨[],[]⟩⟩
def Qsm (y:Bool):D :=.p (bV y)
def Q8a:List (Nat×List Nat):=[(0,[0]),(1,[2]),(3000001,[])]
def Q1l  (o1:Bool):St:=⟨[(2,.p (bV o1))],⟨[],[]⟩⟩
def Qcj (y:(List Qab)×Int):D :=.tup [.p (.sl false (y.1.map Qaa)),.p (iV y.2)]
def Ql0:List (Nat×List Nat):=[(0,[0,1,2]),(1,[0,1,2,8]),(2,[0,1,2,8,9]),(3,[0,1,2,8,9,24]),(4,[0,1,2,8,9]),(5,[0,1,2,8,9,10]),(6,[0,1,2,8,9,10]),(7,[0,1,2,8,9,10,11]),(8,[0,1,2,8,9,10,11]),(9,[0,1,2,8,9,10,11]),(10,[0,1,2,8,9,11]),(11,[0,1,2,8,9]),(12,[6,7]),(1000003,[0,1,2,8,9]),(3000003,[])]
def Qra (p0:(List Qab)) (p1:Int) (v2:Int) (v8:(List Qab)) (v9:Int) (o2:Bool):St:=⟨[(0,.p (.sl false (p0.map Qaa))),(1,.p (iV p1)),(2,.p (iV v2)),(8,.own 0 38 7 (v8.map Qaa)),(9,.p (iV v9)),(24,.p (bV o2))],⟨[],[(v8.map Qaa).length]⟩⟩
def Qe4 (p0:(List Qab)) (p1:Int) (v2:Int) (v8:(List Qab)) (v9:Int):St:=⟨[(0,.p (.sl false (p0.map Qaa))),(1,.p (iV p1)),(2,.p (iV v2)),(8,.own 0 38 7 (v8.map Qaa)),(9,.p (iV v9))],⟨[],[(v8.map Qaa).length]⟩⟩
def Qi2 (p0:(List Qab)) (p1:Int) (o1:Int×(List Qab)):St:=⟨[(2,.p (iV o1.1)),(8,.own 0 38 7 (o1.2.map Qaa))],⟨[],[(o1.2.map Qaa).length]⟩⟩
def Qrb:Code:=((Qav (Tryz.f22.body.getD .skip)).getD 0 .skip)
def Qkb (y:(List Qae)):D :=.p (.sl false (y.map Qaf))
def Qnr:List (Nat×List Nat):=[(0,[0,1]),(1,[0,1,5]),(2,[0,1,5,6]),(3,[0,1,5,6,18]),(4,[0,1,5,6]),(5,[0,1,5,6,7]),(6,[0,1,5,6]),(7,[4]),(1000003,[0,1,5,6]),(3000003,[])]
def Qt0 (p0:(List Qae)) (p1:Int) (v5:(List Qae)) (v6:Int) (o2:Bool):St:=⟨[(0,.p (.sl false (p0.map Qaf))),(1,.p (iV p1)),(5,.own 0 56 2 (v5.map Qaf)),(6,.p (iV v6)),(18,.p (bV o2))],⟨[],[(v5.map Qaf).length]⟩⟩
def Qga (p0:(List Qae)) (p1:Int) (v5:(List Qae)) (v6:Int):St:=⟨[(0,.p (.sl false (p0.map Qaf))),(1,.p (iV p1)),(5,.own 0 56 2 (v5.map Qaf)),(6,.p (iV v6))],⟨[],[(v5.map Qaf).length]⟩⟩
def Qk0 (p0:(List Qae)) (p1:Int) (o1:(List Qae)):St:=⟨[(5,.own 0 56 2 (o1.map Qaf))],⟨[],[(o1.map Qaf).length]⟩⟩
def Qt1:Code:=((Qav (Tryz.f12.body.getD .skip)).getD 0 .skip)
def Qdi (y:(List (List UInt8))):D :=.x 0 1 (.sl 9 1 (y.map cStr))
def Qlk:List (Nat×List Nat):=[(0,[0]),(1,[0,4]),(2,[2]),(3,[2]),(9000001,[1,0,0,0]),(9000003,[2,0,0,0])]
def Qbw (y:Bool):D :=.p (bV y)
def Qdq:List (Nat×List Nat):=[(0,[0,1]),(1,[4])]
def Qb4 (y:Bool):D :=.p (bV y)
def Qjp:List (Nat×List Nat):=[(0,[0,1]),(1,[4])]
def Qbh (y:Int):D :=.p (iV y)
def Qb6:List (Nat×List Nat):=[(0,[0,1]),(1,[0,1,7,8]),(2,[0,1,7,8,9]),(3,[0,1,5,7,8]),(4,[0,1,5,7,8,16]),(5,[4]),(6,[0,1,7,8]),(7,[4]),(1000002,[0,1,7,8])]
def Qba (p0:(List Qab)) (v8:Int):St:=⟨[(0,.p (.sl false (p0.map Qaa))),(1,.fn (.func 155) [] []),(7,.p (iV (p0.length:Int))),(8,.p (iV v8))],⟨[],[]⟩⟩
def Qbu (p0:(List Qab)) (y2:Unit):St:=⟨[],⟨[],[]⟩⟩
def Qbv (p0:(List Qab)) (y3:Int):St:=⟨[(4,.p (iV y3))],⟨[],[]⟩⟩
def Qdv:Code:=((Qav (Tryz.f83.body.getD .skip)).getD 0 .skip)
def Qcn (y:Int):D :=.p (iV y)
def Qfo:List (Nat×List Nat):=[(0,[0,1]),(1,[0,1,7,8]),(2,[0,1,7,8,9]),(3,[0,1,5,7,8]),(4,[0,1,5,7,8,16]),(5,[4]),(6,[0,1,7,8]),(7,[4]),(1000002,[0,1,7,8])]
def Qcu (p0:(List (List UInt8))) (p1:(List UInt8)) (v8:Int):St:=⟨[(0,.p (.sl false (p0.map cStr))),(1,.p (sV p1)),(7,.p (iV (p0.length:Int))),(8,.p (iV v8))],⟨[],[]⟩⟩
def Qen (p0:(List (List UInt8))) (p1:(List UInt8)) (y2:Unit):St:=⟨[],⟨[],[]⟩⟩
def Qeo (p0:(List (List UInt8))) (p1:(List UInt8)) (y3:Int):St:=⟨[(4,.p (iV y3))],⟨[],[]⟩⟩
def Qkc:Code:=((Qav (Tryz.f74.body.getD .skip)).getD 0 .skip)
def Qi3 (y:Bool):D :=.p (bV y)
def Qve:List (Nat×List Nat):=[(0,[0,1]),(1,[4])]
def Qc2 (y:Bool):D :=.p (bV y)
def Qt2:List (Nat×List Nat):=[(0,[0,1]),(1,[4])]
def Qm2 (y:Int):D :=.p (iV y)
def Qzc:List (Nat×List Nat):=[(0,[0,1]),(1,[4])]
def Qh4 (y:Int):D :=.p (iV y)
def Qt3:List (Nat×List Nat):=[(0,[0,1]),(1,[4])]
def Qsn (y:Int):D :=.p (iV y)
def Qp0:List (Nat×List Nat):=[(0,[0]),(1,[0,3]),(2,[3,5]),(3,[3,5]),(4,[2]),(4000003,[3,5])]
def Qhu (x1:(List Qab)×Int) (h0_0:Int):St:=⟨[(3,.ptr 0 0),(5,.fn (.func 125) [] [.p (.ep [.sl false (x1.1.map Qaa)]),.p (.ep [iV x1.2])])],⟨[[.p (iV h0_0)]],[]⟩⟩
def Qqp (x1:(List Qab)×Int) (o6:Int):St:=⟨[(3,.ptr 0 0),(5,.fn (.func 125) [] [.p (.ep [.sl false (x1.1.map Qaa)]),.p (.ep [iV x1.2])])],⟨[[.p (iV o6)]],[]⟩⟩
def Qm3:Code:=((Qav (Tryz.f71.body.getD .skip)).getD 0 .skip)
def Qvf (y:Int):D :=.p (iV y)
def Qso:List (Nat×List Nat):=[(0,[0,5]),(1,[0,3,5]),(2,[3,5,7]),(3,[3,5,7]),(4,[3,5,7]),(5,[2]),(4000003,[3,5,7])]
def Qi4 (x1:(List Qab)×Int) (h0_0:Int):St:=⟨[(3,.ptr 0 0),(7,.fn (.func 125) [] [.p (.ep [.sl false (x1.1.map Qaa)]),.p (.ep [iV x1.2])])],⟨[[.p (iV h0_0)]],[]⟩⟩
def Qsp (x1:(List Qab)×Int) (o6:Int):St:=⟨[(3,.ptr 0 0),(7,.fn (.func 125) [] [.p (.ep [.sl false (x1.1.map Qaa)]),.p (.ep [iV x1.2])])],⟨[[.p (iV o6)]],[]⟩⟩
def Qoj:Code:=((Qav (Tryz.f70.body.getD .skip)).getD 0 .skip)
def Q1m (y:Bool):D :=.p (bV y)
def Qaht:List (Nat×List Nat):=[(0,[0]),(1,[2]),(3000001,[])]
def Qabn  (o1:Bool):St:=⟨[(2,.p (bV o1))],⟨[],[]⟩⟩
def Qgb (y:Bool):D :=.p (bV y)
def Qabo:List (Nat×List Nat):=[(0,[0]),(1,[0,3]),(2,[0,3,4]),(3,[0,3,4]),(4,[0,3,4]),(5,[0,3,4]),(6,[0,3,4]),(7,[0,3,4]),(8,[0,3,4]),(9,[0,3,4]),(10,[0,3,4]),(11,[0,4]),(12,[2]),(13,[2]),(2002037,[])]
def Q3x (p0:(List UInt8)) (o1:Bool):St:=⟨[(0,.p (sV p0)),(4,.p (bV o1))],⟨[],[]⟩⟩
def Qo4 (y:(List Qab)×Int):D :=.fn (.func 125) [] [.p (.ep [.sl false (y.1.map Qaa)]),.p (.ep [iV y.2])]
def Qael:List (Nat×List Nat):=[(0,[2,3]),(1,[4])]
def Qcl (y:(Qab×Int)):List V:=[.agg [iV y.1.Kind,sV y.1.Name,sV y.1.Text,iV y.1.N,.sl false (y.1.L.map Qaa),.sl false (y.1.Then.map Qaa),.sl false (y.1.Else.map Qaa)],iV y.2]
def Qi5:List (Nat×List Nat):=[(0,[1,2,3,8,9]),(1,[2,3,8,9,10,11,12]),(2,[2,3,8,9,10,11,12,13]),(3,[2,3,5,8,9,10,11,12]),(4,[2,3,5,8,9,10,11,12,20]),(5,[2,3,8,9,10,11,12,27,28]),(6,[2,3,8,9,10,11,12,27,28,29]),(7,[2,3,7,8,9,10,11,12,27,28]),(8,[2,3,8,9,10,11,12,27,28,34]),(9,[2,3,8,10,11,12,27,28,34,36]),(10,[2,3,8,9,10,11,12,27,28,34]),(11,[2,3,8,9,10,11,12,27,28,34,41]),(12,[2,3,8,9,10,11,12,27,28]),(13,[2,3,8,9,10,11,12]),(1000002,[2,3,8,9,10,11,12]),(1000006,[2,3,8,9,10,11,12,27,28]),(4000009,[2,3,8,9,10,11,12,27,28,34])]
def Qhv (p0:(List Qab)) (p1:Int) (v12:Int) (x3:Qab) (v28:Int) (x7:(List Qab)×Int) (gxs gp:List (List V)):St:=⟨[(2,.p (.ep [iV p1])),(3,.ptr 0 0),(10,.p (.sl false (p0.map Qaa))),(11,.p (iV (p0.length:Int))),(12,.p (iV v12)),(27,.p (.agg [.sl false (x3.L.map Qaa),.sl false (x3.Then.map Qaa),.sl false (x3.Else.map Qaa)])),(28,.p (iV v28)),(34,.fn (.func 125) [] [.p (.ep [.sl false (x7.1.map Qaa)]),.p (.ep [iV x7.2])])],⟨[[.yld Tryz.prog 0 gxs],[.p (iV x3.Kind),.p (sV x3.Name),.p (sV x3.Text),.p (iV x3.N),.p (.sl false (x3.L.map Qaa)),.p (.sl false (x3.Then.map Qaa)),.p (.sl false (x3.Else.map Qaa))]],[gp.length]⟩⟩
def Qqq (p0:(List Qab)) (p1:Int) (v12:Int) (x3:Qab) (v28:Int) (x7:(List Qab)×Int) (gxs:List (List V)) (gq12:List (List V)) (oy:Unit):St:=⟨[(2,.p (.ep [iV p1])),(3,.ptr 0 0),(10,.p (.sl false (p0.map Qaa))),(11,.p (iV (p0.length:Int))),(12,.p (iV v12)),(27,.p (.agg [.sl false (x3.L.map Qaa),.sl false (x3.Then.map Qaa),.sl false (x3.Else.map Qaa)])),(28,.p (iV v28)),(34,.fn (.func 125) [] [.p (.ep [.sl false (x7.1.map Qaa)]),.p (.ep [iV x7.2])])],⟨[[.yld Tryz.prog 0 gxs],[.p (iV x3.Kind),.p (sV x3.Name),.p (sV x3.Text),.p (iV x3.N),.p (.sl false (x3.L.map Qaa)),.p (.sl false (x3.Then.map Qaa)),.p (.sl false (x3.Else.map Qaa))]],[gq12.length]⟩⟩
def Qm4:Code:=((Qav (Tryz.f125.body.getD .skip)).getD 2 .skip)
def Qll (p0:(List Qab)) (p1:Int) (v12:Int) (x3:Qab) (v28:Int) (gxs gp:List (List V)):St:=⟨[(2,.p (.ep [iV p1])),(3,.ptr 0 0),(10,.p (.sl false (p0.map Qaa))),(11,.p (iV (p0.length:Int))),(12,.p (iV v12)),(27,.p (.agg [.sl false (x3.L.map Qaa),.sl false (x3.Then.map Qaa),.sl false (x3.Else.map Qaa)])),(28,.p (iV v28))],⟨[[.yld Tryz.prog 0 gxs],[.p (iV x3.Kind),.p (sV x3.Name),.p (sV x3.Text),.p (iV x3.N),.p (.sl false (x3.L.map Qaa)),.p (.sl false (x3.Then.map Qaa)),.p (.sl false (x3.Else.map Qaa))]],[gp.length]⟩⟩
def Qqr (p0:(List Qab)) (p1:Int) (v12:Int) (x3:Qab) (gxs:List (List V)) (gq4:List (List V)) (oy:Unit):St:=⟨[(2,.p (.ep [iV p1])),(3,.ptr 0 0),(10,.p (.sl false (p0.map Qaa))),(11,.p (iV (p0.length:Int))),(12,.p (iV v12))],⟨[[.yld Tryz.prog 0 gxs],[.p (iV x3.Kind),.p (sV x3.Name),.p (sV x3.Text),.p (iV x3.N),.p (.sl false (x3.L.map Qaa)),.p (.sl false (x3.Then.map Qaa)),.p (.sl false (x3.Else.map Qaa))]],[gq4.length]⟩⟩
def Q1n:Code:=((Qav (Tryz.f125.body.getD .skip)).getD 1 .skip)
def Qlm (p0:(List Qab)) (p1:Int) (v12:Int) (gxs gp:List (List V)):St:=⟨[(2,.p (.ep [iV p1])),(3,.ptr 0 0),(10,.p (.sl false (p0.map Qaa))),(11,.p (iV (p0.length:Int))),(12,.p (iV v12))],⟨[[.yld Tryz.prog 0 gxs]],[gp.length]⟩⟩
def Qqs (p0:(List Qab)) (p1:Int) (gxs:List (List V)) (gq1:List (List V)) (oy:Unit):St:=⟨[],⟨[[.yld Tryz.prog 0 gxs]],[gq1.length]⟩⟩
def Q1o:Code:=((Qav (Tryz.f125.body.getD .skip)).getD 0 .skip)
def Qgc (y:Bool):D :=.p (bV y)
def Qwi:List (Nat×List Nat):=[(0,[0,1]),(1,[0,1,8,9,10]),(2,[0,1,8,9,10,11]),(3,[0,1,5,6,8,9,10]),(4,[0,1,5,6,8,9,10,17]),(5,[4]),(6,[0,1,5,6,7,8,9,10]),(7,[0,1,8,9,10,50]),(8,[4]),(9,[0,1,8,9,10]),(10,[4]),(1000002,[0,1,8,9,10]),(3000007,[])]
def Q1p (p0:(List Qab)) (p1:Bool) (v10:Int) (x4:Qab) (o6:Bool):St:=⟨[(0,.p (.sl false (p0.map Qaa))),(1,.p (bV p1)),(8,.p (.sl false (p0.map Qaa))),(9,.p (iV (p0.length:Int))),(10,.p (iV v10)),(50,.p (bV o6))],⟨[[.p (iV x4.Kind),.p (sV x4.Name),.p (sV x4.Text),.p (iV x4.N),.p (.sl false (x4.L.map Qaa)),.p (.sl false (x4.Then.map Qaa)),.p (.sl false (x4.Else.map Qaa))]],[]⟩⟩
def Qln (p0:(List Qab)) (p1:Bool) (v10:Int):St:=⟨[(0,.p (.sl false (p0.map Qaa))),(1,.p (bV p1)),(8,.p (.sl false (p0.map Qaa))),(9,.p (iV (p0.length:Int))),(10,.p (iV v10))],⟨[],[]⟩⟩
def Qqt (p0:(List Qab)) (p1:Bool) (y2:Unit):St:=⟨[],⟨[],[]⟩⟩
def Qqu (p0:(List Qab)) (p1:Bool) (y3:Unit):St:=⟨[(4,.p (bV false))],⟨[],[]⟩⟩
def Q1q:Code:=((Qav (Tryz.f72.body.getD .skip)).getD 0 .skip)
def Qc3 (y:Bool):D :=.p (bV y)
def Qabp:List (Nat×List Nat):=[(0,[1]),(1,[1,3]),(2,[1,3,4]),(3,[1,3,4,11]),(4,[1,3,4,11,12]),(5,[3,6]),(6,[2]),(7,[1,3,4,11,28]),(8,[2]),(9,[1,3,4,11,35]),(10,[2]),(11,[1,3,4,11,48]),(12,[2]),(13,[1,3,4,11,58]),(14,[2]),(15,[1,3,4,11,68]),(16,[1,3,4]),(17,[2]),(18,[1,3,4,86]),(19,[1,3,4]),(20,[2]),(21,[2]),(3000006,[]),(3000010,[]),(3000012,[]),(3000014,[]),(3000017,[]),(3000020,[])]
def Q3y (p0:Qab) (x1:Qdg) (o3:Bool):St:=⟨[(2,.p (bV o3))],⟨[[.p (iV p0.Kind),.p (sV p0.Name),.p (sV p0.Text),.p (iV p0.N),.p (.sl false (p0.L.map Qaa)),.p (.sl false (p0.Then.map Qaa)),.p (.sl false (p0.Else.map Qaa))],[.p (bV x1.name_),.p (bV x1.text_),.p (bV x1.num_),.p (bV x1.then_),.p (bV x1.other_),.p (iV x1.l_)],[.p (bV true),.p (bV false),.p (bV false),.p (bV false),.p (bV false),.p (iV 0)]],[]⟩⟩
def Q3z (p0:Qab) (x1:Qdg) (o4:Bool):St:=⟨[(2,.p (bV o4))],⟨[[.p (iV p0.Kind),.p (sV p0.Name),.p (sV p0.Text),.p (iV p0.N),.p (.sl false (p0.L.map Qaa)),.p (.sl false (p0.Then.map Qaa)),.p (.sl false (p0.Else.map Qaa))],[.p (bV x1.name_),.p (bV x1.text_),.p (bV x1.num_),.p (bV x1.then_),.p (bV x1.other_),.p (iV x1.l_)],[.p (bV true),.p (bV false),.p (bV false),.p (bV false),.p (bV false),.p (iV 0)]],[]⟩⟩
def Q30 (p0:Qab) (x1:Qdg) (o5:Bool):St:=⟨[(2,.p (bV o5))],⟨[[.p (iV p0.Kind),.p (sV p0.Name),.p (sV p0.Text),.p (iV p0.N),.p (.sl false (p0.L.map Qaa)),.p (.sl false (p0.Then.map Qaa)),.p (.sl false (p0.Else.map Qaa))],[.p (bV x1.name_),.p (bV x1.text_),.p (bV x1.num_),.p (bV x1.then_),.p (bV x1.other_),.p (iV x1.l_)],[.p (bV true),.p (bV false),.p (bV false),.p (bV false),.p (bV false),.p (iV 0)]],[]⟩⟩
def Q31 (p0:Qab) (x1:Qdg) (o7:Bool):St:=⟨[(2,.p (bV o7))],⟨[[.p (iV p0.Kind),.p (sV p0.Name),.p (sV p0.Text),.p (iV p0.N),.p (.sl false (p0.L.map Qaa)),.p (.sl false (p0.Then.map Qaa)),.p (.sl false (p0.Else.map Qaa))],[.p (bV x1.name_),.p (bV x1.text_),.p (bV x1.num_),.p (bV x1.then_),.p (bV x1.other_),.p (iV x1.l_)],[.p (bV true),.p (bV false),.p (bV false),.p (bV false),.p (bV false),.p (iV 0)]],[]⟩⟩
def Q32 (p0:Qab) (x1:Qdg) (o9:Bool):St:=⟨[(2,.p (bV o9))],⟨[[.p (iV p0.Kind),.p (sV p0.Name),.p (sV p0.Text),.p (iV p0.N),.p (.sl false (p0.L.map Qaa)),.p (.sl false (p0.Then.map Qaa)),.p (.sl false (p0.Else.map Qaa))],[.p (bV x1.name_),.p (bV x1.text_),.p (bV x1.num_),.p (bV x1.then_),.p (bV x1.other_),.p (iV x1.l_)],[.p (bV true),.p (bV false),.p (bV false),.p (bV false),.p (bV false),.p (iV 1)]],[]⟩⟩
def Q33 (p0:Qab) (x1:Qdg) (o13:Bool):St:=⟨[(2,.p (bV o13))],⟨[[.p (iV p0.Kind),.p (sV p0.Name),.p (sV p0.Text),.p (iV p0.N),.p (.sl false (p0.L.map Qaa)),.p (.sl false (p0.Then.map Qaa)),.p (.sl false (p0.Else.map Qaa))],[.p (bV x1.name_),.p (bV x1.text_),.p (bV x1.num_),.p (bV x1.then_),.p (bV x1.other_),.p (iV x1.l_)],[.p (bV true),.p (bV false),.p (bV false),.p (bV false),.p (bV false),.p (iV (if 3<x1.l_ then 3 else x1.l_))]],[]⟩⟩
def Qp1 (y:Bool):D :=.p (bV y)
def Q34:List (Nat×List Nat):=[(0,[1]),(1,[2])]
def Qkt (y:Qdg):D :=.p (.agg [bV y.name_,bV y.text_,bV y.num_,bV y.then_,bV y.other_,iV y.l_])
def Q1r:List (Nat×List Nat):=[(0,[1,2]),(1,[2])]
def Qp2 (y:Bool):D :=.p (bV y)
def Qabq:List (Nat×List Nat):=[(0,[1]),(1,[1,3]),(2,[1,3,4]),(3,[1,3,4,10]),(4,[2]),(5,[1,3,4,10,11]),(6,[2]),(7,[1,3,4,10,22]),(8,[1,3,4,10,24]),(9,[1,3,4]),(10,[1,3,4,10,32]),(11,[1,3,4,10,32]),(12,[1,3,4]),(13,[1,3,4,42]),(14,[1,3,4]),(15,[1,3,4,5]),(16,[2]),(2003032,[]),(2010005,[]),(3000006,[]),(3000015,[]),(3000016,[]),(5000009,[1005,1007]),(5000012,[1006,1008]),(8000009,[2]),(8000012,[2])]
def Q35 (p0:Qab) (x1:Qdg) (y3:Bool×Bool×Bool):St:=⟨[(1,.ptr 0 0),(3,.ptr 1 0),(4,.ptr 2 0)],⟨[[.p (iV p0.Kind),.p (sV p0.Name),.p (sV p0.Text),.p (iV p0.N),.p (.sl false (p0.L.map Qaa)),.p (.sl false (p0.Then.map Qaa)),.p (.sl false (p0.Else.map Qaa))],[.p (bV x1.name_),.p (bV x1.text_),.p (bV x1.num_),.p (bV x1.then_),.p (bV x1.other_),.p (iV x1.l_)],[.p (bV y3.1),.p (bV false),.p (bV false),.p (bV y3.2.1),.p (bV y3.2.2),.p (iV 1)]],[]⟩⟩
def Q36 (p0:Qab) (x1:Qdg) (y4:Bool):St:=⟨[(2,.p (bV y4))],⟨[[.p (iV p0.Kind),.p (sV p0.Name),.p (sV p0.Text),.p (iV p0.N),.p (.sl false (p0.L.map Qaa)),.p (.sl false (p0.Then.map Qaa)),.p (.sl false (p0.Else.map Qaa))],[.p (bV x1.name_),.p (bV x1.text_),.p (bV x1.num_),.p (bV x1.then_),.p (bV x1.other_),.p (iV x1.l_)],[.p (bV false),.p (bV false),.p (bV false),.p (bV false),.p (bV false),.p (iV 1)]],[]⟩⟩
def Q37 (p0:Qab) (x1:Qdg) (o5:Bool):St:=⟨[(2,.p (bV o5))],⟨[[.p (iV p0.Kind),.p (sV p0.Name),.p (sV p0.Text),.p (iV p0.N),.p (.sl false (p0.L.map Qaa)),.p (.sl false (p0.Then.map Qaa)),.p (.sl false (p0.Else.map Qaa))],[.p (bV x1.name_),.p (bV x1.text_),.p (bV x1.num_),.p (bV x1.then_),.p (bV x1.other_),.p (iV x1.l_)],[.p (bV false),.p (bV false),.p (bV false),.p (bV false),.p (bV false),.p (iV 1)]],[]⟩⟩
def Q38 (p0:Qab) (x1:Qdg) (o7:Bool):St:=⟨[(1,.ptr 0 0),(3,.ptr 1 0),(4,.ptr 2 0),(10,.p (iV p0.Kind)),(32,.p (bV o7))],⟨[[.p (iV p0.Kind),.p (sV p0.Name),.p (sV p0.Text),.p (iV p0.N),.p (.sl false (p0.L.map Qaa)),.p (.sl false (p0.Then.map Qaa)),.p (.sl false (p0.Else.map Qaa))],[.p (bV x1.name_),.p (bV x1.text_),.p (bV x1.num_),.p (bV x1.then_),.p (bV x1.other_),.p (iV x1.l_)],[.p (bV false),.p (bV false),.p (bV false),.p (bV false),.p (bV false),.p (iV 1)]],[]⟩⟩
def Q39 (p0:Qab) (x1:Qdg) (y3:Bool×Bool×Bool) (o10:Bool):St:=⟨[(1,.ptr 0 0),(3,.ptr 1 0),(4,.ptr 2 0),(5,.p (bV o10))],⟨[[.p (iV p0.Kind),.p (sV p0.Name),.p (sV p0.Text),.p (iV p0.N),.p (.sl false (p0.L.map Qaa)),.p (.sl false (p0.Then.map Qaa)),.p (.sl false (p0.Else.map Qaa))],[.p (bV x1.name_),.p (bV x1.text_),.p (bV x1.num_),.p (bV x1.then_),.p (bV x1.other_),.p (iV x1.l_)],[.p (bV y3.1),.p (bV false),.p (bV false),.p (bV y3.2.1),.p (bV y3.2.2),.p (iV 1)]],[]⟩⟩
def Q4a (p0:Qab) (x1:Qdg) (y3:Bool×Bool×Bool) (o11:Bool):St:=⟨[(2,.p (bV o11))],⟨[[.p (iV p0.Kind),.p (sV p0.Name),.p (sV p0.Text),.p (iV p0.N),.p (.sl false (p0.L.map Qaa)),.p (.sl false (p0.Then.map Qaa)),.p (.sl false (p0.Else.map Qaa))],[.p (bV x1.name_),.p (bV x1.text_),.p (bV x1.num_),.p (bV x1.then_),.p (bV x1.other_),.p (iV x1.l_)],[.p (bV y3.1),.p (bV false),.p (bV false),.p (bV y3.2.1),.p (bV y3.2.2),.p (iV 1)]],[]⟩⟩
def Qz6 (y:Bool):D :=.p (bV y)
def Q1s:List (Nat×List Nat):=[(0,[0,2,3,4]),(1,[2,3,4,6]),(2,[2,3,6,8]),(3,[2,3,4,6]),(4,[2,3,4,6,14]),(5,[2]),(6,[2]),(4000002,[2,3,4,6]),(3000004,[])]
def Qaem (x1:(List UInt8)) (x2:(Int×Int)) (o9:Bool):St:=⟨[(2,.ptr 0 0),(3,.p (nV .i32 x2.1)),(4,.p (iV x2.2)),(6,.fn (.func 185) [] [.p (.ep [sV x1])]),(14,.p (bV o9))],⟨[[.p (bV false)]],[]⟩⟩
def Qns (x1:(List UInt8)):St:=⟨[(2,.ptr 0 0),(6,.fn (.func 185) [] [.p (.ep [sV x1])])],⟨[[.p (bV false)]],[]⟩⟩
def Qyn (x1:(List UInt8)) (y7:Unit):St:=⟨[(2,.ptr 0 0),(6,.fn (.func 185) [] [.p (.ep [sV x1])])],⟨[[.p (bV false)]],[]⟩⟩
def Qyo (x1:(List UInt8)) (y8:Unit):St:=⟨[(2,.ptr 0 0)],⟨[[.p (bV false)]],[]⟩⟩
def Qvg:Code:=((Qav (Tryz.f168.body.getD .skip)).getD 0 .skip)
def Qme (y:Int×Int):D :=.tup [.p (nV .i32 y.1),.p (iV y.2)]
def Qaen:List (Nat×List Nat):=[(0,[0,1]),(1,[0,1,17]),(2,[4,5]),(3,[0,1,6]),(4,[4,5]),(5,[0,1,6,21]),(6,[4,5]),(7,[0,1,6,26]),(8,[0,1,4,7,8]),(9,[0,1,6,36]),(10,[0,1,4,7,8]),(11,[0,1,6,46]),(12,[0,1,4,7,8]),(13,[4,7,8,9]),(14,[4,8,77]),(15,[4,5]),(16,[4,5]),(2004022,[]),(3000001,[]),(3000007,[]),(3000009,[]),(3000011,[]),(3000014,[])]
def Q8b (p0:(List UInt8)) (p1:Int) (o1:Bool):St:=⟨[(0,.p (sV p0)),(1,.p (iV p1)),(17,.p (bV o1))],⟨[],[]⟩⟩
def Q8c (p0:(List UInt8)) (p1:Int) (y4:Int×Int×Int):St:=⟨[(0,.p (sV p0)),(1,.p (iV p1)),(4,.p (nV .i32 y4.1)),(7,.p (nV .i32 y4.2.1)),(8,.p (iV y4.2.2))],⟨[],[]⟩⟩
def Q8d (p0:(List UInt8)) (p1:Int) (y5:Int):St:=⟨[(4,.p (nV .i32 y5)),(5,.p (iV 1))],⟨[],[]⟩⟩
def Q8e (p0:(List UInt8)) (p1:Int) (x2:UInt8) (o6:Bool):St:=⟨[(0,.p (sV p0)),(1,.p (iV p1)),(6,.p (nV .u8 (x2.toNat:Int))),(26,.p (bV o6))],⟨[],[]⟩⟩
def Q8f (p0:(List UInt8)) (p1:Int) (x2:UInt8) (o7:Bool):St:=⟨[(0,.p (sV p0)),(1,.p (iV p1)),(6,.p (nV .u8 (x2.toNat:Int))),(36,.p (bV o7))],⟨[],[]⟩⟩
def Q8g (p0:(List UInt8)) (p1:Int) (x2:UInt8) (o8:Bool):St:=⟨[(0,.p (sV p0)),(1,.p (iV p1)),(6,.p (nV .u8 (x2.toNat:Int))),(46,.p (bV o8))],⟨[],[]⟩⟩
def Q8h (y4:Int×Int×Int) (x10:Int×Bool) (o11:Bool):St:=⟨[(4,.p (nV .i32 x10.1)),(8,.p (iV y4.2.2)),(77,.p (bV o11))],⟨[],[]⟩⟩
def Q1t (y:(List UInt8)):D :=.fn (.func 185) [] [.p (.ep [sV y])]
def Qahu:List (Nat×List Nat):=[(0,[1]),(1,[2])]
def Qkd (y:(Int×Int)):List V:=[nV .i32 y.1,iV y.2]
def Qyp:List (Nat×List Nat):=[(0,[0,1,3]),(1,[0,1,3,9]),(2,[0,1,3,4,5]),(3,[0,1,3,5,20]),(4,[0,1,3]),(1000001,[0,1,3])]
def Qm5 (p0:(List UInt8)) (v3:Int) (gxs gp:List (List V)):St:=⟨[(0,.yld Tryz.prog 0 gxs),(1,.p (.ep [sV p0])),(3,.p (iV v3))],⟨[],[gp.length]⟩⟩
def Qsq (p0:(List UInt8)) (gxs:List (List V)) (gq1:List (List V)) (oy:Unit):St:=⟨[],⟨[],[gq1.length]⟩⟩
def Q4b:Code:=((Qav (Tryz.f185.body.getD .skip)).getD 0 .skip)
def Q8i (y:Bool):D :=.p (bV y)
def Qakf:List (Nat×List Nat):=[(0,[0]),(1,[2]),(3000001,[])]
def Qaeo  (o1:Bool):St:=⟨[(2,.p (bV o1))],⟨[],[]⟩⟩
def Qo5 (y:Int×Bool):D :=.tup [.p (nV .i32 y.1),.p (bV y.2)]
def Q1u:List (Nat×List Nat):=[(0,[0,1,2]),(1,[0,1,2,12]),(2,[6,7]),(3,[0,1,13,14]),(4,[0,1,13,14,15]),(5,[0,1,8,13,14]),(6,[0,1,8,13,14,21]),(7,[6,7]),(8,[0,1,13,14]),(9,[0,1,13,14]),(10,[6,7]),(1000004,[0,1,13,14])]
def Qok (p0:(List UInt8)) (p2:Int) (v1:Int) (v14:Int):St:=⟨[(0,.p (sV p0)),(1,.p (nV .i32 v1)),(13,.p (iV p2)),(14,.p (iV v14))],⟨[],[]⟩⟩
def Qu1 (p0:(List UInt8)) (p2:Int) (y2:Int):St:=⟨[(1,.p (nV .i32 y2))],⟨[],[]⟩⟩
def Qu2 (p0:(List UInt8)) (p2:Int) (y3:Unit):St:=⟨[(6,.p (nV .i32 0)),(7,.p (bV false))],⟨[],[]⟩⟩
def Q8j:Code:=((Qav (Tryz.f187.body.getD .skip)).getD 0 .skip)
def Qeu (p0:(List UInt8)) (p1:(List UInt8)) (p2:Int):Option (Bool) :=
 ( if(decide (p2 ≥ 0)) then
   if(decide (p2≤(p0.length:Int))) then
    if(decide ((p1.length:Int)≤(wr ((p0.length:Int)-p2)))) then
     cutL p0 p2 (wr (p2+(p1.length:Int)))>>=fun x2 =>
     some (x2==p1)
    else
     some false
   else
    some false
  else
   some false:Option (Bool))>>=fun o1 =>
 some o1
theorem Ql5:∀ (p0:(List UInt8)) (p1:(List UInt8)) (p2:Int) (o:Bool),Qeu p0 p1 p2=some o→PCall Tryz.prog 141 [sV p0,sV p1,iV p2] (Qik o):=by
 intro p0 p1 p2 o h;unfold Qeu at h;refine PCall.ofB mixed tbOk Q7a Tryz.func141 rfl (by kernel_rfl) (Nat.le_of_ble_eq_true rfl) ?_;refine Qai h (fun o1 ho hk=>?_);refine Exists.intro (JP1 _ _ o1 .normal (Q1b )) (And.intro ?_ (Qay ?_))
 ·have h:=ho;refine Qad h (fun hb h=>?_) (fun hb h=>?_)
  ·refine vrfl ?_;refine Qad h (fun hb h=>?_) (fun hb h=>?_)
   ·refine vrfl ?_;refine vrfl ?_;refine Qad h (fun hb h=>?_) (fun hb h=>?_)
    ·refine vrfl ?_;refine Qiw (some p2) (some (wr (p2+(p1.length:Int)))) h (fun x2 hi h=>?_);exact JP1.a h (Le.tz 0 0 rfl rfl rfl)
    ·exact JP1.a h (Le.tz 0 0 rfl rfl rfl)
   ·refine bF ?_;exact JP1.a h (Le.tz 0 0 rfl rfl rfl)
  ·refine bF ?_;refine bF ?_;exact JP1.a h (Le.tz 0 0 rfl rfl rfl)
 ·have h:=hk;refine Qam (t:=Qik) h ?_;exact .refl _
def Q1v (p0:(List (List UInt8))) (p1:(List (List UInt8))) (v5:Int):Option (Unit⊕Unit) :=
 if(decide (v5<(p0.length:Int))) then
  idx p0 v5>>=fun x4 =>
  idx p1 v5>>=fun x5 =>
  if(!(x4==x5)) then
   some (.inr ())
  else
   Q1v p0 p1 (wr (v5+1))
 else
  some (.inl ())
 partial_fixpoint
def Qasq (p0:(List (List UInt8))) (p1:(List (List UInt8))):Option (Bool) :=
 if((p0.length:Int) != (p1.length:Int)) then
  some false
 else
  (Q1v p0 p1 0)>>=fun o1 =>
  match o1 with
  | .inl y2 =>
   some true
  | .inr y3 =>
   some false
def Qnt (p0:Int):Option (Bool) :=
 ( if(decide (p0 ≥ 0)) then
   if(decide (p0≤1114111)) then
    if(decide (p0 ≥ 55296)) then
     some (!(decide (p0≤57343)))
    else
     some true
   else
    some false
  else
   some false:Option (Bool))>>=fun o1 =>
 some o1
theorem Q1w:∀ (p0:Int) (o:Bool),Qnt p0=some o→PCall Tryz.prog 180 [iV p0] (Qtm o):=by
 intro p0 o h;unfold Qnt at h;refine PCall.ofB mixed tbOk Qaef Tryz.func180 rfl (by kernel_rfl) (Nat.le_of_ble_eq_true rfl) ?_;refine Qai h (fun o1 ho hk=>?_);refine Exists.intro (JP1 _ _ o1 .normal (Q7g )) (And.intro ?_ (Qay ?_))
 ·have h:=ho;refine Qad h (fun hb h=>?_) (fun hb h=>?_)
  ·refine Qad h (fun hb h=>?_) (fun hb h=>?_)
   ·refine Qad h (fun hb h=>?_) (fun hb h=>?_)
    ·exact JP1.a h (Le.tz 0 0 rfl rfl rfl)
    ·exact JP1.a h (Le.tz 0 0 rfl rfl rfl)
   ·exact JP1.a h (Le.tz 0 0 rfl rfl rfl)
  ·refine bF ?_;exact JP1.a h (Le.tz 0 0 rfl rfl rfl)
 ·have h:=hk;refine Qam (t:=Qtm) h ?_;exact .refl _
def Qm6 (p0:Int):Option ((List UInt8)) :=
 ( Qnt p0>>=fun x2 =>
  if(!x2) then
   some 65533
  else
   some p0:Option (Int))>>=fun o1 =>
 if(decide (o1<128)) then
  b2s [(IntKind.u8.wrap o1)]>>=fun x3 =>
  some x3
 else
  if(decide (o1<2048)) then
   b2s [(IntKind.u8.wrap (wr (192+(wr (o1.tdiv 64))))),(IntKind.u8.wrap (wr (128+(o1.tmod 64))))]>>=fun x4 =>
   some x4
  else
   if(decide (o1<65536)) then
    b2s [(IntKind.u8.wrap (wr (224+(wr (o1.tdiv 4096))))),(IntKind.u8.wrap (wr (128+((wr (o1.tdiv 64)).tmod 64)))),(IntKind.u8.wrap (wr (128+(o1.tmod 64))))]>>=fun x5 =>
    some x5
   else
    b2s [(IntKind.u8.wrap (wr (240+(wr (o1.tdiv 262144))))),(IntKind.u8.wrap (wr (128+((wr (o1.tdiv 4096)).tmod 64)))),(IntKind.u8.wrap (wr (128+((wr (o1.tdiv 64)).tmod 64)))),(IntKind.u8.wrap (wr (128+(o1.tmod 64))))]>>=fun x6 =>
    some x6
theorem Qabr:∀ (p0:Int) (o:(List UInt8)),Qm6 p0=some o→PCall Tryz.prog 181 [iV p0] (Qj4 o):=by
 intro p0 o h;unfold Qm6 at h;refine PCall.ofB mixed tbOk Qabg Tryz.func181 rfl (by kernel_rfl) (Nat.le_of_ble_eq_true rfl) ?_;refine Qai h (fun o1 ho hk=>?_);refine Exists.intro (JP1 _ _ o1 .normal (Q3b )) (And.intro ?_ (Qay ?_))
 ·have h:=ho;refine Qal [iV p0] Qtm h (fun x2 hy=>(Q1w p0 x2 hy)) (fun x2 hy h=>?_);refine Qad h (fun hb h=>?_) (fun hb h=>?_)
  ·exact JP1.a h (Le.tz 0 0 rfl rfl rfl)
  ·exact JP1.a h (Le.tz 0 0 rfl rfl rfl)
 ·have h:=hk;refine Qad h (fun hb h=>?_) (fun hb h=>?_)
  ·refine vrfl ?_;refine Qaba (l:=[(IntKind.u8.wrap o1)]) h (fun x3 hi h=>?_);refine Qam (t:=Qj4) h ?_;exact .refl _
  ·refine Qad h (fun hb h=>?_) (fun hb h=>?_)
   ·refine And.intro (by decide) ?_;refine vrfl ?_;refine And.intro (by decide) ?_;refine vrfl ?_;refine Qaba (l:=[(IntKind.u8.wrap (wr (192+(wr (o1.tdiv 64))))),(IntKind.u8.wrap (wr (128+(o1.tmod 64))))]) h (fun x4 hi h=>?_);refine Qam (t:=Qj4) h ?_;exact .refl _
   ·refine Qad h (fun hb h=>?_) (fun hb h=>?_)
    ·refine And.intro (by decide) ?_;refine vrfl ?_;refine And.intro (by decide) ?_;refine And.intro (by decide) ?_;refine vrfl ?_;refine And.intro (by decide) ?_;refine vrfl ?_;refine Qaba (l:=[(IntKind.u8.wrap (wr (224+(wr (o1.tdiv 4096))))),(IntKind.u8.wrap (wr (128+((wr (o1.tdiv 64)).tmod 64)))),(IntKind.u8.wrap (wr (128+(o1.tmod 64))))]) h (fun x5 hi h=>?_);refine Qam (t:=Qj4) h ?_;exact .refl _
    ·refine And.intro (by decide) ?_;refine vrfl ?_;refine And.intro (by decide) ?_;refine And.intro (by decide) ?_;refine vrfl ?_;refine And.intro (by decide) ?_;refine And.intro (by decide) ?_;refine vrfl ?_;refine And.intro (by decide) ?_;refine vrfl ?_;refine Qaba (l:=[(IntKind.u8.wrap (wr (240+(wr (o1.tdiv 262144))))),(IntKind.u8.wrap (wr (128+((wr (o1.tdiv 4096)).tmod 64)))),(IntKind.u8.wrap (wr (128+((wr (o1.tdiv 64)).tmod 64)))),(IntKind.u8.wrap (wr (128+(o1.tmod 64))))]) h (fun x6 hi h=>?_);refine Qam (t:=Qj4) h ?_;exact .refl _
def Qee (p0:(List UInt8)) (p1:Int) (v6:(List Int)) (v7:Int) (v8:Int) (v9:Int):Option (Int) :=
 if(decide (v9<v7)) then
  idx p0 (wr (p1+v9))>>=fun x9 =>
  Qee p0 p1 v6 v7 (wr ((wr ((wr (64*v8))+(wr (x9.toNat:Int))))-128)) (wr (v9+1))
 else
  some v8
 partial_fixpoint
theorem Qakg:∀ (p0:(List UInt8)) (p1:Int) (v6:(List Int)) (v7:Int),(∀ (v8:Int) (v9:Int) (o8:Int),Qee p0 p1 v6 v7 v8 v9=some o8→TL (0,0) Tryz.prog 74 Q7d (JP1 (0,0) 74 o8 (.exit 2) (Qul p0 p1 v6 v7)) (Qn8 p0 p1 v6 v7 v8 v9)):=by
 intro p0 p1 v6 v7;refine Qee.partial_correctness p0 p1 v6 v7 _ ?_;intro Qee' iQee v8 v9 o8 h;refine TL.round (Qao mixed tbOk (lv:=Qvb) _ _ _ ?_);refine Qad h (fun hb h=>?_) (fun hb h=>?_)
 ·refine Qda h (fun x9 hi h=>?_);refine vrfl ?_;refine TL.le (τ := Qn8 p0 p1 v6 v7 (wr ((wr ((wr (64*v8))+(wr (x9.toNat:Int))))-128)) (wr (v9+1))) ?_ ((iQee (wr ((wr ((wr (64*v8))+(wr (x9.toNat:Int))))-128)) (wr (v9+1)) _ h));exact Le.tz 0 0 rfl rfl rfl
 ·exact JP1.a h (Le.tz 0 0 rfl rfl rfl)
def Qc4 (p0:(List UInt8)) (p1:Int) (v6:(List Int)) (v7:Int):Option (Unit⊕(Int×Int)) :=
 ( if(decide (v7≤4)) then
   some (decide (v7≤(wr ((p0.length:Int)-p1))))
  else
   some false:Option (Bool))>>=fun o5 =>
 if o5 then
  idx p0 p1>>=fun x6 =>
  idx v6 v7>>=fun x7 =>
  (Qee p0 p1 v6 v7 (wr ((wr (x6.toNat:Int))-x7)) 1)>>=fun o8 =>
  ( if(decide (o8 ≥ 0)) then
    Qnt o8>>=fun x11 =>
    if x11 then
     Qm6 o8>>=fun x12 =>
     cutL p0 p1 (wr (p1+v7))>>=fun x13 =>
     some (x12==x13)
    else
     some false
   else
    some false:Option (Bool))>>=fun o10 =>
  if o10 then
   some (.inr (o8,v7))
  else
   Qc4 p0 p1 v6 (wr (v7+1))
 else
  some (.inl ())
 partial_fixpoint
theorem Qakh:∀ (p0:(List UInt8)) (p1:Int) (v6:(List Int)),(∀ (v7:Int) (o2:Unit⊕(Int×Int)),Qc4 p0 p1 v6 v7=some o2→TL (0,0) Tryz.prog 74 Q7f (JP2 (0,0) 74 o2 (.exit 0) (Qum p0 p1) .ret (Qun p0 p1)) (Qn9 p0 p1 v6 v7)):=by
 intro p0 p1 v6;refine Qc4.partial_correctness p0 p1 v6 _ ?_;intro Qc4' iQc4 v7 o2 h;refine TL.round (Qao mixed tbOk (lv:=Qvb) _ _ _ ?_);refine Qai h (fun o5 ho hk=>?_);refine Exists.intro (JP1 _ _ o5 .normal (Q7c p0 p1 v6 v7)) (And.intro ?_ (Qay ?_))
 ·have h:=ho;refine Qad h (fun hb h=>?_) (fun hb h=>?_)
  ·refine vrfl ?_;exact JP1.a h (Le.tz 0 0 rfl rfl rfl)
  ·exact JP1.a h (Le.tz 0 0 rfl rfl rfl)
 ·have h:=hk;refine Qad h (fun hb h=>?_) (fun hb h=>?_)
  ·refine And.intro (by decide +kernel) (And.intro rfl ?_);refine Qda h (fun x6 hi h=>?_);refine vrfl ?_;refine Qa2 (l:=v6) (c:=cInt) (c' := cInt) h (fun _=>rfl) (fun _=>rfl) (by decide) (fun x7 hi h=>?_);refine Qai h (fun o8 ho hk=>?_);refine Exists.intro (JP1 _ _ o8 (.exit 2) (Qul p0 p1 v6 v7)) (And.intro (Qhe (τ := Qn8 p0 p1 v6 v7 (wr ((wr (x6.toNat:Int))-x7)) 1) ?_ (TL.loop (Qakg p0 p1 v6 v7 (wr ((wr (x6.toNat:Int))-x7)) 1 o8 ho))) (Qay ?_))
   ·exact Le.tz 0 0 rfl rfl rfl
   have h:=hk;refine Qai h (fun o10 ho hk=>?_);refine Exists.intro (JP1 _ _ o10 .normal (Q7e p0 p1 v6 v7 o8)) (And.intro ?_ (Qay ?_))
   ·have h:=ho;refine And.intro (by decide +kernel) (And.intro rfl ?_);refine Qad h (fun hb h=>?_) (fun hb h=>?_)
    ·refine Qco [iV o8] Qtm h (fun x11 hy=>(Q1w o8 x11 hy)) (fun x11 hy h=>?_);refine Qad h (fun hb h=>?_) (fun hb h=>?_)
     ·refine Qco [iV o8] Qj4 h (fun x12 hy=>(Qabr o8 x12 hy)) (fun x12 hy h=>?_);refine Qiw (some p1) (some (wr (p1+v7))) h (fun x13 hi h=>?_);exact JP1.a h (Le.tz 0 0 rfl rfl rfl)
     ·exact JP1.a h (Le.tz 0 0 rfl rfl rfl)
    ·refine bF ?_;exact JP1.a h (Le.tz 0 0 rfl rfl rfl)
   ·have h:=hk;refine Qad h (fun hb h=>?_) (fun hb h=>?_)
    ·exact JP2.b h (Le.tz 0 0 rfl rfl rfl)
    ·refine TL.le (τ := Qn9 p0 p1 v6 (wr (v7+1))) ?_ ((iQc4 (wr (v7+1)) _ h));exact Le.tz 0 0 rfl rfl rfl
  ·exact JP2.a h (Le.tz 0 0 rfl rfl rfl)
def Ql6 (p0:(List UInt8)) (p1:Int):Option (Int×Int) :=
 ( if(decide (p1<0)) then
   some true
  else
   some (decide (p1 ≥ (p0.length:Int))):Option (Bool))>>=fun o1 =>
 if o1 then
  some (0,0)
 else
  (Qc4 p0 p1 [0,0,192,224,240] 1)>>=fun o2 =>
  match o2 with
  | .inl y3 =>
   some (65533,1)
  | .inr y4 =>
   some (y4.1,y4.2)
theorem Q1x:∀ (p0:(List UInt8)) (p1:Int) (o:Int×Int),Ql6 p0 p1=some o→PCall Tryz.prog 171 [sV p0,iV p1] (Qmc o):=by
 intro p0 p1 o h;unfold Ql6 at h;refine PCall.ofB mixed tbOk Qvb Tryz.func171 rfl (by kernel_rfl) (Nat.le_of_ble_eq_true rfl) ?_;refine Qai h (fun o1 ho hk=>?_);refine Exists.intro (JP1 _ _ o1 .normal (Q7b p0 p1)) (And.intro ?_ (Qay ?_))
 ·have h:=ho;refine Qad h (fun hb h=>?_) (fun hb h=>?_)
  ·exact JP1.a h (Le.tz 0 0 rfl rfl rfl)
  ·refine vrfl ?_;exact JP1.a h (Le.tz 0 0 rfl rfl rfl)
 ·have h:=hk;refine Qad h (fun hb h=>?_) (fun hb h=>?_)
  ·refine Qam (t:=Qmc) h ?_;exact .refl _
  ·refine Qai h (fun o2 ho hk=>?_);refine Exists.intro (JP2 _ _ o2 (.exit 0) (Qum p0 p1) .ret (Qun p0 p1)) (And.intro (Qhe (τ := Qn9 p0 p1 [0,0,192,224,240] 1) ?_ (TL.loop (Qakh p0 p1 [0,0,192,224,240] 1 o2 ho))) (Qf3 (fun y3 hy=>?_) (fun y4 hy=>?_)))
   ·exact Le.tz 0 0 rfl rfl rfl
   ·have h:=(by rw[hy] at hk; exact hk);refine Qam (t:=Qmc) h ?_;exact .refl _
   ·have h:=(by rw[hy] at hk; exact hk);refine Qam (t:=Qmc) h ?_;exact .refl _
def Qk1 (p0:(List UInt8)) (v3:Int):Option (Unit⊕Unit) :=
 if(decide (v3<(p0.length:Int))) then
  Ql6 p0 v3>>=fun x4 =>
  ( if(x4.1==65533) then
    some (x4.2==1)
   else
    some false:Option (Bool))>>=fun o5 =>
  if o5 then
   some (.inr ())
  else
   Qk1 p0 (wr (v3+x4.2))
 else
  some (.inl ())
 partial_fixpoint
theorem Qam5:∀ (p0:(List UInt8)),(∀ (v3:Int) (o1:Unit⊕Unit),Qk1 p0 v3=some o1→TL (0,0) Tryz.prog 25 Qaee (JP2 (0,0) 25 o1 (.exit 0) (Qye p0) .ret (Qyf p0)) (Qrw p0 v3)):=by
 intro p0;refine Qk1.partial_correctness p0 _ ?_;intro Qk1' iQk1 v3 o1 h;refine TL.round (Qao mixed tbOk (lv:=Qabh) _ _ _ ?_);refine vrfl ?_;refine Qad h (fun hb h=>?_) (fun hb h=>?_)
 ·refine Qal [sV p0,iV v3] Qmc h (fun x4 hy=>(Q1x p0 v3 x4 hy)) (fun x4 hy h=>?_);refine Qai h (fun o5 ho hk=>?_);refine Exists.intro (JP1 _ _ o5 .normal (Qaed p0 v3 x4)) (And.intro ?_ (Qay ?_))
  ·have h:=ho;refine Qad h (fun hb h=>?_) (fun hb h=>?_)
   ·exact JP1.a h (Le.tz 0 0 rfl rfl rfl)
   ·exact JP1.a h (Le.tz 0 0 rfl rfl rfl)
  ·have h:=hk;refine Qad h (fun hb h=>?_) (fun hb h=>?_)
   ·exact JP2.b h (Le.tz 0 0 rfl rfl rfl)
   ·refine TL.le (τ := Qrw p0 (wr (v3+x4.2))) ?_ ((iQk1 (wr (v3+x4.2)) _ h));exact Le.tz 0 0 rfl rfl rfl
 ·exact JP2.a h (Le.tz 0 0 rfl rfl rfl)
def Qabs (p0:(List UInt8)):Option (Bool) :=
 (Qk1 p0 0)>>=fun o1 =>
 match o1 with
 | .inl y2 =>
  some true
 | .inr y3 =>
  some false
theorem Qaki:∀ (p0:(List UInt8)) (o:Bool),Qabs p0=some o→PCall Tryz.prog 179 [sV p0] (Qz5 o):=by
 intro p0 o h;unfold Qabs at h;refine PCall.ofB mixed tbOk Qabh Tryz.func179 rfl (by kernel_rfl) (Nat.le_of_ble_eq_true rfl) ?_;refine Qai h (fun o1 ho hk=>?_);refine Exists.intro (JP2 _ _ o1 (.exit 0) (Qye p0) .ret (Qyf p0)) (And.intro (Qhe (τ := Qrw p0 0) ?_ (TL.loop (Qam5 p0 0 o1 ho))) (Qf3 (fun y2 hy=>?_) (fun y3 hy=>?_)))
 ·exact Le.tz 0 0 rfl rfl rfl
 ·have h:=(by rw[hy] at hk; exact hk);refine Qam (t:=Qz5) h ?_;exact .refl _
 ·have h:=(by rw[hy] at hk; exact hk);refine Qam (t:=Qz5) h ?_;exact .refl _
def Qex (p0:(List UInt8)) (v4:(List UInt8)) (v5:Int):Option ((List UInt8)⊕Unit) :=
 if(decide (v5<(p0.length:Int))) then
  cutL p0 v5 (wr (v5+1))>>=fun x5 =>
  if(x5==[13]) then
   some (.inr ())
  else
   ( if(x5==[10]) then
     some [92,110]
    else
     if(x5==[9]) then
      some [92,116]
     else
      ( if(x5==[34]) then
        some true
       else
        some (x5==[92]):Option (Bool))>>=fun o7 =>
      if o7 then
       need ([92].length+x5.length≤9223372036854775807)>>=fun _ =>
       some ([92]++x5)
      else
       some x5:Option ((List UInt8)))>>=fun o6 =>
   need (v4.length+o6.length≤9223372036854775807)>>=fun _ =>
   Qex p0 (v4++o6) (wr (v5+1))
 else
  some (.inl v4)
 partial_fixpoint
theorem Qaii:∀ (p0:(List UInt8)),(∀ (v4:(List UInt8)) (v5:Int) (o2:(List UInt8)⊕Unit),Qex p0 v4 v5=some o2→TL (0,0) Tryz.prog 40 Q3e (JP2 (0,0) 40 o2 (.exit 0) (Qrx p0) .ret (Qry p0)) (Qms p0 v4 v5)):=by
 intro p0;refine Qex.partial_correctness p0 _ ?_;intro Qex' iQex v4 v5 o2 h;refine TL.round (Qao mixed tbOk (lv:=Qyg) _ _ _ ?_);refine vrfl ?_;refine Qad h (fun hb h=>?_) (fun hb h=>?_)
 ·refine Qiw (some v5) (some (wr (v5+1))) h (fun x5 hi h=>?_);refine Qad h (fun hb h=>?_) (fun hb h=>?_)
  ·exact JP2.b h (Le.tz 0 0 rfl rfl rfl)
  ·refine Qai h (fun o6 ho hk=>?_);refine Exists.intro (JP1 _ _ o6 .normal (Q3c p0 v4 v5)) (And.intro ?_ (Qay ?_))
   ·have h:=ho;refine Qad h (fun hb h=>?_) (fun hb h=>?_)
    ·exact JP1.a h (Le.tz 0 0 rfl rfl rfl)
    ·refine Qad h (fun hb h=>?_) (fun hb h=>?_)
     ·exact JP1.a h (Le.tz 0 0 rfl rfl rfl)
     ·refine Qai h (fun o7 ho hk=>?_);refine Exists.intro (JP1 _ _ o7 .normal (Q3d p0 v4 v5 x5)) (And.intro ?_ (Qay ?_))
      ·have h:=ho;refine Qad h (fun hb h=>?_) (fun hb h=>?_)
       ·exact JP1.a h (Le.tz 0 0 rfl rfl rfl)
       ·exact JP1.a h (Le.tz 0 0 rfl rfl rfl)
      ·have h:=hk;refine Qad h (fun hb h=>?_) (fun hb h=>?_)
       ·refine Qrt h (fun h=>?_);exact JP1.a h (Le.tz 0 0 rfl rfl rfl)
       ·exact JP1.a h (Le.tz 0 0 rfl rfl rfl)
   ·have h:=hk;refine Qrt h (fun h=>?_);refine TL.le (τ := Qms p0 (v4++o6) (wr (v5+1))) ?_ ((iQex (v4++o6) (wr (v5+1)) _ h));exact Le.tz 0 0 rfl rfl rfl
 ·exact JP2.a h (Le.tz 0 0 rfl rfl rfl)
def Qm7 (p0:(List UInt8)):Option ((List UInt8)×Bool) :=
 Qabs p0>>=fun x1 =>
 if(!x1) then
  some ([],false)
 else
  (Qex p0 [34] 0)>>=fun o2 =>
  match o2 with
  | .inl y3 =>
   need (y3.length+[34].length≤9223372036854775807)>>=fun _ =>
   some ((y3++[34]),true)
  | .inr y4 =>
   some ([],false)
theorem Qabt:∀ (p0:(List UInt8)) (o:(List UInt8)×Bool),Qm7 p0=some o→PCall Tryz.prog 170 [sV p0] (Qmr o):=by
 intro p0 o h;unfold Qm7 at h;refine PCall.ofB mixed tbOk Qyg Tryz.func170 rfl (by kernel_rfl) (Nat.le_of_ble_eq_true rfl) ?_;refine Qal [sV p0] Qz5 h (fun x1 hy=>(Qaki p0 x1 hy)) (fun x1 hy h=>?_);refine Qad h (fun hb h=>?_) (fun hb h=>?_)
 ·refine Qam (t:=Qmr) h ?_;exact .refl _
 ·refine Qai h (fun o2 ho hk=>?_);refine Exists.intro (JP2 _ _ o2 (.exit 0) (Qrx p0) .ret (Qry p0)) (And.intro (Qhe (τ := Qms p0 [34] 0) ?_ (TL.loop (Qaii p0 [34] 0 o2 ho))) (Qf3 (fun y3 hy=>?_) (fun y4 hy=>?_)))
  ·exact Le.tz 0 0 rfl rfl rfl
  ·have h:=(by rw[hy] at hk; exact hk);refine Qrt h (fun h=>?_);refine Qam (t:=Qmr) h ?_;exact .refl _
  ·have h:=(by rw[hy] at hk; exact hk);refine Qam (t:=Qmr) h ?_;exact .refl _
def Qfp (p0:Int):Option (Bool) :=
 ( if(decide (p0 ≥ 48)) then
   some (decide (p0≤57))
  else
   some false:Option (Bool))>>=fun o1 =>
 some o1
theorem Qnu:∀ (p0:Int) (o:Bool),Qfp p0=some o→PCall Tryz.prog 102 [nV .u8 p0] (Qj5 o):=by
 intro p0 o h;unfold Qfp at h;refine PCall.ofB mixed tbOk Qabi Tryz.func102 rfl (by kernel_rfl) (Nat.le_of_ble_eq_true rfl) ?_;refine Qai h (fun o1 ho hk=>?_);refine Exists.intro (JP1 _ _ o1 .normal (Q3f )) (And.intro ?_ (Qay ?_))
 ·have h:=ho;refine Qad h (fun hb h=>?_) (fun hb h=>?_)
  ·exact JP1.a h (Le.tz 0 0 rfl rfl rfl)
  ·exact JP1.a h (Le.tz 0 0 rfl rfl rfl)
 ·have h:=hk;refine Qam (t:=Qj5) h ?_;exact .refl _
def Qfq (p0:Int):Option (Bool) :=
 ( if(decide (p0 ≥ 97)) then
   some (decide (p0≤122))
  else
   some false:Option (Bool))>>=fun o1 =>
 some o1
theorem Qnv:∀ (p0:Int) (o:Bool),Qfq p0=some o→PCall Tryz.prog 101 [nV .u8 p0] (Qj6 o):=by
 intro p0 o h;unfold Qfq at h;refine PCall.ofB mixed tbOk Qabj Tryz.func101 rfl (by kernel_rfl) (Nat.le_of_ble_eq_true rfl) ?_;refine Qai h (fun o1 ho hk=>?_);refine Exists.intro (JP1 _ _ o1 .normal (Q3g )) (And.intro ?_ (Qay ?_))
 ·have h:=ho;refine Qad h (fun hb h=>?_) (fun hb h=>?_)
  ·exact JP1.a h (Le.tz 0 0 rfl rfl rfl)
  ·exact JP1.a h (Le.tz 0 0 rfl rfl rfl)
 ·have h:=hk;refine Qam (t:=Qj6) h ?_;exact .refl _
def Qef (p0:(List UInt8)) (v3:Int):Option (Unit⊕Unit) :=
 if(decide (v3<(p0.length:Int))) then
  ( idx p0 v3>>=fun x8 =>
   Qfq (x8.toNat:Int)>>=fun x9 =>
   if(!x9) then
    idx p0 v3>>=fun x10 =>
    Qfp (x10.toNat:Int)>>=fun x11 =>
    if(!x11) then
     idx p0 v3>>=fun x12 =>
     some ((x12.toNat:Int) != 95)
    else
     some false
   else
    some false:Option (Bool))>>=fun o7 =>
  if o7 then
   some (.inr ())
  else
   Qef p0 (wr (v3+1))
 else
  some (.inl ())
 partial_fixpoint
theorem Qakj:∀ (p0:(List UInt8)),(∀ (v3:Int) (o4:Unit⊕Unit),Qef p0 v3=some o4→TL (0,0) Tryz.prog 42 Q7j (JP2 (0,0) 42 o4 (.exit 0) (Quo p0) .ret (Qup p0)) (Qoa p0 v3)):=by
 intro p0;refine Qef.partial_correctness p0 _ ?_;intro Qef' iQef v3 o4 h;refine TL.round (Qao mixed tbOk (lv:=Q1c) _ _ _ ?_);refine vrfl ?_;refine Qad h (fun hb h=>?_) (fun hb h=>?_)
 ·refine Qai h (fun o7 ho hk=>?_);refine Exists.intro (JP1 _ _ o7 .normal (Q7i p0 v3)) (And.intro ?_ (Qay ?_))
  ·have h:=ho;refine Qda h (fun x8 hi h=>?_);refine Qal [nV .u8 (x8.toNat:Int)] Qj6 h (fun x9 hy=>(Qnv (x8.toNat:Int) x9 hy)) (fun x9 hy h=>?_);refine Qad h (fun hb h=>?_) (fun hb h=>?_)
   ·refine Qda h (fun x10 hi h=>?_);refine Qal [nV .u8 (x10.toNat:Int)] Qj5 h (fun x11 hy=>(Qnu (x10.toNat:Int) x11 hy)) (fun x11 hy h=>?_);refine Qad h (fun hb h=>?_) (fun hb h=>?_)
    ·refine Qda h (fun x12 hi h=>?_);exact JP1.a h (Le.tz 0 0 rfl rfl rfl)
    ·exact JP1.a h (Le.tz 0 0 rfl rfl rfl)
   ·refine bF ?_;exact JP1.a h (Le.tz 0 0 rfl rfl rfl)
  ·have h:=hk;refine Qad h (fun hb h=>?_) (fun hb h=>?_)
   ·exact JP2.b h (Le.tz 0 0 rfl rfl rfl)
   ·refine TL.le (τ := Qoa p0 (wr (v3+1))) ?_ ((iQef (wr (v3+1)) _ h));exact Le.tz 0 0 rfl rfl rfl
 ·exact JP2.a h (Le.tz 0 0 rfl rfl rfl)
def Qhw (p0:(List UInt8)):Option (Bool) :=
 ( if(decide ((p0.length:Int)<1)) then
   some true
  else
   if(decide ((p0.length:Int)>32)) then
    some true
   else
    idx p0 0>>=fun x2 =>
    Qfq (x2.toNat:Int)>>=fun x3 =>
    some (!x3):Option (Bool))>>=fun o1 =>
 if o1 then
  some false
 else
  (Qef p0 0)>>=fun o4 =>
  match o4 with
  | .inl y5 =>
   some true
  | .inr y6 =>
   some false
theorem Qm8:∀ (p0:(List UInt8)) (o:Bool),Qhw p0=some o→PCall Tryz.prog 77 [sV p0] (Qg2 o):=by
 intro p0 o h;unfold Qhw at h;refine PCall.ofB mixed tbOk Q1c Tryz.func77 rfl (by kernel_rfl) (Nat.le_of_ble_eq_true rfl) ?_;refine Qai h (fun o1 ho hk=>?_);refine Exists.intro (JP1 _ _ o1 .normal (Q7h p0)) (And.intro ?_ (Qay ?_))
 ·have h:=ho;refine vrfl ?_;refine Qad h (fun hb h=>?_) (fun hb h=>?_)
  ·refine bT ?_;exact JP1.a h (Le.tz 0 0 rfl rfl rfl)
  ·refine vrfl ?_;refine Qad h (fun hb h=>?_) (fun hb h=>?_)
   ·exact JP1.a h (Le.tz 0 0 rfl rfl rfl)
   ·refine Qda h (fun x2 hi h=>?_);refine Qal [nV .u8 (x2.toNat:Int)] Qj6 h (fun x3 hy=>(Qnv (x2.toNat:Int) x3 hy)) (fun x3 hy h=>?_);exact JP1.a h (Le.tz 0 0 rfl rfl rfl)
 ·have h:=hk;refine Qad h (fun hb h=>?_) (fun hb h=>?_)
  ·refine Qam (t:=Qg2) h ?_;exact .refl _
  ·refine Qai h (fun o4 ho hk=>?_);refine Exists.intro (JP2 _ _ o4 (.exit 0) (Quo p0) .ret (Qup p0)) (And.intro (Qhe (τ := Qoa p0 0) ?_ (TL.loop (Qakj p0 0 o4 ho))) (Qf3 (fun y5 hy=>?_) (fun y6 hy=>?_)))
   ·exact Le.tz 0 0 rfl rfl rfl
   ·have h:=(by rw[hy] at hk; exact hk);refine Qam (t:=Qg2) h ?_;exact .refl _
   ·have h:=(by rw[hy] at hk; exact hk);refine Qam (t:=Qg2) h ?_;exact .refl _
mutual
def Qdw (p0:(List Qab)):Option (Int) :=
 (Qd9 p0 0 0)>>=fun o1 =>
 some o1
 partial_fixpoint
def Qd9 (p0:(List Qab)) (v3:Int) (v4:Int):Option (Int) :=
 if(decide (v4<(p0.length:Int))) then
  idx p0 v4>>=fun x2 =>
  Qdw x2.L>>=fun x3 =>
  idx p0 v4>>=fun x4 =>
  Qdw x4.Then>>=fun x5 =>
  idx p0 v4>>=fun x6 =>
  Qdw x6.Else>>=fun x7 =>
  Qd9 p0 (wr ((wr ((wr ((wr (v3+1))+x3))+x5))+x7)) (wr (v4+1))
 else
  some v3
 partial_fixpoint
end
theorem Q8k:(∀ (p0:(List Qab)) (o:Int),Qdw p0=some o→PCall Tryz.prog 80 [.sl false (p0.map Qaa)] (Qf8 o))∧(∀ (p0:(List Qab)) (v3:Int) (v4:Int) (o1:Int),Qd9 p0 v3 v4=some o1→TL (0,0) Tryz.prog 35 Q3h (JP1 (0,0) 35 o1 (.exit 0) (Qrz p0)) (Qmt p0 v3 v4)):=by
 refine Qdw.mutual_partial_correctness _ _ ?_ ?_
 ·intro Qd9' iQd9 p0 o h;refine PCall.ofB mixed tbOk Qyh Tryz.func80 rfl (by kernel_rfl) (Nat.le_of_ble_eq_true rfl) ?_;refine Qai h (fun o1 ho hk=>?_);refine Exists.intro (JP1 _ _ o1 (.exit 0) (Qrz p0)) (And.intro (Qhe (τ := Qmt p0 0 0) ?_ (TL.loop (iQd9 p0 0 0 o1 ho))) (Qay ?_))
  ·exact Le.tz 0 0 rfl rfl rfl
  have h:=hk;refine Qam (t:=Qf8) h ?_;exact .refl _
 ·intro Qdw' Qd9' iQdw iQd9 p0 v3 v4 o1 h;refine TL.round (Qao mixed tbOk (lv:=Qyh) _ _ _ ?_);refine view (Qat _ _) rfl ?_;refine Qad h (fun hb h=>?_) (fun hb h=>?_)
  ·refine And.intro (by decide +kernel) (And.intro rfl ?_);refine Qa2 (l:=p0) (c:=Qaa) (c' := Qa0) h Qaq (fun _=>rfl) (by decide) (fun x2 hi h=>?_);refine Qco [.sl false (x2.L.map Qaa)] Qf8 h (fun x3 hy=>(iQdw x2.L x3 hy)) (fun x3 hy h=>?_);refine Qa2 (l:=p0) (c:=Qaa) (c' := Qa0) h Qaq (fun _=>rfl) (by decide) (fun x4 hi h=>?_);refine Qco [.sl false (x4.Then.map Qaa)] Qf8 h (fun x5 hy=>(iQdw x4.Then x5 hy)) (fun x5 hy h=>?_);refine Qa2 (l:=p0) (c:=Qaa) (c' := Qa0) h Qaq (fun _=>rfl) (by decide) (fun x6 hi h=>?_);refine Qco [.sl false (x6.Else.map Qaa)] Qf8 h (fun x7 hy=>(iQdw x6.Else x7 hy)) (fun x7 hy h=>?_);refine TL.le (τ := Qmt p0 (wr ((wr ((wr ((wr (v3+1))+x3))+x5))+x7)) (wr (v4+1))) ?_ ((iQd9 p0 (wr ((wr ((wr ((wr (v3+1))+x3))+x5))+x7)) (wr (v4+1)) _ h));exact Le.tz 0 0 rfl rfl rfl
  ·exact JP1.a h (Le.tz 0 0 rfl rfl rfl)
theorem Qyq:∀ (p0:(List Qab)) (o:Int),Qdw p0=some o→PCall Tryz.prog 80 [.sl false (p0.map Qaa)] (Qf8 o):=fun p0=>Q8k.1 p0
mutual
def Qe5 (p0:(List Qab)):Option (Int) :=
 (Qe6 p0 0 0)>>=fun o1 =>
 some o1
 partial_fixpoint
def Qe6 (p0:(List Qab)) (v3:Int) (v4:Int):Option (Int) :=
 if(decide (v4<(p0.length:Int))) then
  idx p0 v4>>=fun x2 =>
  Qe5 x2.L>>=fun x3 =>
  idx p0 v4>>=fun x4 =>
  Qe5 x4.Then>>=fun x5 =>
  idx p0 v4>>=fun x6 =>
  Qe5 x6.Else>>=fun x7 =>
  Qe6 p0 (if(wr (1+(if x7>(if x5>x3 then x5 else x3) then x7 else(if x5>x3 then x5 else x3))))>v3 then(wr (1+(if x7>(if x5>x3 then x5 else x3) then x7 else(if x5>x3 then x5 else x3)))) else v3) (wr (v4+1))
 else
  some v3
 partial_fixpoint
end
theorem Qabu:(∀ (p0:(List Qab)) (o:Int),Qe5 p0=some o→PCall Tryz.prog 79 [.sl false (p0.map Qaa)] (Qil o))∧(∀ (p0:(List Qab)) (v3:Int) (v4:Int) (o1:Int),Qe6 p0 v3 v4=some o1→TL (0,0) Tryz.prog 34 Q7k (JP1 (0,0) 34 o1 (.exit 0) (Quq p0)) (Qob p0 v3 v4)):=by
 refine Qe5.mutual_partial_correctness _ _ ?_ ?_
 ·intro Qe6' iQe6 p0 o h;refine PCall.ofB mixed tbOk Q1d Tryz.func79 rfl (by kernel_rfl) (Nat.le_of_ble_eq_true rfl) ?_;refine Qai h (fun o1 ho hk=>?_);refine Exists.intro (JP1 _ _ o1 (.exit 0) (Quq p0)) (And.intro (Qhe (τ := Qob p0 0 0) ?_ (TL.loop (iQe6 p0 0 0 o1 ho))) (Qay ?_))
  ·exact Le.tz 0 0 rfl rfl rfl
  have h:=hk;refine Qam (t:=Qil) h ?_;exact .refl _
 ·intro Qe5' Qe6' iQe5 iQe6 p0 v3 v4 o1 h;refine TL.round (Qao mixed tbOk (lv:=Q1d) _ _ _ ?_);refine view (Qat _ _) rfl ?_;refine Qad h (fun hb h=>?_) (fun hb h=>?_)
  ·refine And.intro (by decide +kernel) (And.intro rfl ?_);refine Qa2 (l:=p0) (c:=Qaa) (c' := Qa0) h Qaq (fun _=>rfl) (by decide) (fun x2 hi h=>?_);refine Qco [.sl false (x2.L.map Qaa)] Qil h (fun x3 hy=>(iQe5 x2.L x3 hy)) (fun x3 hy h=>?_);refine Qa2 (l:=p0) (c:=Qaa) (c' := Qa0) h Qaq (fun _=>rfl) (by decide) (fun x4 hi h=>?_);refine Qco [.sl false (x4.Then.map Qaa)] Qil h (fun x5 hy=>(iQe5 x4.Then x5 hy)) (fun x5 hy h=>?_);refine Qa2 (l:=p0) (c:=Qaa) (c' := Qa0) h Qaq (fun _=>rfl) (by decide) (fun x6 hi h=>?_);refine Qco [.sl false (x6.Else.map Qaa)] Qil h (fun x7 hy=>(iQe5 x6.Else x7 hy)) (fun x7 hy h=>?_);refine TL.le (τ := Qob p0 (if(wr (1+(if x7>(if x5>x3 then x5 else x3) then x7 else(if x5>x3 then x5 else x3))))>v3 then(wr (1+(if x7>(if x5>x3 then x5 else x3) then x7 else(if x5>x3 then x5 else x3)))) else v3) (wr (v4+1))) ?_ ((iQe6 p0 (if(wr (1+(if x7>(if x5>x3 then x5 else x3) then x7 else(if x5>x3 then x5 else x3))))>v3 then(wr (1+(if x7>(if x5>x3 then x5 else x3) then x7 else(if x5>x3 then x5 else x3)))) else v3) (wr (v4+1)) _ h));exact Le.tz 0 0 rfl rfl rfl
  ·exact JP1.a h (Le.tz 0 0 rfl rfl rfl)
theorem Q1y:∀ (p0:(List Qab)) (o:Int),Qe5 p0=some o→PCall Tryz.prog 79 [.sl false (p0.map Qaa)] (Qil o):=fun p0=>Qabu.1 p0
def Qdx (p0:(List UInt8)) (x1:(List (List UInt8))) (v4:Int):Option (Unit⊕Unit) :=
 if(decide (v4<(x1.length:Int))) then
  idx x1 v4>>=fun x5 =>
  if(x5==p0) then
   some (.inr ())
  else
   Qdx p0 x1 (wr (v4+1))
 else
  some (.inl ())
 partial_fixpoint
theorem Qakk:∀ (p0:(List UInt8)) (x1:(List (List UInt8))),(∀ (v4:Int) (o2:Unit⊕Unit),Qdx p0 x1 v4=some o2→TL (0,0) Tryz.prog 20 Q7m (JP2 (0,0) 20 o2 (.exit 0) (Qur p0 x1) .ret (Qus p0 x1)) (Qoc p0 x1 v4)):=by
 intro p0 x1;refine Qdx.partial_correctness p0 x1 _ ?_;intro Qdx' iQdx v4 o2 h;refine TL.round (Qao mixed tbOk (lv:=Q1e) _ _ _ ?_);refine view (Qat _ _) rfl ?_;refine Qad h (fun hb h=>?_) (fun hb h=>?_)
 ·refine Qa2 (l:=x1) (c:=cStr) (c' := cStr) h (fun _=>rfl) (fun _=>rfl) (by decide) (fun x5 hi h=>?_);refine Qad h (fun hb h=>?_) (fun hb h=>?_)
  ·exact JP2.b h (Le.tz 0 0 rfl rfl rfl)
  ·refine TL.le (τ := Qoc p0 x1 (wr (v4+1))) ?_ ((iQdx (wr (v4+1)) _ h));exact Le.tz 0 0 rfl rfl rfl
 ·exact JP2.a h (Le.tz 0 0 rfl rfl rfl)
def Qsr:Option ((List (List UInt8))) :=
 some ([[105,102],[101,108,115,101],[101,110,100],[101,97,99,104],[105,110],[108,101,116],[117,115,101],[116,114,117,101],[102,97,108,115,101],[115,101,99,114,101,116]])
theorem Qabv:∀ (o:(List (List UInt8))),Qsr  = some o→PCall Tryz.prog 76 [] (Qvc o):=by
 intro o h;unfold Qsr at h;refine PCall.ofB mixed tbOk Qabk Tryz.func76 rfl (by kernel_rfl) (Nat.le_of_ble_eq_true rfl) ?_;refine Qam (t:=Qvc) h ?_;exact .p (.not)
def Qg6 (p0:(List UInt8)):Option (Bool) :=
 Qsr>>=fun x1 =>
 (Qdx p0 x1 0)>>=fun o2 =>
 match o2 with
 | .inl y3 =>
  Qhw p0>>=fun x6 =>
  some x6
 | .inr y4 =>
  some false
theorem Qke:∀ (p0:(List UInt8)) (o:Bool),Qg6 p0=some o→PCall Tryz.prog 43 [sV p0] (Qg3 o):=by
 intro p0 o h;unfold Qg6 at h;refine PCall.ofB mixed tbOk Q1e Tryz.func43 rfl (by kernel_rfl) (Nat.le_of_ble_eq_true rfl) ?_;refine Qal [] Qvc h (fun x1 hy=>(Qabv x1 hy)) (fun x1 hy h=>?_);refine Qai h (fun o2 ho hk=>?_);refine Exists.intro (JP2 _ _ o2 (.exit 0) (Qur p0 x1) .ret (Qus p0 x1)) (And.intro (Qhe (τ := Qoc p0 x1 0) ?_ (TL.loop (Qakk p0 x1 0 o2 ho))) (Qf3 (fun y3 hy=>?_) (fun y4 hy=>?_)))
 ·exact Le.tz 0 0 rfl rfl rfl
 ·have h:=(by rw[hy] at hk; exact hk);refine Qal [sV p0] Qg2 h (fun x6 hy=>(Qm8 p0 x6 hy)) (fun x6 hy h=>?_);refine Qam (t:=Qg3) h ?_;exact .refl _
 ·have h:=(by rw[hy] at hk; exact hk);refine Qam (t:=Qg3) h ?_;exact .refl _
def Qea (p0:Qab) (p1:Bool) (p2:Bool) (p3:Bool) (p4:Bool) (p5:Bool):Option (Bool) :=
 ( if p1 then
   if p2 then
    if p3 then
     if p4 then
      if p5 then
       if(p0.Kind==10) then
        some true
       else
        some ((p0.Else.length:Int)==0)
      else
       if((p0.Then.length:Int)==0) then
        if(p0.Kind==10) then
         some true
        else
         some ((p0.Else.length:Int)==0)
       else
        some false
     else
      if((p0.L.length:Int)==0) then
       if p5 then
        if(p0.Kind==10) then
         some true
        else
         some ((p0.Else.length:Int)==0)
       else
        if((p0.Then.length:Int)==0) then
         if(p0.Kind==10) then
          some true
         else
          some ((p0.Else.length:Int)==0)
        else
         some false
      else
       some false
    else
     if(p0.N==0) then
      if p4 then
       if p5 then
        if(p0.Kind==10) then
         some true
        else
         some ((p0.Else.length:Int)==0)
       else
        if((p0.Then.length:Int)==0) then
         if(p0.Kind==10) then
          some true
         else
          some ((p0.Else.length:Int)==0)
        else
         some false
      else
       if((p0.L.length:Int)==0) then
        if p5 then
         if(p0.Kind==10) then
          some true
         else
          some ((p0.Else.length:Int)==0)
        else
         if((p0.Then.length:Int)==0) then
          if(p0.Kind==10) then
           some true
          else
           some ((p0.Else.length:Int)==0)
         else
          some false
       else
        some false
     else
      some false
   else
    if(p0.Text==[]) then
     if p3 then
      if p4 then
       if p5 then
        if(p0.Kind==10) then
         some true
        else
         some ((p0.Else.length:Int)==0)
       else
        if((p0.Then.length:Int)==0) then
         if(p0.Kind==10) then
          some true
         else
          some ((p0.Else.length:Int)==0)
        else
         some false
      else
       if((p0.L.length:Int)==0) then
        if p5 then
         if(p0.Kind==10) then
          some true
         else
          some ((p0.Else.length:Int)==0)
        else
         if((p0.Then.length:Int)==0) then
          if(p0.Kind==10) then
           some true
          else
           some ((p0.Else.length:Int)==0)
         else
          some false
       else
        some false
     else
      if(p0.N==0) then
       if p4 then
        if p5 then
         if(p0.Kind==10) then
          some true
         else
          some ((p0.Else.length:Int)==0)
        else
         if((p0.Then.length:Int)==0) then
          if(p0.Kind==10) then
           some true
          else
           some ((p0.Else.length:Int)==0)
         else
          some false
       else
        if((p0.L.length:Int)==0) then
         if p5 then
          if(p0.Kind==10) then
           some true
          else
           some ((p0.Else.length:Int)==0)
         else
          if((p0.Then.length:Int)==0) then
           if(p0.Kind==10) then
            some true
           else
            some ((p0.Else.length:Int)==0)
          else
           some false
        else
         some false
      else
       some false
    else
     some false
  else
   if(p0.Name==[]) then
    if p2 then
     if p3 then
      if p4 then
       if p5 then
        if(p0.Kind==10) then
         some true
        else
         some ((p0.Else.length:Int)==0)
       else
        if((p0.Then.length:Int)==0) then
         if(p0.Kind==10) then
          some true
         else
          some ((p0.Else.length:Int)==0)
        else
         some false
      else
       if((p0.L.length:Int)==0) then
        if p5 then
         if(p0.Kind==10) then
          some true
         else
          some ((p0.Else.length:Int)==0)
        else
         if((p0.Then.length:Int)==0) then
          if(p0.Kind==10) then
           some true
          else
           some ((p0.Else.length:Int)==0)
         else
          some false
       else
        some false
     else
      if(p0.N==0) then
       if p4 then
        if p5 then
         if(p0.Kind==10) then
          some true
         else
          some ((p0.Else.length:Int)==0)
        else
         if((p0.Then.length:Int)==0) then
          if(p0.Kind==10) then
           some true
          else
           some ((p0.Else.length:Int)==0)
         else
          some false
       else
        if((p0.L.length:Int)==0) then
         if p5 then
          if(p0.Kind==10) then
           some true
          else
           some ((p0.Else.length:Int)==0)
         else
          if((p0.Then.length:Int)==0) then
           if(p0.Kind==10) then
            some true
           else
            some ((p0.Else.length:Int)==0)
          else
           some false
        else
         some false
      else
       some false
    else
     if(p0.Text==[]) then
      if p3 then
       if p4 then
        if p5 then
         if(p0.Kind==10) then
          some true
         else
          some ((p0.Else.length:Int)==0)
        else
         if((p0.Then.length:Int)==0) then
          if(p0.Kind==10) then
           some true
          else
           some ((p0.Else.length:Int)==0)
         else
          some false
       else
        if((p0.L.length:Int)==0) then
         if p5 then
          if(p0.Kind==10) then
           some true
          else
           some ((p0.Else.length:Int)==0)
         else
          if((p0.Then.length:Int)==0) then
           if(p0.Kind==10) then
            some true
           else
            some ((p0.Else.length:Int)==0)
          else
           some false
        else
         some false
      else
       if(p0.N==0) then
        if p4 then
         if p5 then
          if(p0.Kind==10) then
           some true
          else
           some ((p0.Else.length:Int)==0)
         else
          if((p0.Then.length:Int)==0) then
           if(p0.Kind==10) then
            some true
           else
            some ((p0.Else.length:Int)==0)
          else
           some false
        else
         if((p0.L.length:Int)==0) then
          if p5 then
           if(p0.Kind==10) then
            some true
           else
            some ((p0.Else.length:Int)==0)
          else
           if((p0.Then.length:Int)==0) then
            if(p0.Kind==10) then
             some true
            else
             some ((p0.Else.length:Int)==0)
           else
            some false
         else
          some false
       else
        some false
     else
      some false
   else
    some false:Option (Bool))>>=fun o1 =>
 some o1
theorem Qc5:∀ (p0:Qab) (p1:Bool) (p2:Bool) (p3:Bool) (p4:Bool) (p5:Bool) (o:Bool),Qea p0 p1 p2 p3 p4 p5=some o→PCall Tryz.prog 132 [.agg [iV p0.Kind,sV p0.Name,sV p0.Text,iV p0.N,.sl false (p0.L.map Qaa),.sl false (p0.Then.map Qaa),.sl false (p0.Else.map Qaa)],bV p1,bV p2,bV p3,bV p4,bV p5] (Qc1 o):=by
 intro p0 p1 p2 p3 p4 p5 o h;unfold Qea at h;refine PCall.ofB mixed tbOk Qaeh Tryz.func132 rfl (by kernel_rfl) (Nat.le_of_ble_eq_true rfl) ?_;refine Qai h (fun o1 ho hk=>?_);refine Exists.intro (JP1 _ _ o1 .normal (Q7n p0)) (And.intro ?_ (Qay ?_))
 ·have h:=ho;refine Qad h (fun hb h=>?_) (fun hb h=>?_)
  ·refine bT ?_;refine Qad h (fun hb h=>?_) (fun hb h=>?_)
   ·refine bT ?_;refine Qad h (fun hb h=>?_) (fun hb h=>?_)
    ·refine bT ?_;refine Qad h (fun hb h=>?_) (fun hb h=>?_)
     ·refine bT ?_;refine Qad h (fun hb h=>?_) (fun hb h=>?_)
      ·refine bT ?_;refine Qad h (fun hb h=>?_) (fun hb h=>?_)
       ·exact JP1.a h (Le.tz 1 0 rfl rfl rfl)
       ·refine view (Qat _ _) rfl ?_;exact JP1.a h (Le.tz 1 0 rfl rfl rfl)
      ·refine view (Qat _ _) rfl ?_;refine Qad h (fun hb h=>?_) (fun hb h=>?_)
       ·refine Qad h (fun hb h=>?_) (fun hb h=>?_)
        ·exact JP1.a h (Le.tz 1 0 rfl rfl rfl)
        ·refine view (Qat _ _) rfl ?_;exact JP1.a h (Le.tz 1 0 rfl rfl rfl)
       ·exact JP1.a h (Le.tz 1 0 rfl rfl rfl)
     ·refine view (Qat _ _) rfl ?_;refine Qad h (fun hb h=>?_) (fun hb h=>?_)
      ·refine Qad h (fun hb h=>?_) (fun hb h=>?_)
       ·refine bT ?_;refine Qad h (fun hb h=>?_) (fun hb h=>?_)
        ·exact JP1.a h (Le.tz 1 0 rfl rfl rfl)
        ·refine view (Qat _ _) rfl ?_;exact JP1.a h (Le.tz 1 0 rfl rfl rfl)
       ·refine view (Qat _ _) rfl ?_;refine Qad h (fun hb h=>?_) (fun hb h=>?_)
        ·refine Qad h (fun hb h=>?_) (fun hb h=>?_)
         ·exact JP1.a h (Le.tz 1 0 rfl rfl rfl)
         ·refine view (Qat _ _) rfl ?_;exact JP1.a h (Le.tz 1 0 rfl rfl rfl)
        ·exact JP1.a h (Le.tz 1 0 rfl rfl rfl)
      ·refine bF ?_;exact JP1.a h (Le.tz 1 0 rfl rfl rfl)
    ·refine Qad h (fun hb h=>?_) (fun hb h=>?_)
     ·refine Qad h (fun hb h=>?_) (fun hb h=>?_)
      ·refine bT ?_;refine Qad h (fun hb h=>?_) (fun hb h=>?_)
       ·refine bT ?_;refine Qad h (fun hb h=>?_) (fun hb h=>?_)
        ·exact JP1.a h (Le.tz 1 0 rfl rfl rfl)
        ·refine view (Qat _ _) rfl ?_;exact JP1.a h (Le.tz 1 0 rfl rfl rfl)
       ·refine view (Qat _ _) rfl ?_;refine Qad h (fun hb h=>?_) (fun hb h=>?_)
        ·refine Qad h (fun hb h=>?_) (fun hb h=>?_)
         ·exact JP1.a h (Le.tz 1 0 rfl rfl rfl)
         ·refine view (Qat _ _) rfl ?_;exact JP1.a h (Le.tz 1 0 rfl rfl rfl)
        ·exact JP1.a h (Le.tz 1 0 rfl rfl rfl)
      ·refine view (Qat _ _) rfl ?_;refine Qad h (fun hb h=>?_) (fun hb h=>?_)
       ·refine Qad h (fun hb h=>?_) (fun hb h=>?_)
        ·refine bT ?_;refine Qad h (fun hb h=>?_) (fun hb h=>?_)
         ·exact JP1.a h (Le.tz 1 0 rfl rfl rfl)
         ·refine view (Qat _ _) rfl ?_;exact JP1.a h (Le.tz 1 0 rfl rfl rfl)
        ·refine view (Qat _ _) rfl ?_;refine Qad h (fun hb h=>?_) (fun hb h=>?_)
         ·refine Qad h (fun hb h=>?_) (fun hb h=>?_)
          ·exact JP1.a h (Le.tz 1 0 rfl rfl rfl)
          ·refine view (Qat _ _) rfl ?_;exact JP1.a h (Le.tz 1 0 rfl rfl rfl)
         ·exact JP1.a h (Le.tz 1 0 rfl rfl rfl)
       ·refine bF ?_;exact JP1.a h (Le.tz 1 0 rfl rfl rfl)
     ·refine bF ?_;refine bF ?_;exact JP1.a h (Le.tz 1 0 rfl rfl rfl)
   ·refine Qad h (fun hb h=>?_) (fun hb h=>?_)
    ·refine Qad h (fun hb h=>?_) (fun hb h=>?_)
     ·refine bT ?_;refine Qad h (fun hb h=>?_) (fun hb h=>?_)
      ·refine bT ?_;refine Qad h (fun hb h=>?_) (fun hb h=>?_)
       ·refine bT ?_;refine Qad h (fun hb h=>?_) (fun hb h=>?_)
        ·exact JP1.a h (Le.tz 1 0 rfl rfl rfl)
        ·refine view (Qat _ _) rfl ?_;exact JP1.a h (Le.tz 1 0 rfl rfl rfl)
       ·refine view (Qat _ _) rfl ?_;refine Qad h (fun hb h=>?_) (fun hb h=>?_)
        ·refine Qad h (fun hb h=>?_) (fun hb h=>?_)
         ·exact JP1.a h (Le.tz 1 0 rfl rfl rfl)
         ·refine view (Qat _ _) rfl ?_;exact JP1.a h (Le.tz 1 0 rfl rfl rfl)
        ·exact JP1.a h (Le.tz 1 0 rfl rfl rfl)
      ·refine view (Qat _ _) rfl ?_;refine Qad h (fun hb h=>?_) (fun hb h=>?_)
       ·refine Qad h (fun hb h=>?_) (fun hb h=>?_)
        ·refine bT ?_;refine Qad h (fun hb h=>?_) (fun hb h=>?_)
         ·exact JP1.a h (Le.tz 1 0 rfl rfl rfl)
         ·refine view (Qat _ _) rfl ?_;exact JP1.a h (Le.tz 1 0 rfl rfl rfl)
        ·refine view (Qat _ _) rfl ?_;refine Qad h (fun hb h=>?_) (fun hb h=>?_)
         ·refine Qad h (fun hb h=>?_) (fun hb h=>?_)
          ·exact JP1.a h (Le.tz 1 0 rfl rfl rfl)
          ·refine view (Qat _ _) rfl ?_;exact JP1.a h (Le.tz 1 0 rfl rfl rfl)
         ·exact JP1.a h (Le.tz 1 0 rfl rfl rfl)
       ·refine bF ?_;exact JP1.a h (Le.tz 1 0 rfl rfl rfl)
     ·refine Qad h (fun hb h=>?_) (fun hb h=>?_)
      ·refine Qad h (fun hb h=>?_) (fun hb h=>?_)
       ·refine bT ?_;refine Qad h (fun hb h=>?_) (fun hb h=>?_)
        ·refine bT ?_;refine Qad h (fun hb h=>?_) (fun hb h=>?_)
         ·exact JP1.a h (Le.tz 1 0 rfl rfl rfl)
         ·refine view (Qat _ _) rfl ?_;exact JP1.a h (Le.tz 1 0 rfl rfl rfl)
        ·refine view (Qat _ _) rfl ?_;refine Qad h (fun hb h=>?_) (fun hb h=>?_)
         ·refine Qad h (fun hb h=>?_) (fun hb h=>?_)
          ·exact JP1.a h (Le.tz 1 0 rfl rfl rfl)
          ·refine view (Qat _ _) rfl ?_;exact JP1.a h (Le.tz 1 0 rfl rfl rfl)
         ·exact JP1.a h (Le.tz 1 0 rfl rfl rfl)
       ·refine view (Qat _ _) rfl ?_;refine Qad h (fun hb h=>?_) (fun hb h=>?_)
        ·refine Qad h (fun hb h=>?_) (fun hb h=>?_)
         ·refine bT ?_;refine Qad h (fun hb h=>?_) (fun hb h=>?_)
          ·exact JP1.a h (Le.tz 1 0 rfl rfl rfl)
          ·refine view (Qat _ _) rfl ?_;exact JP1.a h (Le.tz 1 0 rfl rfl rfl)
         ·refine view (Qat _ _) rfl ?_;refine Qad h (fun hb h=>?_) (fun hb h=>?_)
          ·refine Qad h (fun hb h=>?_) (fun hb h=>?_)
           ·exact JP1.a h (Le.tz 1 0 rfl rfl rfl)
           ·refine view (Qat _ _) rfl ?_;exact JP1.a h (Le.tz 1 0 rfl rfl rfl)
          ·exact JP1.a h (Le.tz 1 0 rfl rfl rfl)
        ·refine bF ?_;exact JP1.a h (Le.tz 1 0 rfl rfl rfl)
      ·refine bF ?_;refine bF ?_;exact JP1.a h (Le.tz 1 0 rfl rfl rfl)
    ·refine bF ?_;refine bF ?_;refine bF ?_;exact JP1.a h (Le.tz 1 0 rfl rfl rfl)
  ·refine Qad h (fun hb h=>?_) (fun hb h=>?_)
   ·refine Qad h (fun hb h=>?_) (fun hb h=>?_)
    ·refine bT ?_;refine Qad h (fun hb h=>?_) (fun hb h=>?_)
     ·refine bT ?_;refine Qad h (fun hb h=>?_) (fun hb h=>?_)
      ·refine bT ?_;refine Qad h (fun hb h=>?_) (fun hb h=>?_)
       ·refine bT ?_;refine Qad h (fun hb h=>?_) (fun hb h=>?_)
        ·exact JP1.a h (Le.tz 1 0 rfl rfl rfl)
        ·refine view (Qat _ _) rfl ?_;exact JP1.a h (Le.tz 1 0 rfl rfl rfl)
       ·refine view (Qat _ _) rfl ?_;refine Qad h (fun hb h=>?_) (fun hb h=>?_)
        ·refine Qad h (fun hb h=>?_) (fun hb h=>?_)
         ·exact JP1.a h (Le.tz 1 0 rfl rfl rfl)
         ·refine view (Qat _ _) rfl ?_;exact JP1.a h (Le.tz 1 0 rfl rfl rfl)
        ·exact JP1.a h (Le.tz 1 0 rfl rfl rfl)
      ·refine view (Qat _ _) rfl ?_;refine Qad h (fun hb h=>?_) (fun hb h=>?_)
       ·refine Qad h (fun hb h=>?_) (fun hb h=>?_)
        ·refine bT ?_;refine Qad h (fun hb h=>?_) (fun hb h=>?_)
         ·exact JP1.a h (Le.tz 1 0 rfl rfl rfl)
         ·refine view (Qat _ _) rfl ?_;exact JP1.a h (Le.tz 1 0 rfl rfl rfl)
        ·refine view (Qat _ _) rfl ?_;refine Qad h (fun hb h=>?_) (fun hb h=>?_)
         ·refine Qad h (fun hb h=>?_) (fun hb h=>?_)
          ·exact JP1.a h (Le.tz 1 0 rfl rfl rfl)
          ·refine view (Qat _ _) rfl ?_;exact JP1.a h (Le.tz 1 0 rfl rfl rfl)
         ·exact JP1.a h (Le.tz 1 0 rfl rfl rfl)
       ·refine bF ?_;exact JP1.a h (Le.tz 1 0 rfl rfl rfl)
     ·refine Qad h (fun hb h=>?_) (fun hb h=>?_)
      ·refine Qad h (fun hb h=>?_) (fun hb h=>?_)
       ·refine bT ?_;refine Qad h (fun hb h=>?_) (fun hb h=>?_)
        ·refine bT ?_;refine Qad h (fun hb h=>?_) (fun hb h=>?_)
         ·exact JP1.a h (Le.tz 1 0 rfl rfl rfl)
         ·refine view (Qat _ _) rfl ?_;exact JP1.a h (Le.tz 1 0 rfl rfl rfl)
        ·refine view (Qat _ _) rfl ?_;refine Qad h (fun hb h=>?_) (fun hb h=>?_)
         ·refine Qad h (fun hb h=>?_) (fun hb h=>?_)
          ·exact JP1.a h (Le.tz 1 0 rfl rfl rfl)
          ·refine view (Qat _ _) rfl ?_;exact JP1.a h (Le.tz 1 0 rfl rfl rfl)
         ·exact JP1.a h (Le.tz 1 0 rfl rfl rfl)
       ·refine view (Qat _ _) rfl ?_;refine Qad h (fun hb h=>?_) (fun hb h=>?_)
        ·refine Qad h (fun hb h=>?_) (fun hb h=>?_)
         ·refine bT ?_;refine Qad h (fun hb h=>?_) (fun hb h=>?_)
          ·exact JP1.a h (Le.tz 1 0 rfl rfl rfl)
          ·refine view (Qat _ _) rfl ?_;exact JP1.a h (Le.tz 1 0 rfl rfl rfl)
         ·refine view (Qat _ _) rfl ?_;refine Qad h (fun hb h=>?_) (fun hb h=>?_)
          ·refine Qad h (fun hb h=>?_) (fun hb h=>?_)
           ·exact JP1.a h (Le.tz 1 0 rfl rfl rfl)
           ·refine view (Qat _ _) rfl ?_;exact JP1.a h (Le.tz 1 0 rfl rfl rfl)
          ·exact JP1.a h (Le.tz 1 0 rfl rfl rfl)
        ·refine bF ?_;exact JP1.a h (Le.tz 1 0 rfl rfl rfl)
      ·refine bF ?_;refine bF ?_;exact JP1.a h (Le.tz 1 0 rfl rfl rfl)
    ·refine Qad h (fun hb h=>?_) (fun hb h=>?_)
     ·refine Qad h (fun hb h=>?_) (fun hb h=>?_)
      ·refine bT ?_;refine Qad h (fun hb h=>?_) (fun hb h=>?_)
       ·refine bT ?_;refine Qad h (fun hb h=>?_) (fun hb h=>?_)
        ·refine bT ?_;refine Qad h (fun hb h=>?_) (fun hb h=>?_)
         ·exact JP1.a h (Le.tz 1 0 rfl rfl rfl)
         ·refine view (Qat _ _) rfl ?_;exact JP1.a h (Le.tz 1 0 rfl rfl rfl)
        ·refine view (Qat _ _) rfl ?_;refine Qad h (fun hb h=>?_) (fun hb h=>?_)
         ·refine Qad h (fun hb h=>?_) (fun hb h=>?_)
          ·exact JP1.a h (Le.tz 1 0 rfl rfl rfl)
          ·refine view (Qat _ _) rfl ?_;exact JP1.a h (Le.tz 1 0 rfl rfl rfl)
         ·exact JP1.a h (Le.tz 1 0 rfl rfl rfl)
       ·refine view (Qat _ _) rfl ?_;refine Qad h (fun hb h=>?_) (fun hb h=>?_)
        ·refine Qad h (fun hb h=>?_) (fun hb h=>?_)
         ·refine bT ?_;refine Qad h (fun hb h=>?_) (fun hb h=>?_)
          ·exact JP1.a h (Le.tz 1 0 rfl rfl rfl)
          ·refine view (Qat _ _) rfl ?_;exact JP1.a h (Le.tz 1 0 rfl rfl rfl)
         ·refine view (Qat _ _) rfl ?_;refine Qad h (fun hb h=>?_) (fun hb h=>?_)
          ·refine Qad h (fun hb h=>?_) (fun hb h=>?_)
           ·exact JP1.a h (Le.tz 1 0 rfl rfl rfl)
           ·refine view (Qat _ _) rfl ?_;exact JP1.a h (Le.tz 1 0 rfl rfl rfl)
          ·exact JP1.a h (Le.tz 1 0 rfl rfl rfl)
        ·refine bF ?_;exact JP1.a h (Le.tz 1 0 rfl rfl rfl)
      ·refine Qad h (fun hb h=>?_) (fun hb h=>?_)
       ·refine Qad h (fun hb h=>?_) (fun hb h=>?_)
        ·refine bT ?_;refine Qad h (fun hb h=>?_) (fun hb h=>?_)
         ·refine bT ?_;refine Qad h (fun hb h=>?_) (fun hb h=>?_)
          ·exact JP1.a h (Le.tz 1 0 rfl rfl rfl)
          ·refine view (Qat _ _) rfl ?_;exact JP1.a h (Le.tz 1 0 rfl rfl rfl)
         ·refine view (Qat _ _) rfl ?_;refine Qad h (fun hb h=>?_) (fun hb h=>?_)
          ·refine Qad h (fun hb h=>?_) (fun hb h=>?_)
           ·exact JP1.a h (Le.tz 1 0 rfl rfl rfl)
           ·refine view (Qat _ _) rfl ?_;exact JP1.a h (Le.tz 1 0 rfl rfl rfl)
          ·exact JP1.a h (Le.tz 1 0 rfl rfl rfl)
        ·refine view (Qat _ _) rfl ?_;refine Qad h (fun hb h=>?_) (fun hb h=>?_)
         ·refine Qad h (fun hb h=>?_) (fun hb h=>?_)
          ·refine bT ?_;refine Qad h (fun hb h=>?_) (fun hb h=>?_)
           ·exact JP1.a h (Le.tz 1 0 rfl rfl rfl)
           ·refine view (Qat _ _) rfl ?_;exact JP1.a h (Le.tz 1 0 rfl rfl rfl)
          ·refine view (Qat _ _) rfl ?_;refine Qad h (fun hb h=>?_) (fun hb h=>?_)
           ·refine Qad h (fun hb h=>?_) (fun hb h=>?_)
            ·exact JP1.a h (Le.tz 1 0 rfl rfl rfl)
            ·refine view (Qat _ _) rfl ?_;exact JP1.a h (Le.tz 1 0 rfl rfl rfl)
           ·exact JP1.a h (Le.tz 1 0 rfl rfl rfl)
         ·refine bF ?_;exact JP1.a h (Le.tz 1 0 rfl rfl rfl)
       ·refine bF ?_;refine bF ?_;exact JP1.a h (Le.tz 1 0 rfl rfl rfl)
     ·refine bF ?_;refine bF ?_;refine bF ?_;exact JP1.a h (Le.tz 1 0 rfl rfl rfl)
   ·refine bF ?_;refine bF ?_;refine bF ?_;refine bF ?_;exact JP1.a h (Le.tz 1 0 rfl rfl rfl)
 ·have h:=hk;refine Qam (t:=Qc1) h ?_;exact .refl _
mutual
def Qtn (p0:Qab):Option (Bool) :=
 if(p0.Kind==1) then
  Qm7 p0.Text>>=fun x1 =>
  ( if x1.2 then
    Qea p0 false true false false false>>=fun x3 =>
    some x3
   else
    some false:Option (Bool))>>=fun o2 =>
  some o2
 else
  if(p0.Kind==2) then
   Qea p0 false false true false false>>=fun x4 =>
   some x4
  else
   if(p0.Kind==3) then
    ( if(p0.N==0) then
      Qea p0 false false true false false>>=fun x6 =>
      some x6
     else
      if(p0.N==1) then
       Qea p0 false false true false false>>=fun x7 =>
       some x7
      else
       some false:Option (Bool))>>=fun o5 =>
    some o5
   else
    if(p0.Kind==4) then
     ( Qg6 p0.Name>>=fun x9 =>
      if x9 then
       Qea p0 true false false false false>>=fun x10 =>
       some x10
      else
       some false:Option (Bool))>>=fun o8 =>
     some o8
    else
     if(p0.Kind==5) then
      ( Qhw p0.Name>>=fun x12 =>
       if x12 then
        if((p0.L.length:Int)==1) then
         Qm9 p0.L>>=fun x13 =>
         if x13 then
          Qea p0 true false false true false>>=fun x14 =>
          some x14
         else
          some false
        else
         some false
       else
        some false:Option (Bool))>>=fun o11 =>
      some o11
     else
      if(p0.Kind==6) then
       ( Qg6 p0.Name>>=fun x16 =>
        if x16 then
         if(decide ((p0.L.length:Int)≤3)) then
          Qm9 p0.L>>=fun x17 =>
          if x17 then
           Qea p0 true false false true false>>=fun x18 =>
           some x18
          else
           some false
         else
          some false
        else
         some false:Option (Bool))>>=fun o15 =>
       some o15
      else
       if(p0.Kind==7) then
        ( Qhw p0.Name>>=fun x20 =>
         if x20 then
          Qea p0 true false false false false>>=fun x21 =>
          some x21
         else
          some false:Option (Bool))>>=fun o19 =>
        some o19
       else
        some false
 partial_fixpoint
def Qm9 (p0:(List Qab)):Option (Bool) :=
 (Qio p0 0)>>=fun o1 =>
 match o1 with
 | .inl y2 =>
  some true
 | .inr y3 =>
  some false
 partial_fixpoint
def Qio (p0:(List Qab)) (v3:Int):Option (Unit⊕Unit) :=
 if(decide (v3<(p0.length:Int))) then
  idx p0 v3>>=fun x4 =>
  Qtn x4>>=fun x5 =>
  if(!x5) then
   some (.inr ())
  else
   Qio p0 (wr (v3+1))
 else
  some (.inl ())
 partial_fixpoint
end
theorem Qabw:(∀ (p0:Qab) (o:Bool),Qtn p0=some o→PCall Tryz.prog 156 [.agg [iV p0.Kind,sV p0.Name,sV p0.Text,iV p0.N,.sl false (p0.L.map Qaa),.sl false (p0.Then.map Qaa),.sl false (p0.Else.map Qaa)]] (Qfw o))∧(∀ (p0:(List Qab)) (o:Bool),Qm9 p0=some o→PCall Tryz.prog 130 [.sl false (p0.map Qaa)] (Qh1 o))∧(∀ (p0:(List Qab)) (v3:Int) (o1:Unit⊕Unit),Qio p0 v3=some o1→TL (0,0) Tryz.prog 16 Q3k (JP2 (0,0) 16 o1 (.exit 0) (Qr2 p0) .ret (Qr3 p0)) (Qmu p0 v3)):=by
 refine Qtn.mutual_partial_correctness _ _ _ ?_ ?_ ?_
 ·intro Qm9' iQm9 p0 o h;refine PCall.ofB mixed tbOk Qaei Tryz.func156 rfl (by kernel_rfl) (Nat.le_of_ble_eq_true rfl) ?_;refine Qad h (fun hb h=>?_) (fun hb h=>?_)
  ·refine Qal [sV p0.Text] Qmr h (fun x1 hy=>(Qabt p0.Text x1 hy)) (fun x1 hy h=>?_);refine Qai h (fun o2 ho hk=>?_);refine Exists.intro (JP1 _ _ o2 .normal (Q7o p0)) (And.intro ?_ (Qay ?_))
   ·have h:=ho;refine Qad h (fun hb h=>?_) (fun hb h=>?_)
    ·refine Qal [.agg [iV p0.Kind,sV p0.Name,sV p0.Text,iV p0.N,.sl false (p0.L.map Qaa),.sl false (p0.Then.map Qaa),.sl false (p0.Else.map Qaa)],bV false,bV true,bV false,bV false,bV false] Qc1 h (fun x3 hy=>(Qc5 p0 false true false false false x3 hy)) (fun x3 hy h=>?_);exact JP1.a h (Le.tz 1 0 rfl rfl rfl)
    ·exact JP1.a h (Le.tz 1 0 rfl rfl rfl)
   ·have h:=hk;refine Qam (t:=Qfw) h ?_;exact .refl _
  ·refine Qad h (fun hb h=>?_) (fun hb h=>?_)
   ·refine Qal [.agg [iV p0.Kind,sV p0.Name,sV p0.Text,iV p0.N,.sl false (p0.L.map Qaa),.sl false (p0.Then.map Qaa),.sl false (p0.Else.map Qaa)],bV false,bV false,bV true,bV false,bV false] Qc1 h (fun x4 hy=>(Qc5 p0 false false true false false x4 hy)) (fun x4 hy h=>?_);refine Qam (t:=Qfw) h ?_;exact .refl _
   ·refine Qad h (fun hb h=>?_) (fun hb h=>?_)
    ·refine Qai h (fun o5 ho hk=>?_);refine Exists.intro (JP1 _ _ o5 .normal (Q7p p0)) (And.intro ?_ (Qay ?_))
     ·have h:=ho;refine Qad h (fun hb h=>?_) (fun hb h=>?_)
      ·refine bT ?_;refine Qal [.agg [iV p0.Kind,sV p0.Name,sV p0.Text,iV p0.N,.sl false (p0.L.map Qaa),.sl false (p0.Then.map Qaa),.sl false (p0.Else.map Qaa)],bV false,bV false,bV true,bV false,bV false] Qc1 h (fun x6 hy=>(Qc5 p0 false false true false false x6 hy)) (fun x6 hy h=>?_);exact JP1.a h (Le.tz 1 0 rfl rfl rfl)
      ·refine Qad h (fun hb h=>?_) (fun hb h=>?_)
       ·refine Qal [.agg [iV p0.Kind,sV p0.Name,sV p0.Text,iV p0.N,.sl false (p0.L.map Qaa),.sl false (p0.Then.map Qaa),.sl false (p0.Else.map Qaa)],bV false,bV false,bV true,bV false,bV false] Qc1 h (fun x7 hy=>(Qc5 p0 false false true false false x7 hy)) (fun x7 hy h=>?_);exact JP1.a h (Le.tz 1 0 rfl rfl rfl)
       ·exact JP1.a h (Le.tz 1 0 rfl rfl rfl)
     ·have h:=hk;refine Qam (t:=Qfw) h ?_;exact .refl _
    ·refine Qad h (fun hb h=>?_) (fun hb h=>?_)
     ·refine Qai h (fun o8 ho hk=>?_);refine Exists.intro (JP1 _ _ o8 .normal (Q7q p0)) (And.intro ?_ (Qay ?_))
      ·have h:=ho;refine Qal [sV p0.Name] Qg3 h (fun x9 hy=>(Qke p0.Name x9 hy)) (fun x9 hy h=>?_);refine Qad h (fun hb h=>?_) (fun hb h=>?_)
       ·refine Qal [.agg [iV p0.Kind,sV p0.Name,sV p0.Text,iV p0.N,.sl false (p0.L.map Qaa),.sl false (p0.Then.map Qaa),.sl false (p0.Else.map Qaa)],bV true,bV false,bV false,bV false,bV false] Qc1 h (fun x10 hy=>(Qc5 p0 true false false false false x10 hy)) (fun x10 hy h=>?_);exact JP1.a h (Le.tz 1 0 rfl rfl rfl)
       ·exact JP1.a h (Le.tz 1 0 rfl rfl rfl)
      ·have h:=hk;refine Qam (t:=Qfw) h ?_;exact .refl _
     ·refine Qad h (fun hb h=>?_) (fun hb h=>?_)
      ·refine Qai h (fun o11 ho hk=>?_);refine Exists.intro (JP1 _ _ o11 .normal (Q7r p0)) (And.intro ?_ (Qay ?_))
       ·have h:=ho;refine Qal [sV p0.Name] Qg2 h (fun x12 hy=>(Qm8 p0.Name x12 hy)) (fun x12 hy h=>?_);refine Qad h (fun hb h=>?_) (fun hb h=>?_)
        ·refine view (Qat _ _) rfl ?_;refine Qad h (fun hb h=>?_) (fun hb h=>?_)
         ·refine Qal [.sl false (p0.L.map Qaa)] Qh1 h (fun x13 hy=>(iQm9 p0.L x13 hy)) (fun x13 hy h=>?_);refine Qad h (fun hb h=>?_) (fun hb h=>?_)
          ·refine Qal [.agg [iV p0.Kind,sV p0.Name,sV p0.Text,iV p0.N,.sl false (p0.L.map Qaa),.sl false (p0.Then.map Qaa),.sl false (p0.Else.map Qaa)],bV true,bV false,bV false,bV true,bV false] Qc1 h (fun x14 hy=>(Qc5 p0 true false false true false x14 hy)) (fun x14 hy h=>?_);exact JP1.a h (Le.tz 1 0 rfl rfl rfl)
          ·exact JP1.a h (Le.tz 1 0 rfl rfl rfl)
         ·refine bF ?_;exact JP1.a h (Le.tz 1 0 rfl rfl rfl)
        ·refine bF ?_;refine bF ?_;exact JP1.a h (Le.tz 1 0 rfl rfl rfl)
       ·have h:=hk;refine Qam (t:=Qfw) h ?_;exact .refl _
      ·refine Qad h (fun hb h=>?_) (fun hb h=>?_)
       ·refine Qai h (fun o15 ho hk=>?_);refine Exists.intro (JP1 _ _ o15 .normal (Q7s p0)) (And.intro ?_ (Qay ?_))
        ·have h:=ho;refine Qal [sV p0.Name] Qg3 h (fun x16 hy=>(Qke p0.Name x16 hy)) (fun x16 hy h=>?_);refine Qad h (fun hb h=>?_) (fun hb h=>?_)
         ·refine view (Qat _ _) rfl ?_;refine Qad h (fun hb h=>?_) (fun hb h=>?_)
          ·refine Qal [.sl false (p0.L.map Qaa)] Qh1 h (fun x17 hy=>(iQm9 p0.L x17 hy)) (fun x17 hy h=>?_);refine Qad h (fun hb h=>?_) (fun hb h=>?_)
           ·refine Qal [.agg [iV p0.Kind,sV p0.Name,sV p0.Text,iV p0.N,.sl false (p0.L.map Qaa),.sl false (p0.Then.map Qaa),.sl false (p0.Else.map Qaa)],bV true,bV false,bV false,bV true,bV false] Qc1 h (fun x18 hy=>(Qc5 p0 true false false true false x18 hy)) (fun x18 hy h=>?_);exact JP1.a h (Le.tz 1 0 rfl rfl rfl)
           ·exact JP1.a h (Le.tz 1 0 rfl rfl rfl)
          ·refine bF ?_;exact JP1.a h (Le.tz 1 0 rfl rfl rfl)
         ·refine bF ?_;refine bF ?_;exact JP1.a h (Le.tz 1 0 rfl rfl rfl)
        ·have h:=hk;refine Qam (t:=Qfw) h ?_;exact .refl _
       ·refine Qad h (fun hb h=>?_) (fun hb h=>?_)
        ·refine Qai h (fun o19 ho hk=>?_);refine Exists.intro (JP1 _ _ o19 .normal (Q7t p0)) (And.intro ?_ (Qay ?_))
         ·have h:=ho;refine Qal [sV p0.Name] Qg2 h (fun x20 hy=>(Qm8 p0.Name x20 hy)) (fun x20 hy h=>?_);refine Qad h (fun hb h=>?_) (fun hb h=>?_)
          ·refine Qal [.agg [iV p0.Kind,sV p0.Name,sV p0.Text,iV p0.N,.sl false (p0.L.map Qaa),.sl false (p0.Then.map Qaa),.sl false (p0.Else.map Qaa)],bV true,bV false,bV false,bV false,bV false] Qc1 h (fun x21 hy=>(Qc5 p0 true false false false false x21 hy)) (fun x21 hy h=>?_);exact JP1.a h (Le.tz 1 0 rfl rfl rfl)
          ·exact JP1.a h (Le.tz 1 0 rfl rfl rfl)
         ·have h:=hk;refine Qam (t:=Qfw) h ?_;exact .refl _
        ·refine Qam (t:=Qfw) h ?_;exact .refl _
 ·intro Qio' iQio p0 o h;refine PCall.ofB mixed tbOk Qyj Tryz.func130 rfl (by kernel_rfl) (Nat.le_of_ble_eq_true rfl) ?_;refine Qai h (fun o1 ho hk=>?_);refine Exists.intro (JP2 _ _ o1 (.exit 0) (Qr2 p0) .ret (Qr3 p0)) (And.intro (Qhe (τ := Qmu p0 0) ?_ (TL.loop (iQio p0 0 o1 ho))) (Qf3 (fun y2 hy=>?_) (fun y3 hy=>?_)))
  ·exact Le.tz 0 0 rfl rfl rfl
  ·have h:=(by rw[hy] at hk; exact hk);refine Qam (t:=Qh1) h ?_;exact .refl _
  ·have h:=(by rw[hy] at hk; exact hk);refine Qam (t:=Qh1) h ?_;exact .refl _
 ·intro Qtn' Qio' iQtn iQio p0 v3 o1 h;refine TL.round (Qao mixed tbOk (lv:=Qyj) _ _ _ ?_);refine view (Qat _ _) rfl ?_;refine Qad h (fun hb h=>?_) (fun hb h=>?_)
  ·refine Qa2 (l:=p0) (c:=Qaa) (c' := Qa0) h Qaq (fun _=>rfl) (by decide) (fun x4 hi h=>?_);refine Qal [.agg [iV x4.Kind,sV x4.Name,sV x4.Text,iV x4.N,.sl false (x4.L.map Qaa),.sl false (x4.Then.map Qaa),.sl false (x4.Else.map Qaa)]] Qfw h (fun x5 hy=>(iQtn x4 x5 hy)) (fun x5 hy h=>?_);refine Qad h (fun hb h=>?_) (fun hb h=>?_)
   ·exact JP2.b h (Le.tz 0 0 rfl rfl rfl)
   ·refine TL.le (τ := Qmu p0 (wr (v3+1))) ?_ ((iQio p0 (wr (v3+1)) _ h));exact Le.tz 0 0 rfl rfl rfl
  ·exact JP2.a h (Le.tz 0 0 rfl rfl rfl)
theorem Qabx:∀ (p0:(List Qab)) (o:Bool),Qm9 p0=some o→PCall Tryz.prog 130 [.sl false (p0.map Qaa)] (Qh1 o):=fun p0=>Qabw.2.1 p0
def Qe7 (p0:(List UInt8)) (p1:(List UInt8)) (v5:Int):Option (Unit⊕Unit) :=
 if(decide (v5<(p0.length:Int))) then
  Qeu p0 p1 v5>>=fun x4 =>
  if x4 then
   some (.inr ())
  else
   Qe7 p0 p1 (wr (v5+1))
 else
  some (.inl ())
 partial_fixpoint
theorem Qahv:∀ (p0:(List UInt8)) (p1:(List UInt8)),(∀ (v5:Int) (o1:Unit⊕Unit),Qe7 p0 p1 v5=some o1→TL (0,0) Tryz.prog 16 Q1f (JP2 (0,0) 16 o1 (.exit 0) (Qql p0 p1) .ret (Qqm p0 p1)) (Qli p0 p1 v5)):=by
 intro p0 p1;refine Qe7.partial_correctness p0 p1 _ ?_;intro Qe7' iQe7 v5 o1 h;refine TL.round (Qao mixed tbOk (lv:=Qwe) _ _ _ ?_);refine vrfl ?_;refine Qad h (fun hb h=>?_) (fun hb h=>?_)
 ·refine Qal [sV p0,sV p1,iV v5] Qik h (fun x4 hy=>(Ql5 p0 p1 v5 x4 hy)) (fun x4 hy h=>?_);refine Qad h (fun hb h=>?_) (fun hb h=>?_)
  ·exact JP2.b h (Le.tz 0 0 rfl rfl rfl)
  ·refine TL.le (τ := Qli p0 p1 (wr (v5+1))) ?_ ((iQe7 (wr (v5+1)) _ h));exact Le.tz 0 0 rfl rfl rfl
 ·exact JP2.a h (Le.tz 0 0 rfl rfl rfl)
def Qo6 (p0:(List UInt8)) (p1:(List UInt8)):Option (Bool) :=
 (Qe7 p0 p1 0)>>=fun o1 =>
 match o1 with
 | .inl y2 =>
  some false
 | .inr y3 =>
  some true
theorem Q8l:∀ (p0:(List UInt8)) (p1:(List UInt8)) (o:Bool),Qo6 p0 p1=some o→PCall Tryz.prog 131 [sV p0,sV p1] (Qno o):=by
 intro p0 p1 o h;unfold Qo6 at h;refine PCall.ofB mixed tbOk Qwe Tryz.func131 rfl (by kernel_rfl) (Nat.le_of_ble_eq_true rfl) ?_;refine Qai h (fun o1 ho hk=>?_);refine Exists.intro (JP2 _ _ o1 (.exit 0) (Qql p0 p1) .ret (Qqm p0 p1)) (And.intro (Qhe (τ := Qli p0 p1 0) ?_ (TL.loop (Qahv p0 p1 0 o1 ho))) (Qf3 (fun y2 hy=>?_) (fun y3 hy=>?_)))
 ·exact Le.tz 0 0 rfl rfl rfl
 ·have h:=(by rw[hy] at hk; exact hk);refine Qam (t:=Qno) h ?_;exact .refl _
 ·have h:=(by rw[hy] at hk; exact hk);refine Qam (t:=Qno) h ?_;exact .refl _
mutual
def Qi6 (p0:(List Qab)) (p1:Bool):Option (Bool) :=
 (Qgd p0 p1 0)>>=fun o1 =>
 match o1 with
 | .inl y2 =>
  some true
 | .inr y3 =>
  some false
 partial_fixpoint
def Qgd (p0:(List Qab)) (p1:Bool) (v5:Int):Option (Unit⊕Unit) :=
 if(decide (v5<(p0.length:Int))) then
  idx p0 v5>>=fun x4 =>
  Qwj x4>>=fun x5 =>
  if(!x5) then
   some (.inr ())
  else
   idx p0 v5>>=fun x6 =>
   if(x6.Kind != 8) then
    Qgd p0 p1 (wr (v5+1))
   else
    idx p0 v5>>=fun x7 =>
    ( if(!(v5==(wr ((p0.length:Int)-1)))) then
      idx p0 (wr (v5+1))>>=fun x9 =>
      if(x9.Kind==8) then
       some true
      else
       if(!(v5==(wr ((p0.length:Int)-1)))) then
        idx x7.Text (wr ((x7.Text.length:Int)-1))>>=fun x10 =>
        some ((x10.toNat:Int)==123)
       else
        if p1 then
         idx x7.Text (wr ((x7.Text.length:Int)-1))>>=fun x11 =>
         some ((x11.toNat:Int)==123)
        else
         some false
     else
      if(!(v5==(wr ((p0.length:Int)-1)))) then
       idx x7.Text (wr ((x7.Text.length:Int)-1))>>=fun x12 =>
       some ((x12.toNat:Int)==123)
      else
       if p1 then
        idx x7.Text (wr ((x7.Text.length:Int)-1))>>=fun x13 =>
        some ((x13.toNat:Int)==123)
       else
        some false:Option (Bool))>>=fun o8 =>
    if o8 then
     some (.inr ())
    else
     Qgd p0 p1 (wr (v5+1))
 else
  some (.inl ())
 partial_fixpoint
def Qwj (p0:Qab):Option (Bool) :=
 ( if((p0.L.length:Int)==1) then
   Qm9 p0.L>>=fun x2 =>
   some x2
  else
   some false:Option (Bool))>>=fun o1 =>
 if(p0.Kind==8) then
  ( if(!(p0.Text==[])) then
    Qo6 p0.Text [123,123]>>=fun x4 =>
    if(!x4) then
     Qea p0 false true false false false>>=fun x5 =>
     some x5
    else
     some false
   else
    some false:Option (Bool))>>=fun o3 =>
  some o3
 else
  if(p0.Kind==9) then
   ( if o1 then
     Qea p0 false false false true false>>=fun x7 =>
     some x7
    else
     some false:Option (Bool))>>=fun o6 =>
   some o6
  else
   if(p0.Kind==10) then
    ( if o1 then
      Qi6 p0.Then true>>=fun x9 =>
      if x9 then
       Qi6 p0.Else true>>=fun x10 =>
       if x10 then
        Qea p0 false false false true true>>=fun x11 =>
        some x11
       else
        some false
      else
       some false
     else
      some false:Option (Bool))>>=fun o8 =>
    some o8
   else
    ( if(p0.Kind==11) then
      some (p0.Kind==11)
     else
      some (p0.Kind==12):Option (Bool))>>=fun o12 =>
    if o12 then
     ( Qg6 p0.Name>>=fun x14 =>
      if x14 then
       if o1 then
        Qi6 p0.Then true>>=fun x15 =>
        if x15 then
         Qea p0 true false false true true>>=fun x16 =>
         some x16
        else
         some false
       else
        some false
      else
       some false:Option (Bool))>>=fun o13 =>
     some o13
    else
     if(p0.Kind==13) then
      ( Qg6 p0.Name>>=fun x18 =>
       if x18 then
        if o1 then
         Qea p0 true false false true false>>=fun x19 =>
         some x19
        else
         some false
       else
        some false:Option (Bool))>>=fun o17 =>
      some o17
     else
      some false
 partial_fixpoint
end
theorem Q8m:(∀ (p0:(List Qab)) (p1:Bool) (o:Bool),Qi6 p0 p1=some o→PCall Tryz.prog 78 [.sl false (p0.map Qaa),bV p1] (Qf9 o))∧(∀ (p0:(List Qab)) (p1:Bool) (v5:Int) (o1:Unit⊕Unit),Qgd p0 p1 v5=some o1→TL (0,0) Tryz.prog 62 Q3j (JP2 (0,0) 62 o1 (.exit 0) (Qr0 p0 p1) .ret (Qr1 p0 p1)) (Qiy p0 p1 v5))∧(∀ (p0:Qab) (o:Bool),Qwj p0=some o→PCall Tryz.prog 103 [.agg [iV p0.Kind,sV p0.Name,sV p0.Text,iV p0.N,.sl false (p0.L.map Qaa),.sl false (p0.Then.map Qaa),.sl false (p0.Else.map Qaa)]] (Qim o)):=by
 refine Qi6.mutual_partial_correctness _ _ _ ?_ ?_ ?_
 ·intro Qgd' iQgd p0 p1 o h;refine PCall.ofB mixed tbOk Qyi Tryz.func78 rfl (by kernel_rfl) (Nat.le_of_ble_eq_true rfl) ?_;refine Qai h (fun o1 ho hk=>?_);refine Exists.intro (JP2 _ _ o1 (.exit 0) (Qr0 p0 p1) .ret (Qr1 p0 p1)) (And.intro (Qhe (τ := Qiy p0 p1 0) ?_ (TL.loop (iQgd p0 p1 0 o1 ho))) (Qf3 (fun y2 hy=>?_) (fun y3 hy=>?_)))
  ·exact Le.tz 0 0 rfl rfl rfl
  ·have h:=(by rw[hy] at hk; exact hk);refine Qam (t:=Qf9) h ?_;exact .refl _
  ·have h:=(by rw[hy] at hk; exact hk);refine Qam (t:=Qf9) h ?_;exact .refl _
 ·intro Qgd' Qwj' iQgd iQwj p0 p1 v5 o1 h;refine TL.round (Qao mixed tbOk (lv:=Qyi) _ _ _ ?_);refine view (Qat _ _) rfl ?_;refine Qad h (fun hb h=>?_) (fun hb h=>?_)
  ·refine Qa2 (l:=p0) (c:=Qaa) (c' := Qa0) h Qaq (fun _=>rfl) (by decide) (fun x4 hi h=>?_);refine Qal [.agg [iV x4.Kind,sV x4.Name,sV x4.Text,iV x4.N,.sl false (x4.L.map Qaa),.sl false (x4.Then.map Qaa),.sl false (x4.Else.map Qaa)]] Qim h (fun x5 hy=>(iQwj x4 x5 hy)) (fun x5 hy h=>?_);refine Qad h (fun hb h=>?_) (fun hb h=>?_)
   ·exact JP2.b h (Le.tz 0 0 rfl rfl rfl)
   ·refine Qa2 (l:=p0) (c:=Qaa) (c' := Qa0) h Qaq (fun _=>rfl) (by decide) (fun x6 hi h=>?_);refine Qad h (fun hb h=>?_) (fun hb h=>?_)
    ·refine TL.le (τ := Qiy p0 p1 (wr (v5+1))) ?_ ((iQgd p0 p1 (wr (v5+1)) _ h));exact Le.tz 0 0 rfl rfl rfl
    ·refine Qa2 (l:=p0) (c:=Qaa) (c' := Qa0) h Qaq (fun _=>rfl) (by decide) (fun x7 hi h=>?_);refine view (Qat _ _) rfl ?_;refine Qai h (fun o8 ho hk=>?_);refine Exists.intro (JP1 _ _ o8 .normal (Q3i p0 p1 v5)) (And.intro ?_ (Qay ?_))
     ·have h:=ho;refine Qad h (fun hb h=>?_) (fun hb h=>?_)
      ·refine Qa2 (l:=p0) (c:=Qaa) (c' := Qa0) h Qaq (fun _=>rfl) (by decide) (fun x9 hi h=>?_);refine Qad h (fun hb h=>?_) (fun hb h=>?_)
       ·exact JP1.a h (Le.tz 0 0 rfl rfl rfl)
       ·refine Qad h (fun hb h=>?_) (fun hb h=>?_)
        ·refine bT ?_;refine vrfl ?_;refine Qda h (fun x10 hi h=>?_);exact JP1.a h (Le.tz 0 0 rfl rfl rfl)
        ·refine Qad h (fun hb h=>?_) (fun hb h=>?_)
         ·refine vrfl ?_;refine Qda h (fun x11 hi h=>?_);exact JP1.a h (Le.tz 0 0 rfl rfl rfl)
         ·exact JP1.a h (Le.tz 0 0 rfl rfl rfl)
      ·refine bF ?_;refine Qad h (fun hb h=>?_) (fun hb h=>?_)
       ·refine bT ?_;refine vrfl ?_;refine Qda h (fun x12 hi h=>?_);exact JP1.a h (Le.tz 0 0 rfl rfl rfl)
       ·refine Qad h (fun hb h=>?_) (fun hb h=>?_)
        ·refine vrfl ?_;refine Qda h (fun x13 hi h=>?_);exact JP1.a h (Le.tz 0 0 rfl rfl rfl)
        ·exact JP1.a h (Le.tz 0 0 rfl rfl rfl)
     ·have h:=hk;refine Qad h (fun hb h=>?_) (fun hb h=>?_)
      ·exact JP2.b h (Le.tz 0 0 rfl rfl rfl)
      ·refine TL.le (τ := Qiy p0 p1 (wr (v5+1))) ?_ ((iQgd p0 p1 (wr (v5+1)) _ h));exact Le.tz 0 0 rfl rfl rfl
  ·exact JP2.a h (Le.tz 0 0 rfl rfl rfl)
 ·intro Qi6' iQi6 p0 o h;refine PCall.ofB mixed tbOk Qaej Tryz.func103 rfl (by kernel_rfl) (Nat.le_of_ble_eq_true rfl) ?_;refine Qai h (fun o1 ho hk=>?_);refine Exists.intro (JP1 _ _ o1 .normal (Q7u p0)) (And.intro ?_ (Qay ?_))
  ·have h:=ho;refine view (Qat _ _) rfl ?_;refine Qad h (fun hb h=>?_) (fun hb h=>?_)
   ·refine Qal [.sl false (p0.L.map Qaa)] Qh1 h (fun x2 hy=>(Qabx p0.L x2 hy)) (fun x2 hy h=>?_);exact JP1.a h (Le.tz 1 0 rfl rfl rfl)
   ·exact JP1.a h (Le.tz 1 0 rfl rfl rfl)
  ·have h:=hk;refine Qad h (fun hb h=>?_) (fun hb h=>?_)
   ·refine Qai h (fun o3 ho hk=>?_);refine Exists.intro (JP1 _ _ o3 .normal (Q7v p0)) (And.intro ?_ (Qay ?_))
    ·have h:=ho;refine Qad h (fun hb h=>?_) (fun hb h=>?_)
     ·refine Qal [sV p0.Text,sV [123,123]] Qno h (fun x4 hy=>(Q8l p0.Text [123,123] x4 hy)) (fun x4 hy h=>?_);refine Qad h (fun hb h=>?_) (fun hb h=>?_)
      ·refine Qal [.agg [iV p0.Kind,sV p0.Name,sV p0.Text,iV p0.N,.sl false (p0.L.map Qaa),.sl false (p0.Then.map Qaa),.sl false (p0.Else.map Qaa)],bV false,bV true,bV false,bV false,bV false] Qc1 h (fun x5 hy=>(Qc5 p0 false true false false false x5 hy)) (fun x5 hy h=>?_);exact JP1.a h (Le.tz 1 0 rfl rfl rfl)
      ·exact JP1.a h (Le.tz 1 0 rfl rfl rfl)
     ·refine bF ?_;exact JP1.a h (Le.tz 1 0 rfl rfl rfl)
    ·have h:=hk;refine Qam (t:=Qim) h ?_;exact .refl _
   ·refine Qad h (fun hb h=>?_) (fun hb h=>?_)
    ·refine Qai h (fun o6 ho hk=>?_);refine Exists.intro (JP1 _ _ o6 .normal (Q7w p0)) (And.intro ?_ (Qay ?_))
     ·have h:=ho;refine Qad h (fun hb h=>?_) (fun hb h=>?_)
      ·refine Qal [.agg [iV p0.Kind,sV p0.Name,sV p0.Text,iV p0.N,.sl false (p0.L.map Qaa),.sl false (p0.Then.map Qaa),.sl false (p0.Else.map Qaa)],bV false,bV false,bV false,bV true,bV false] Qc1 h (fun x7 hy=>(Qc5 p0 false false false true false x7 hy)) (fun x7 hy h=>?_);exact JP1.a h (Le.tz 1 0 rfl rfl rfl)
      ·exact JP1.a h (Le.tz 1 0 rfl rfl rfl)
     ·have h:=hk;refine Qam (t:=Qim) h ?_;exact .refl _
    ·refine Qad h (fun hb h=>?_) (fun hb h=>?_)
     ·refine Qai h (fun o8 ho hk=>?_);refine Exists.intro (JP1 _ _ o8 .normal (Q7x p0)) (And.intro ?_ (Qay ?_))
      ·have h:=ho;refine Qad h (fun hb h=>?_) (fun hb h=>?_)
       ·refine Qal [.sl false (p0.Then.map Qaa),bV true] Qf9 h (fun x9 hy=>(iQi6 p0.Then true x9 hy)) (fun x9 hy h=>?_);refine Qad h (fun hb h=>?_) (fun hb h=>?_)
        ·refine Qal [.sl false (p0.Else.map Qaa),bV true] Qf9 h (fun x10 hy=>(iQi6 p0.Else true x10 hy)) (fun x10 hy h=>?_);refine Qad h (fun hb h=>?_) (fun hb h=>?_)
         ·refine Qal [.agg [iV p0.Kind,sV p0.Name,sV p0.Text,iV p0.N,.sl false (p0.L.map Qaa),.sl false (p0.Then.map Qaa),.sl false (p0.Else.map Qaa)],bV false,bV false,bV false,bV true,bV true] Qc1 h (fun x11 hy=>(Qc5 p0 false false false true true x11 hy)) (fun x11 hy h=>?_);exact JP1.a h (Le.tz 1 0 rfl rfl rfl)
         ·exact JP1.a h (Le.tz 1 0 rfl rfl rfl)
        ·refine bF ?_;exact JP1.a h (Le.tz 1 0 rfl rfl rfl)
       ·refine bF ?_;refine bF ?_;exact JP1.a h (Le.tz 1 0 rfl rfl rfl)
      ·have h:=hk;refine Qam (t:=Qim) h ?_;exact .refl _
     ·refine Qai h (fun o12 ho hk=>?_);refine Exists.intro (JP1 _ _ o12 .normal (Q7y p0 o1)) (And.intro ?_ (Qay ?_))
      ·have h:=ho;refine Qad h (fun hb h=>?_) (fun hb h=>?_)
       ·exact JP1.a h (Le.tz 1 0 rfl rfl rfl)
       ·exact JP1.a h (Le.tz 1 0 rfl rfl rfl)
      ·have h:=hk;refine Qad h (fun hb h=>?_) (fun hb h=>?_)
       ·refine Qai h (fun o13 ho hk=>?_);refine Exists.intro (JP1 _ _ o13 .normal (Q7z p0)) (And.intro ?_ (Qay ?_))
        ·have h:=ho;refine Qal [sV p0.Name] Qg3 h (fun x14 hy=>(Qke p0.Name x14 hy)) (fun x14 hy h=>?_);refine Qad h (fun hb h=>?_) (fun hb h=>?_)
         ·refine Qad h (fun hb h=>?_) (fun hb h=>?_)
          ·refine Qal [.sl false (p0.Then.map Qaa),bV true] Qf9 h (fun x15 hy=>(iQi6 p0.Then true x15 hy)) (fun x15 hy h=>?_);refine Qad h (fun hb h=>?_) (fun hb h=>?_)
           ·refine Qal [.agg [iV p0.Kind,sV p0.Name,sV p0.Text,iV p0.N,.sl false (p0.L.map Qaa),.sl false (p0.Then.map Qaa),.sl false (p0.Else.map Qaa)],bV true,bV false,bV false,bV true,bV true] Qc1 h (fun x16 hy=>(Qc5 p0 true false false true true x16 hy)) (fun x16 hy h=>?_);exact JP1.a h (Le.tz 1 0 rfl rfl rfl)
           ·exact JP1.a h (Le.tz 1 0 rfl rfl rfl)
          ·refine bF ?_;exact JP1.a h (Le.tz 1 0 rfl rfl rfl)
         ·refine bF ?_;refine bF ?_;exact JP1.a h (Le.tz 1 0 rfl rfl rfl)
        ·have h:=hk;refine Qam (t:=Qim) h ?_;exact .refl _
       ·refine Qad h (fun hb h=>?_) (fun hb h=>?_)
        ·refine Qai h (fun o17 ho hk=>?_);refine Exists.intro (JP1 _ _ o17 .normal (Q70 p0)) (And.intro ?_ (Qay ?_))
         ·have h:=ho;refine Qal [sV p0.Name] Qg3 h (fun x18 hy=>(Qke p0.Name x18 hy)) (fun x18 hy h=>?_);refine Qad h (fun hb h=>?_) (fun hb h=>?_)
          ·refine Qad h (fun hb h=>?_) (fun hb h=>?_)
           ·refine Qal [.agg [iV p0.Kind,sV p0.Name,sV p0.Text,iV p0.N,.sl false (p0.L.map Qaa),.sl false (p0.Then.map Qaa),.sl false (p0.Else.map Qaa)],bV true,bV false,bV false,bV true,bV false] Qc1 h (fun x19 hy=>(Qc5 p0 true false false true false x19 hy)) (fun x19 hy h=>?_);exact JP1.a h (Le.tz 1 0 rfl rfl rfl)
           ·exact JP1.a h (Le.tz 1 0 rfl rfl rfl)
          ·refine bF ?_;exact JP1.a h (Le.tz 1 0 rfl rfl rfl)
         ·have h:=hk;refine Qam (t:=Qim) h ?_;exact .refl _
        ·refine Qam (t:=Qim) h ?_;exact .refl _
theorem Qaby:∀ (p0:(List Qab)) (p1:Bool) (o:Bool),Qi6 p0 p1=some o→PCall Tryz.prog 78 [.sl false (p0.map Qaa),bV p1] (Qf9 o):=fun p0 p1=>Q8m.1 p0 p1
def Qabz (p0:(List Qab)):Option (Bool) :=
 ( Qi6 p0 false>>=fun x2 =>
  if x2 then
   Qe5 p0>>=fun x3 =>
   if(decide (x3≤12)) then
    Qdw p0>>=fun x4 =>
    some (decide (x4≤1024))
   else
    some false
  else
   some false:Option (Bool))>>=fun o1 =>
 some o1
theorem Qakl:∀ (p0:(List Qab)) (o:Bool),Qabz p0=some o→PCall Tryz.prog 44 [.sl false (p0.map Qaa)] (Q7l o):=by
 intro p0 o h;unfold Qabz at h;refine PCall.ofB mixed tbOk Qake Tryz.func44 rfl (by kernel_rfl) (Nat.le_of_ble_eq_true rfl) ?_;refine Qai h (fun o1 ho hk=>?_);refine Exists.intro (JP1 _ _ o1 .normal (Qaeg )) (And.intro ?_ (Qay ?_))
 ·have h:=ho;refine Qal [.sl false (p0.map Qaa),bV false] Qf9 h (fun x2 hy=>(Qaby p0 false x2 hy)) (fun x2 hy h=>?_);refine Qad h (fun hb h=>?_) (fun hb h=>?_)
  ·refine Qal [.sl false (p0.map Qaa)] Qil h (fun x3 hy=>(Q1y p0 x3 hy)) (fun x3 hy h=>?_);refine Qad h (fun hb h=>?_) (fun hb h=>?_)
   ·refine Qal [.sl false (p0.map Qaa)] Qf8 h (fun x4 hy=>(Qyq p0 x4 hy)) (fun x4 hy h=>?_);exact JP1.a h (Le.tz 0 0 rfl rfl rfl)
   ·exact JP1.a h (Le.tz 0 0 rfl rfl rfl)
  ·refine bF ?_;exact JP1.a h (Le.tz 0 0 rfl rfl rfl)
 ·have h:=hk;refine Qam (t:=Q7l) h ?_;exact .refl _
def Qh5 (p0:(List Qae)) (p1:(List UInt8)) (v6:Int):Option (Unit⊕(List Qab)) :=
 if(decide (v6<(p0.length:Int))) then
  idx p0 v6>>=fun x4 =>
  if(x4.Name==p1) then
   idx p0 v6>>=fun x5 =>
   some (.inr x5.L)
  else
   Qh5 p0 p1 (wr (v6+1))
 else
  some (.inl ())
 partial_fixpoint
theorem Qakm:∀ (p0:(List Qae)) (p1:(List UInt8)),(∀ (v6:Int) (o1:Unit⊕(List Qab)),Qh5 p0 p1 v6=some o1→TL (0,0) Tryz.prog 25 Q71 (JP2 (0,0) 25 o1 (.exit 0) (Qut p0 p1) .ret (Quu p0 p1)) (Qod p0 p1 v6)):=by
 intro p0 p1;refine Qh5.partial_correctness p0 p1 _ ?_;intro Qh5' iQh5 v6 o1 h;refine TL.round (Qao mixed tbOk (lv:=Q1g) _ _ _ ?_);refine view (Qat _ _) rfl ?_;refine Qad h (fun hb h=>?_) (fun hb h=>?_)
 ·refine Qa2 (l:=p0) (c:=Qaf) (c' := Qaf) h (fun _=>rfl) (fun _=>rfl) (by decide) (fun x4 hi h=>?_);refine Qad h (fun hb h=>?_) (fun hb h=>?_)
  ·refine Qa2 (l:=p0) (c:=Qaf) (c' := Qaf) h (fun _=>rfl) (fun _=>rfl) (by decide) (fun x5 hi h=>?_);exact JP2.b h (Le.tz 0 0 rfl rfl rfl)
  ·refine TL.le (τ := Qod p0 p1 (wr (v6+1))) ?_ ((iQh5 (wr (v6+1)) _ h));exact Le.tz 0 0 rfl rfl rfl
 ·exact JP2.a h (Le.tz 0 0 rfl rfl rfl)
def Qhx (p0:(List Qae)) (p1:(List UInt8)):Option ((List Qab)×Bool) :=
 (Qh5 p0 p1 0)>>=fun o1 =>
 match o1 with
 | .inl y2 =>
  some ([],false)
 | .inr y3 =>
  some (y3,true)
theorem Qkf:∀ (p0:(List Qae)) (p1:(List UInt8)) (o:(List Qab)×Bool),Qhx p0 p1=some o→PCall Tryz.prog 31 [.sl false (p0.map Qaf),sV p1] (Qg4 o):=by
 intro p0 p1 o h;unfold Qhx at h;refine PCall.ofB mixed tbOk Q1g Tryz.func31 rfl (by kernel_rfl) (Nat.le_of_ble_eq_true rfl) ?_;refine Qai h (fun o1 ho hk=>?_);refine Exists.intro (JP2 _ _ o1 (.exit 0) (Qut p0 p1) .ret (Quu p0 p1)) (And.intro (Qhe (τ := Qod p0 p1 0) ?_ (TL.loop (Qakm p0 p1 0 o1 ho))) (Qf3 (fun y2 hy=>?_) (fun y3 hy=>?_)))
 ·exact Le.tz 0 0 rfl rfl rfl
 ·have h:=(by rw[hy] at hk; exact hk);refine Qam (t:=Qg4) h ?_;exact .tup (xs:=[.sl true [],bV false]) (ys:=[.sl false [],bV false]) (.cons (.not) (.cons (.refl _) (.nil)))
 ·have h:=(by rw[hy] at hk; exact hk);refine Qam (t:=Qg4) h ?_;exact .refl _
def Qge (p0:(List Qae)) (v4:Int):Option (Unit⊕((List UInt8)×Int)) :=
 if(decide (v4<(p0.length:Int))) then
  ( idx p0 v4>>=fun x5 =>
   Qg6 x5.Name>>=fun x6 =>
   if(!x6) then
    some true
   else
    idx p0 v4>>=fun x7 =>
    Qabz x7.L>>=fun x8 =>
    some (!x8):Option (Bool))>>=fun o4 =>
  if o4 then
   idx p0 v4>>=fun x9 =>
   some (.inr (x9.Name,7))
  else
   cutL p0 0 v4>>=fun x10 =>
   idx p0 v4>>=fun x11 =>
   Qhx x10 x11.Name>>=fun x12 =>
   if x12.2 then
    idx p0 v4>>=fun x13 =>
    some (.inr (x13.Name,9))
   else
    Qge p0 (wr (v4+1))
 else
  some (.inl ())
 partial_fixpoint
theorem Qaij:∀ (p0:(List Qae)),(∀ (v4:Int) (o1:Unit⊕((List UInt8)×Int)),Qge p0 v4=some o1→TL (0,0) Tryz.prog 119 Q3m (JP2 (0,0) 119 o1 (.exit 0) (Qr4 p0) .ret (Qr5 p0)) (Qmv p0 v4)):=by
 intro p0;refine Qge.partial_correctness p0 _ ?_;intro Qge' iQge v4 o1 h;refine TL.round (Qao mixed tbOk (lv:=Qkz) _ _ _ ?_);refine view (Qat _ _) rfl ?_;refine Qad h (fun hb h=>?_) (fun hb h=>?_)
 ·refine Qai h (fun o4 ho hk=>?_);refine Exists.intro (JP1 _ _ o4 .normal (Q3l p0 v4)) (And.intro ?_ (Qay ?_))
  ·have h:=ho;refine Qa2 (l:=p0) (c:=Qaf) (c' := Qaf) h (fun _=>rfl) (fun _=>rfl) (by decide) (fun x5 hi h=>?_);refine Qal [sV x5.Name] Qg3 h (fun x6 hy=>(Qke x5.Name x6 hy)) (fun x6 hy h=>?_);refine Qad h (fun hb h=>?_) (fun hb h=>?_)
   ·exact JP1.a h (Le.tz 0 0 rfl rfl rfl)
   ·refine Qa2 (l:=p0) (c:=Qaf) (c' := Qaf) h (fun _=>rfl) (fun _=>rfl) (by decide) (fun x7 hi h=>?_);refine Qal [.sl false (x7.L.map Qaa)] Q7l h (fun x8 hy=>(Qakl x7.L x8 hy)) (fun x8 hy h=>?_);exact JP1.a h (Le.tz 0 0 rfl rfl rfl)
  ·have h:=hk;refine Qad h (fun hb h=>?_) (fun hb h=>?_)
   ·refine Qa2 (l:=p0) (c:=Qaf) (c' := Qaf) h (fun _=>rfl) (fun _=>rfl) (by decide) (fun x9 hi h=>?_);exact JP2.b h (Le.tz 0 0 rfl rfl rfl)
   ·refine And.intro (by decide +kernel) (And.intro rfl ?_);refine Qaa9 (c:=Qaf) none (some v4) h (fun _=>rfl) (fun x10 hi h=>?_);refine Qa2 (l:=p0) (c:=Qaf) (c' := Qaf) h (fun _=>rfl) (fun _=>rfl) (by decide) (fun x11 hi h=>?_);refine Qco [.sl false (x10.map Qaf),sV x11.Name] Qg4 h (fun x12 hy=>(Qkf x10 x11.Name x12 hy)) (fun x12 hy h=>?_);refine Qad h (fun hb h=>?_) (fun hb h=>?_)
    ·refine Qa2 (l:=p0) (c:=Qaf) (c' := Qaf) h (fun _=>rfl) (fun _=>rfl) (by decide) (fun x13 hi h=>?_);exact JP2.b h (Le.tz 0 0 rfl rfl rfl)
    ·refine TL.le (τ := Qmv p0 (wr (v4+1))) ?_ ((iQge (wr (v4+1)) _ h));exact Le.tz 0 0 rfl rfl rfl
 ·exact JP2.a h (Le.tz 0 0 rfl rfl rfl)
def Qgf (p0:(List Qae)) (v7:Int) (x18:(List (List UInt8))) (v9:Int):Option (Unit⊕(List UInt8)) :=
 if(decide (v9<(x18.length:Int))) then
  idx x18 v9>>=fun x22 =>
  Qhx p0 x22>>=fun x23 =>
  if(!x23.2) then
   idx p0 v7>>=fun x24 =>
   some (.inr x24.Name)
  else
   Qgf p0 v7 x18 (wr (v9+1))
 else
  some (.inl ())
 partial_fixpoint
theorem Qaik:∀ (p0:(List Qae)) (v7:Int) (x18:(List (List UInt8))),(∀ (v9:Int) (o19:Unit⊕(List UInt8)),Qgf p0 v7 x18 v9=some o19→TL (0,0) Tryz.prog 119 Q3n (JP2 (0,0) 119 o19 (.exit 4) (Qr6 p0 v7 x18) .ret (Qr7 p0 v7 x18)) (Qmw p0 v7 x18 v9)):=by
 intro p0 v7 x18;refine Qgf.partial_correctness p0 v7 x18 _ ?_;intro Qgf' iQgf v9 o19 h;refine TL.round (Qao mixed tbOk (lv:=Qkz) _ _ _ ?_);refine view (Qat _ _) rfl ?_;refine Qad h (fun hb h=>?_) (fun hb h=>?_)
 ·refine Qa2 (l:=x18) (c:=cStr) (c' := cStr) h (fun _=>rfl) (fun _=>rfl) (by decide) (fun x22 hi h=>?_);refine Qal [.sl false (p0.map Qaf),sV x22] Qg4 h (fun x23 hy=>(Qkf p0 x22 x23 hy)) (fun x23 hy h=>?_);refine Qad h (fun hb h=>?_) (fun hb h=>?_)
  ·refine Qa2 (l:=p0) (c:=Qaf) (c' := Qaf) h (fun _=>rfl) (fun _=>rfl) (by decide) (fun x24 hi h=>?_);exact JP2.b h (Le.tz 0 1 rfl rfl rfl)
  ·refine TL.le (τ := Qmw p0 v7 x18 (wr (v9+1))) ?_ ((iQgf (wr (v9+1)) _ h));exact Le.tz 0 1 rfl rfl rfl
 ·exact JP2.a h (Le.tz 0 1 rfl rfl rfl)
def Qna (p0:(List (List UInt8))) (p1:(List UInt8)) (v5:Int):Option (Unit⊕Unit) :=
 if(decide (v5<(p0.length:Int))) then
  idx p0 v5>>=fun x4 =>
  if(x4==p1) then
   some (.inr ())
  else
   Qna p0 p1 (wr (v5+1))
 else
  some (.inl ())
 partial_fixpoint
theorem Qam6:∀ (p0:(List (List UInt8))) (p1:(List UInt8)),(∀ (v5:Int) (o1:Unit⊕Unit),Qna p0 p1 v5=some o1→TL (0,0) Tryz.prog 18 Qaek (JP2 (0,0) 18 o1 (.exit 0) (Qyk p0 p1) .ret (Qyl p0 p1)) (Qsc p0 p1 v5)):=by
 intro p0 p1;refine Qna.partial_correctness p0 p1 _ ?_;intro Qna' iQna v5 o1 h;refine TL.round (Qao mixed tbOk (lv:=Qabl) _ _ _ ?_);refine view (Qat _ _) rfl ?_;refine Qad h (fun hb h=>?_) (fun hb h=>?_)
 ·refine Qa2 (l:=p0) (c:=cStr) (c' := cStr) h (fun _=>rfl) (fun _=>rfl) (by decide) (fun x4 hi h=>?_);refine Qad h (fun hb h=>?_) (fun hb h=>?_)
  ·exact JP2.b h (Le.tz 0 0 rfl rfl rfl)
  ·refine TL.le (τ := Qsc p0 p1 (wr (v5+1))) ?_ ((iQna (wr (v5+1)) _ h));exact Le.tz 0 0 rfl rfl rfl
 ·exact JP2.a h (Le.tz 0 0 rfl rfl rfl)
end Go.Proofs.YtfgegilhjlnohaaGreat
end
