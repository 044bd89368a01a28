/- Part 8 of 13. -/
import Derived.Test.YtfgegilhjlnohaaGreatMgInferChecks7

noncomputable section
set_option linter.unusedVariables false
set_option linter.unusedSimpArgs false
set_option maxRecDepth 100000
set_option maxHeartbeats 4000000
namespace Go.Proofs.YtfgegilhjlnohaaGreat
open Go.RowKit
structure Qab where
 Kind:Int
 Name:(List UInt8)
 Text:(List UInt8)
 N:Int
 L:(List Qab)
 Then:(List Qab)
 Else:(List Qab)
mutual
def Qaa:Qab->List V
 | ⟨x0,x1,x2,x3,x4,x5,x6⟩=>[iV x0,sV x1,sV x2,iV x3,.sl false (Qka x4),.sl false (Qka x5),.sl false (Qka x6)]
def Qka:List Qab->List (List V)
 | []=>[]
 | x::r=>Qaa x::Qka r
end
theorem Qsb:∀ l:List Qab,Qka l=l.map Qaa
 | []=>rfl
 | x::r=>by rw[Qka,Qsb r]; rfl
def Qa1 (x:Qab):List V:=[iV x.Kind,sV x.Name,sV x.Text,iV x.N,.sl false (x.L.map Qaa),.sl false (x.Then.map Qaa),.sl false (x.Else.map Qaa)]
theorem Qao(x:Qab):Qaa x=Qa1 x:=by cases x; simp[Qaa,Qa1,Qsb]
structure Qae where
 Name:(List UInt8)
 L:(List Qab)
def Qaf (x:Qae):List V:=[sV x.Name,.sl false (x.L.map Qaa)]
structure Qdf where
 name_:Bool
 text_:Bool
 num_:Bool
 then_:Bool
 other_:Bool
 l_:Int
def Qir (y:Bool):D :=.p (bV y)
def Q8j:List (Nat×List Nat):=[(0,[0,1,2]),(1,[6]),(3000001,[])]
def Q2b  (o1:Bool):St:=⟨[(6,.p (bV o1))],⟨[],[]⟩⟩
def Qkb (y:(List UInt8)):D :=.p (sV y)
def Qacy:List (Nat×List Nat):=[(0,[0]),(1,[0,5]),(2,[0]),(3,[0,7]),(4,[2]),(5,[0,13]),(6,[2]),(7,[0,25]),(8,[2]),(9,[2]),(2001005,[])]
def Q4d  (o1:Int):St:=⟨[(0,.p (iV o1))],⟨[],[]⟩⟩
def Q07 (y:Bool):D :=.p (bV y)
def Qacz:List (Nat×List Nat):=[(0,[0]),(1,[0,3]),(2,[0,3,9]),(3,[0,3,4,5]),(4,[0,3,5,21]),(5,[2]),(6,[0,3]),(7,[2]),(1000002,[0,3]),(3000004,[])]
def Qaf1 (p0:(List UInt8)) (v3:Int) (x4:Int×Int) (o5:Bool):St:=⟨[(0,.p (sV p0)),(3,.p (iV v3)),(5,.p (iV x4.2)),(21,.p (bV o5))],⟨[],[]⟩⟩
def Qsc (p0:(List UInt8)) (v3:Int):St:=⟨[(0,.p (sV p0)),(3,.p (iV v3))],⟨[],[]⟩⟩
def Qzd (p0:(List UInt8)) (y2:Unit):St:=⟨[],⟨[],[]⟩⟩
def Qze (p0:(List UInt8)) (y3:Unit):St:=⟨[(2,.p (bV false))],⟨[],[]⟩⟩
def Qaf2:Code:=((Qav (Tryz.f179.body.getD .skip)).getD 0 .skip)
def Qmi (y:Int×Int):D :=.tup [.p (iV y.1),.p (iV y.2)]
def Qwa:List (Nat×List Nat):=[(0,[0,1]),(1,[0,1,17]),(2,[4,5]),(3,[0,1,6]),(4,[0,1,6,7]),(5,[0,1,6,7,28]),(6,[0,1,6,7]),(7,[0,1,6,7,8]),(8,[0,1,6,7,8,9]),(9,[0,1,6,7,8,9,42]),(10,[0,1,6,7,8,9]),(11,[0,1,6,7,8,9]),(12,[0,1,6,7,8,71]),(13,[4,5]),(14,[4,5]),(1000005,[0,1,6,7]),(1000009,[0,1,6,7,8,9]),(3000001,[]),(3000005,[]),(3000012,[])]
def Q8k (p0:(List UInt8)) (p1:Int) (o1:Bool):St:=⟨[(0,.p (sV p0)),(1,.p (iV p1)),(17,.p (bV o1))],⟨[],[]⟩⟩
def Q8l (p0:(List UInt8)) (p1:Int) (v6:(List Int)) (v7:Int) (o5:Bool):St:=⟨[(0,.p (sV p0)),(1,.p (iV p1)),(6,.p (.sl true (v6.map cInt))),(7,.p (iV v7)),(28,.p (bV o5))],⟨[],[]⟩⟩
def Qoj (p0:(List UInt8)) (p1:Int) (v6:(List Int)) (v7:Int) (v8:Int) (v9:Int):St:=⟨[(0,.p (sV p0)),(1,.p (iV p1)),(6,.p (.sl true (v6.map cInt))),(7,.p (iV v7)),(8,.p (iV v8)),(9,.p (iV v9))],⟨[],[]⟩⟩
def Qve (p0:(List UInt8)) (p1:Int) (v6:(List Int)) (v7:Int) (o8:Int):St:=⟨[(0,.p (sV p0)),(1,.p (iV p1)),(6,.p (.sl true (v6.map cInt))),(7,.p (iV v7)),(8,.p (iV o8))],⟨[],[]⟩⟩
def Q8m:Code:=((Qav (Tryz.f171.body.getD .skip)).getD 1 .skip)
def Q8n (p0:(List UInt8)) (p1:Int) (v6:(List Int)) (v7:Int) (o8:Int) (o10:Bool):St:=⟨[(0,.p (sV p0)),(1,.p (iV p1)),(6,.p (.sl true (v6.map cInt))),(7,.p (iV v7)),(8,.p (iV o8)),(71,.p (bV o10))],⟨[],[]⟩⟩
def Qok (p0:(List UInt8)) (p1:Int) (v6:(List Int)) (v7:Int):St:=⟨[(0,.p (sV p0)),(1,.p (iV p1)),(6,.p (.sl true (v6.map cInt))),(7,.p (iV v7))],⟨[],[]⟩⟩
def Qvf (p0:(List UInt8)) (p1:Int) (y3:Unit):St:=⟨[],⟨[],[]⟩⟩
def Qvg (p0:(List UInt8)) (p1:Int) (y4:Int×Int):St:=⟨[(4,.p (iV y4.1)),(5,.p (iV y4.2))],⟨[],[]⟩⟩
def Q8o:Code:=((Qav (Tryz.f171.body.getD .skip)).getD 0 .skip)
def Qt9 (y:Bool):D :=.p (bV y)
def Qaf3:List (Nat×List Nat):=[(0,[0]),(1,[2]),(3000001,[])]
def Q8p  (o1:Bool):St:=⟨[(2,.p (bV o1))],⟨[],[]⟩⟩
def Qmy (y:(List UInt8)×Bool):D :=.tup [.p (sV y.1),.p (bV y.2)]
def Qzf:List (Nat×List Nat):=[(0,[0]),(1,[0,9]),(2,[2,3]),(3,[0,4]),(4,[0,4,5]),(5,[0,4,5,13]),(6,[0,4,5]),(7,[0,4,5,6]),(8,[0,4,5,6,22]),(9,[2,3]),(10,[0,4,5,6,24]),(11,[0,4,5,6]),(12,[0,4,5,6,26]),(13,[0,4,5,6]),(14,[0,4,5,6,32]),(15,[0,4,5,6]),(16,[0,4,5]),(17,[2,3]),(1000005,[0,4,5]),(2010013,[]),(3000014,[])]
def Q4e (p0:(List UInt8)) (v4:(List UInt8)) (v5:Int) (o6:(List UInt8)):St:=⟨[(0,.p (sV p0)),(4,.p (sV v4)),(5,.p (iV v5)),(6,.p (sV o6))],⟨[],[]⟩⟩
def Q4f (p0:(List UInt8)) (v4:(List UInt8)) (v5:Int) (x5:(List UInt8)) (o7:Bool):St:=⟨[(0,.p (sV p0)),(4,.p (sV v4)),(5,.p (iV v5)),(6,.p (sV x5)),(32,.p (bV o7))],⟨[],[]⟩⟩
def Qmz (p0:(List UInt8)) (v4:(List UInt8)) (v5:Int):St:=⟨[(0,.p (sV p0)),(4,.p (sV v4)),(5,.p (iV v5))],⟨[],[]⟩⟩
def Qsd (p0:(List UInt8)) (y3:(List UInt8)):St:=⟨[(4,.p (sV y3))],⟨[],[]⟩⟩
def Qse (p0:(List UInt8)) (y4:Unit):St:=⟨[(2,.p (sV [])),(3,.p (bV false))],⟨[],[]⟩⟩
def Q4g:Code:=((Qav (Tryz.f170.body.getD .skip)).getD 0 .skip)
def Qhd (y:Bool):D :=.p (bV y)
def Q2c:List (Nat×List Nat):=[(0,[0]),(1,[0,17]),(2,[2]),(3,[0,3]),(4,[0,3,21]),(5,[0,3]),(6,[0,3,41]),(7,[2]),(8,[2]),(1000004,[0,3]),(3000001,[]),(3000006,[])]
def Q8q (p0:(List UInt8)) (o1:Bool):St:=⟨[(0,.p (sV p0)),(17,.p (bV o1))],⟨[],[]⟩⟩
def Q8r (p0:(List UInt8)) (v3:Int) (o7:Bool):St:=⟨[(0,.p (sV p0)),(3,.p (iV v3)),(41,.p (bV o7))],⟨[],[]⟩⟩
def Qol (p0:(List UInt8)) (v3:Int):St:=⟨[(0,.p (sV p0)),(3,.p (iV v3))],⟨[],[]⟩⟩
def Qvh (p0:(List UInt8)) (y5:Unit):St:=⟨[],⟨[],[]⟩⟩
def Qvi (p0:(List UInt8)) (y6:Unit):St:=⟨[(2,.p (bV false))],⟨[],[]⟩⟩
def Q8s:Code:=((Qav (Tryz.f77.body.getD .skip)).getD 0 .skip)
def Qkc (y:Bool):D :=.p (bV y)
def Qac0:List (Nat×List Nat):=[(0,[0]),(1,[2]),(3000001,[])]
def Q4h  (o1:Bool):St:=⟨[(2,.p (bV o1))],⟨[],[]⟩⟩
def Qkd (y:Bool):D :=.p (bV y)
def Qac1:List (Nat×List Nat):=[(0,[0]),(1,[2]),(3000001,[])]
def Q4i  (o1:Bool):St:=⟨[(2,.p (bV o1))],⟨[],[]⟩⟩
def Qga (y:Int):D :=.p (iV y)
def Qzg:List (Nat×List Nat):=[(0,[0]),(1,[0,3]),(2,[0,3,4]),(3,[0,3,4,8]),(4,[0,3,4]),(5,[0,3,4]),(6,[2]),(1000003,[0,3,4])]
def Qm0 (p0:(List Qab)) (v3:Int) (v4:Int):St:=⟨[(0,.p (.sl false (p0.map Qaa))),(3,.p (iV v3)),(4,.p (iV v4))],⟨[],[]⟩⟩
def Qsf (p0:(List Qab)) (o1:Int):St:=⟨[(3,.p (iV o1))],⟨[],[]⟩⟩
def Q4j:Code:=((Qav (Tryz.f80.body.getD .skip)).getD 0 .skip)
def Qis (y:Int):D :=.p (iV y)
def Q2d:List (Nat×List Nat):=[(0,[0]),(1,[0,3]),(2,[0,3,4]),(3,[0,3,4,8]),(4,[0,3,4]),(5,[0,3,4]),(6,[2]),(1000003,[0,3,4])]
def Qom (p0:(List Qab)) (v3:Int) (v4:Int):St:=⟨[(0,.p (.sl false (p0.map Qaa))),(3,.p (iV v3)),(4,.p (iV v4))],⟨[],[]⟩⟩
def Qvj (p0:(List Qab)) (o1:Int):St:=⟨[(3,.p (iV o1))],⟨[],[]⟩⟩
def Q8t:Code:=((Qav (Tryz.f79.body.getD .skip)).getD 0 .skip)
def Q8u (y:Bool):D :=.p (bV y)
def Qamb:List (Nat×List Nat):=[(0,[0]),(1,[2]),(3000001,[])]
def Qaf4  (o1:Bool):St:=⟨[(2,.p (bV o1))],⟨[],[]⟩⟩
def Qhe (y:Bool):D :=.p (bV y)
def Q2e:List (Nat×List Nat):=[(0,[0]),(1,[0,3]),(2,[0,3,4]),(3,[0,3,4,9]),(4,[0,3,4]),(5,[0,3,4,17]),(6,[2]),(7,[2]),(1000003,[0,3,4])]
def Qon (p0:(List UInt8)) (x1:(List (List UInt8))) (v4:Int):St:=⟨[(0,.p (sV p0)),(3,.p (.sl false (x1.map cStr))),(4,.p (iV v4))],⟨[],[]⟩⟩
def Qvk (p0:(List UInt8)) (x1:(List (List UInt8))) (y3:Unit):St:=⟨[(0,.p (sV p0))],⟨[],[]⟩⟩
def Qvl (p0:(List UInt8)) (x1:(List (List UInt8))) (y4:Unit):St:=⟨[(2,.p (bV false))],⟨[],[]⟩⟩
def Q8v:Code:=((Qav (Tryz.f43.body.getD .skip)).getD 0 .skip)
def Qwb (y:(List (List UInt8))):D :=.p (.sl false (y.map cStr))
def Qac2:List (Nat×List Nat):=[(0,[]),(1,[0])]
def Qc1 (y:Bool):D :=.p (bV y)
def Qaf5:List (Nat×List Nat):=[(0,[1,2,3,4,5,6]),(1,[12]),(3000001,[])]
def Q8w (p0:Qab) (o1:Bool):St:=⟨[(12,.p (bV o1))],⟨[[.p (iV p0.Kind),.p (sV p0.Name),.p (sV p0.Text),.p (iV p0.N),.p (.sl false (p0.L.map Qaa)),.p (.sl false (p0.Then.map Qaa)),.p (.sl false (p0.Else.map Qaa))]],[]⟩⟩
def Qgb (y:Bool):D :=.p (bV y)
def Qzh:List (Nat×List Nat):=[(0,[0,1]),(1,[0,1,5]),(2,[0,1,5,11]),(3,[0,1,5]),(4,[0,1,5,19]),(5,[4]),(6,[0,1,5,25]),(7,[0,1,5,6]),(8,[0,1,5,6,7]),(9,[0,1,5,61]),(10,[4]),(11,[4]),(1000002,[0,1,5]),(3000009,[])]
def Q4k (p0:(List Qab)) (p1:Bool) (v5:Int) (o8:Bool):St:=⟨[(0,.p (.sl false (p0.map Qaa))),(1,.p (bV p1)),(5,.p (iV v5)),(61,.p (bV o8))],⟨[],[]⟩⟩
def Qi5 (p0:(List Qab)) (p1:Bool) (v5:Int):St:=⟨[(0,.p (.sl false (p0.map Qaa))),(1,.p (bV p1)),(5,.p (iV v5))],⟨[],[]⟩⟩
def Qsg (p0:(List Qab)) (p1:Bool) (y2:Unit):St:=⟨[],⟨[],[]⟩⟩
def Qsh (p0:(List Qab)) (p1:Bool) (y3:Unit):St:=⟨[(4,.p (bV false))],⟨[],[]⟩⟩
def Q4l:Code:=((Qav (Tryz.f78.body.getD .skip)).getD 0 .skip)
def Qfx (y:Bool):D :=.p (bV y)
def Qaf6:List (Nat×List Nat):=[(0,[1]),(1,[1,6]),(2,[1,6,7]),(3,[1,4]),(4,[2]),(5,[1,6,20]),(6,[2]),(7,[1,6,24]),(8,[2]),(9,[1,6,38]),(10,[2]),(11,[1,6,47]),(12,[2]),(13,[1,6,67]),(14,[2]),(15,[1,87]),(16,[2]),(17,[2]),(3000004,[]),(3000008,[]),(3000010,[]),(3000012,[]),(3000014,[]),(3000016,[])]
def Q8x (p0:Qab) (o2:Bool):St:=⟨[(2,.p (bV o2))],⟨[[.p (iV p0.Kind),.p (sV p0.Name),.p (sV p0.Text),.p (iV p0.N),.p (.sl false (p0.L.map Qaa)),.p (.sl false (p0.Then.map Qaa)),.p (.sl false (p0.Else.map Qaa))]],[]⟩⟩
def Q8y (p0:Qab) (o5:Bool):St:=⟨[(2,.p (bV o5))],⟨[[.p (iV p0.Kind),.p (sV p0.Name),.p (sV p0.Text),.p (iV p0.N),.p (.sl false (p0.L.map Qaa)),.p (.sl false (p0.Then.map Qaa)),.p (.sl false (p0.Else.map Qaa))]],[]⟩⟩
def Q8z (p0:Qab) (o8:Bool):St:=⟨[(2,.p (bV o8))],⟨[[.p (iV p0.Kind),.p (sV p0.Name),.p (sV p0.Text),.p (iV p0.N),.p (.sl false (p0.L.map Qaa)),.p (.sl false (p0.Then.map Qaa)),.p (.sl false (p0.Else.map Qaa))]],[]⟩⟩
def Q80 (p0:Qab) (o11:Bool):St:=⟨[(2,.p (bV o11))],⟨[[.p (iV p0.Kind),.p (sV p0.Name),.p (sV p0.Text),.p (iV p0.N),.p (.sl false (p0.L.map Qaa)),.p (.sl false (p0.Then.map Qaa)),.p (.sl false (p0.Else.map Qaa))]],[]⟩⟩
def Q81 (p0:Qab) (o15:Bool):St:=⟨[(2,.p (bV o15))],⟨[[.p (iV p0.Kind),.p (sV p0.Name),.p (sV p0.Text),.p (iV p0.N),.p (.sl false (p0.L.map Qaa)),.p (.sl false (p0.Then.map Qaa)),.p (.sl false (p0.Else.map Qaa))]],[]⟩⟩
def Q82 (p0:Qab) (o19:Bool):St:=⟨[(2,.p (bV o19))],⟨[[.p (iV p0.Kind),.p (sV p0.Name),.p (sV p0.Text),.p (iV p0.N),.p (.sl false (p0.L.map Qaa)),.p (.sl false (p0.Then.map Qaa)),.p (.sl false (p0.Else.map Qaa))]],[]⟩⟩
def Qh7 (y:Bool):D :=.p (bV y)
def Qzi:List (Nat×List Nat):=[(0,[0]),(1,[0,3]),(2,[0,3,7]),(3,[0,3]),(4,[0,3,15]),(5,[2]),(6,[2]),(1000002,[0,3])]
def Qm1 (p0:(List Qab)) (v3:Int):St:=⟨[(0,.p (.sl false (p0.map Qaa))),(3,.p (iV v3))],⟨[],[]⟩⟩
def Qsi (p0:(List Qab)) (y2:Unit):St:=⟨[],⟨[],[]⟩⟩
def Qsj (p0:(List Qab)) (y3:Unit):St:=⟨[(2,.p (bV false))],⟨[],[]⟩⟩
def Q4m:Code:=((Qav (Tryz.f130.body.getD .skip)).getD 0 .skip)
def Qny (y:Bool):D :=.p (bV y)
def Qxg:List (Nat×List Nat):=[(0,[0,1]),(1,[0,1,5]),(2,[0,1,5,9]),(3,[0,1,5]),(4,[0,1,5,15]),(5,[4]),(6,[4]),(1000002,[0,1,5])]
def Qlo (p0:(List UInt8)) (p1:(List UInt8)) (v5:Int):St:=⟨[(0,.p (sV p0)),(1,.p (sV p1)),(5,.p (iV v5))],⟨[],[]⟩⟩
def Qq1 (p0:(List UInt8)) (p1:(List UInt8)) (y2:Unit):St:=⟨[],⟨[],[]⟩⟩
def Qq2 (p0:(List UInt8)) (p1:(List UInt8)) (y3:Unit):St:=⟨[(4,.p (bV true))],⟨[],[]⟩⟩
def Q2f:Code:=((Qav (Tryz.f131.body.getD .skip)).getD 0 .skip)
def Qit (y:Bool):D :=.p (bV y)
def Qaf7:List (Nat×List Nat):=[(0,[1]),(1,[1,3]),(2,[1,3,14]),(3,[1,3,14,15]),(4,[2]),(5,[1,3,14,30]),(6,[2]),(7,[1,3,14,37]),(8,[2]),(9,[1,3,14,54]),(10,[1,3,14,54]),(11,[2]),(12,[1,3,72]),(13,[2]),(14,[2]),(2009005,[]),(3000001,[]),(3000004,[]),(3000006,[]),(3000008,[]),(3000011,[]),(3000013,[])]
def Q83 (p0:Qab) (o1:Bool):St:=⟨[(1,.ptr 0 0),(3,.p (bV o1))],⟨[[.p (iV p0.Kind),.p (sV p0.Name),.p (sV p0.Text),.p (iV p0.N),.p (.sl false (p0.L.map Qaa)),.p (.sl false (p0.Then.map Qaa)),.p (.sl false (p0.Else.map Qaa))]],[]⟩⟩
def Q84 (p0:Qab) (o3:Bool):St:=⟨[(2,.p (bV o3))],⟨[[.p (iV p0.Kind),.p (sV p0.Name),.p (sV p0.Text),.p (iV p0.N),.p (.sl false (p0.L.map Qaa)),.p (.sl false (p0.Then.map Qaa)),.p (.sl false (p0.Else.map Qaa))]],[]⟩⟩
def Q85 (p0:Qab) (o6:Bool):St:=⟨[(2,.p (bV o6))],⟨[[.p (iV p0.Kind),.p (sV p0.Name),.p (sV p0.Text),.p (iV p0.N),.p (.sl false (p0.L.map Qaa)),.p (.sl false (p0.Then.map Qaa)),.p (.sl false (p0.Else.map Qaa))]],[]⟩⟩
def Q86 (p0:Qab) (o8:Bool):St:=⟨[(2,.p (bV o8))],⟨[[.p (iV p0.Kind),.p (sV p0.Name),.p (sV p0.Text),.p (iV p0.N),.p (.sl false (p0.L.map Qaa)),.p (.sl false (p0.Then.map Qaa)),.p (.sl false (p0.Else.map Qaa))]],[]⟩⟩
def Q87 (p0:Qab) (o1:Bool) (o12:Bool):St:=⟨[(1,.ptr 0 0),(3,.p (bV o1)),(14,.p (iV p0.Kind)),(54,.p (bV o12))],⟨[[.p (iV p0.Kind),.p (sV p0.Name),.p (sV p0.Text),.p (iV p0.N),.p (.sl false (p0.L.map Qaa)),.p (.sl false (p0.Then.map Qaa)),.p (.sl false (p0.Else.map Qaa))]],[]⟩⟩
def Q88 (p0:Qab) (o13:Bool):St:=⟨[(2,.p (bV o13))],⟨[[.p (iV p0.Kind),.p (sV p0.Name),.p (sV p0.Text),.p (iV p0.N),.p (.sl false (p0.L.map Qaa)),.p (.sl false (p0.Then.map Qaa)),.p (.sl false (p0.Else.map Qaa))]],[]⟩⟩
def Q89 (p0:Qab) (o17:Bool):St:=⟨[(2,.p (bV o17))],⟨[[.p (iV p0.Kind),.p (sV p0.Name),.p (sV p0.Text),.p (iV p0.N),.p (.sl false (p0.L.map Qaa)),.p (.sl false (p0.Then.map Qaa)),.p (.sl false (p0.Else.map Qaa))]],[]⟩⟩
def Qgc (y:(List UInt8)×Int):D :=.tup [.p (sV y.1),.p (iV y.2)]
def Qk8:List (Nat×List Nat):=[(0,[0]),(1,[0,15]),(2,[2,3]),(3,[0,4]),(4,[0,4,19]),(5,[0,4]),(6,[0,4,37]),(7,[2,3]),(8,[0,4,6]),(9,[0,4,55]),(10,[2,3]),(11,[0,7]),(12,[0,7,64]),(13,[0,7]),(14,[0,7,8]),(15,[0,7,8,9]),(16,[0,7,8,9,76]),(17,[0,7,8,9]),(18,[0,7,8,9,11]),(19,[0,7,8,9,89]),(20,[2,3]),(21,[0,12]),(22,[0,12,98]),(23,[0,12]),(24,[0,12,113]),(25,[2,3]),(26,[2,3]),(1000004,[0,4]),(1000012,[0,7]),(1000016,[0,7,8,9]),(1000022,[0,12]),(3000006,[]),(5000024,[1006])]
def Q4n (p0:(List Qae)) (v4:Int) (o4:Bool):St:=⟨[(0,.p (.sl false (p0.map Qaf))),(4,.p (iV v4)),(37,.p (bV o4))],⟨[],[]⟩⟩
def Qm2 (p0:(List Qae)) (v4:Int):St:=⟨[(0,.p (.sl false (p0.map Qaf))),(4,.p (iV v4))],⟨[],[]⟩⟩
def Qsk (p0:(List Qae)) (y2:Unit):St:=⟨[(0,.p (.sl false (p0.map Qaf)))],⟨[],[]⟩⟩
def Qsl (p0:(List Qae)) (y3:(List UInt8)×Int):St:=⟨[(2,.p (sV y3.1)),(3,.p (iV y3.2))],⟨[],[]⟩⟩
def Q4o:Code:=((Qav (Tryz.f14.body.getD .skip)).getD 0 .skip)
def Qm3 (p0:(List Qae)) (v7:Int) (x18:(List (List UInt8))) (v9:Int):St:=⟨[(0,.p (.sl false (p0.map Qaf))),(7,.p (iV v7)),(8,.own 0 9 1 (x18.map cStr)),(9,.p (iV v9))],⟨[],[(x18.map cStr).length]⟩⟩
def Qsm (p0:(List Qae)) (v7:Int) (x18:(List (List UInt8))) (y20:Unit):St:=⟨[(0,.p (.sl false (p0.map Qaf))),(7,.p (iV v7))],⟨[],[(x18.map cStr).length]⟩⟩
def Qsn (p0:(List Qae)) (v7:Int) (x18:(List (List UInt8))) (y21:(List UInt8)):St:=⟨[(2,.p (sV y21)),(3,.p (iV 4))],⟨[],[(x18.map cStr).length]⟩⟩
def Q4p:Code:=((Qav (Tryz.f14.body.getD .skip)).getD 2 .skip)
def Qm4 (p0:(List Qae)) (v7:Int):St:=⟨[(0,.p (.sl false (p0.map Qaf))),(7,.p (iV v7))],⟨[],[]⟩⟩
def Qso (p0:(List Qae)) (y15:Unit):St:=⟨[(0,.p (.sl false (p0.map Qaf)))],⟨[],[]⟩⟩
def Qsp (p0:(List Qae)) (y16:(List UInt8)):St:=⟨[(2,.p (sV y16)),(3,.p (iV 4))],⟨[],[]⟩⟩
def Q4q:Code:=((Qav (Tryz.f14.body.getD .skip)).getD 1 .skip)
def Qm5 (p0:(List Qae)) (v12:Int):St:=⟨[(0,.p (.sl false (p0.map Qaf))),(12,.p (iV v12))],⟨[],[]⟩⟩
def Qsq (p0:(List Qae)) (y26:Unit):St:=⟨[],⟨[],[]⟩⟩
def Qsr (p0:(List Qae)) (y27:(List UInt8)):St:=⟨[(2,.p (sV y27)),(3,.p (iV 10))],⟨[],[]⟩⟩
def Q4r:Code:=((Qav (Tryz.f14.body.getD .skip)).getD 3 .skip)
def Qes (y:(List Qab)×Bool):D :=.tup [.p (.sl false (y.1.map Qaa)),.p (bV y.2)]
def Q2g:List (Nat×List Nat):=[(0,[0,1]),(1,[0,1,6]),(2,[0,1,6,10]),(3,[0,1,6]),(4,[0,1,6,19]),(5,[4,5]),(6,[4,5]),(1000002,[0,1,6])]
def Qoo (p0:(List Qae)) (p1:(List UInt8)) (v6:Int):St:=⟨[(0,.p (.sl false (p0.map Qaf))),(1,.p (sV p1)),(6,.p (iV v6))],⟨[],[]⟩⟩
def Qvm (p0:(List Qae)) (p1:(List UInt8)) (y2:Unit):St:=⟨[],⟨[],[]⟩⟩
def Qvn (p0:(List Qae)) (p1:(List UInt8)) (y3:(List Qab)):St:=⟨[(4,.p (.sl false (y3.map Qaa))),(5,.p (bV true))],⟨[],[]⟩⟩
def Q9a:Code:=((Qav (Tryz.f31.body.getD .skip)).getD 0 .skip)
def Qua (y:Bool):D :=.p (bV y)
def Qac3:List (Nat×List Nat):=[(0,[0,1]),(1,[0,1,5]),(2,[0,1,5,9]),(3,[0,1,5]),(4,[0,1,5,17]),(5,[4]),(6,[4]),(1000002,[0,1,5])]
def Qss (p0:(List (List UInt8))) (p1:(List UInt8)) (v5:Int):St:=⟨[(0,.p (.sl false (p0.map cStr))),(1,.p (sV p1)),(5,.p (iV v5))],⟨[],[]⟩⟩
def Qzj (p0:(List (List UInt8))) (p1:(List UInt8)) (y2:Unit):St:=⟨[],⟨[],[]⟩⟩
def Qzk (p0:(List (List UInt8))) (p1:(List UInt8)) (y3:Unit):St:=⟨[(4,.p (bV true))],⟨[],[]⟩⟩
def Qaf8:Code:=((Qav (Tryz.f21.body.getD .skip)).getD 0 .skip)
def Qyu (y:(List (List UInt8))):D :=.own 0 9 1 (y.map cStr)
def Qwc:List (Nat×List Nat):=[(0,[0]),(1,[0,3]),(2,[0,3,4]),(3,[0,3,4,11]),(4,[0,3,4]),(5,[0,3,4,19]),(6,[0,3,4]),(7,[0,3,4,5]),(8,[0,3,4,5,6]),(9,[0,3,4,5,6,43]),(10,[0,3,4,5,6]),(11,[0,3,4,5,6]),(12,[2]),(1000003,[0,3,4]),(1000009,[0,3,4,5,6]),(2005005,[]),(5000007,[1005,1011]),(9000006,[6,0,0,0]),(9000011,[5,0,0,0])]
def Q9b (p0:(List Qab)) (v4:Int) (o2:(List (List UInt8))):St:=⟨[(0,.p (.sl false (p0.map Qaa))),(3,.own 0 9 1 (o2.map cStr)),(4,.p (iV v4))],⟨[],[(o2.map cStr).length]⟩⟩
def Qop (p0:(List Qab)) (v4:Int) (x9:(List (List UInt8))) (x10:(List (List UInt8))) (v3_:(List (List UInt8))) (v6:Int):St:=⟨[(0,.p (.sl false (p0.map Qaa))),(3,.own 0 9 1 (v3_.map cStr)),(4,.p (iV v4)),(5,.own 1 9 1 (x10.map cStr)),(6,.p (iV v6))],⟨[],[(v3_.map cStr).length,(x10.map cStr).length,(x9.map cStr).length]⟩⟩
def Qvo (p0:(List Qab)) (v4:Int) (x9:(List (List UInt8))) (x10:(List (List UInt8))) (o11:(List (List UInt8))):St:=⟨[(0,.p (.sl false (p0.map Qaa))),(3,.own 0 9 1 (o11.map cStr)),(4,.p (iV v4))],⟨[],[(o11.map cStr).length,(x10.map cStr).length,(x9.map cStr).length]⟩⟩
def Q9c:Code:=((Qav (Tryz.f45.body.getD .skip)).getD 1 .skip)
def Qoq (p0:(List Qab)) (v3:(List (List UInt8))) (v4:Int):St:=⟨[(0,.p (.sl false (p0.map Qaa))),(3,.own 0 9 1 (v3.map cStr)),(4,.p (iV v4))],⟨[],[(v3.map cStr).length]⟩⟩
def Qvp (p0:(List Qab)) (o1:(List (List UInt8))):St:=⟨[(3,.own 0 9 1 (o1.map cStr))],⟨[],[(o1.map cStr).length]⟩⟩
def Q9d:Code:=((Qav (Tryz.f45.body.getD .skip)).getD 0 .skip)
def Q2h (y:(List (List UInt8))):D :=.own 0 9 1 (y.map cStr)
def Qnz:List (Nat×List Nat):=[(0,[0,1]),(1,[0,5]),(2,[0,7]),(3,[0,7,8]),(4,[0,7,8,26]),(5,[0,7,8]),(6,[0,7,8,9]),(7,[0,7,8,9,10]),(8,[0,7,8,9,10,33]),(9,[0,7,8,9,10]),(10,[0,7,8,9,10,11]),(11,[0,7,8,9,10,13]),(12,[0,7,8,9,10,13,14]),(13,[0,7,8,9,10,13,14,50]),(14,[0,7,8,9,10,13,14]),(15,[0,7,8,9,10,13,14]),(16,[4]),(1000004,[0,7,8]),(1000008,[0,7,8,9,10]),(1000013,[0,7,8,9,10,13,14]),(9000015,[5,0,0,0])]
def Qm6 (p0:(List Qae)) (v7:(List (List UInt8))) (v8:Int) (v10:Int) (x7:(List (List UInt8))) (v7__:(List (List UInt8))) (v14:Int):St:=⟨[(0,.p (.sl false (p0.map Qaf))),(7,.own 0 9 1 (v7__.map cStr)),(8,.p (iV v8)),(9,.p (.sl false (v7.map cStr))),(10,.p (iV v10)),(13,.own 1 9 1 (x7.map cStr)),(14,.p (iV v14))],⟨[],[(v7__.map cStr).length,(x7.map cStr).length]⟩⟩
def Qst (p0:(List Qae)) (v7:(List (List UInt8))) (v8:Int) (v10:Int) (x7:(List (List UInt8))) (o8:(List (List UInt8))):St:=⟨[(0,.p (.sl false (p0.map Qaf))),(7,.own 0 9 1 (o8.map cStr)),(8,.p (iV v8)),(9,.p (.sl false (v7.map cStr))),(10,.p (iV v10))],⟨[],[(o8.map cStr).length,(x7.map cStr).length]⟩⟩
def Q4s:Code:=((Qav (Tryz.f46.body.getD .skip)).getD 2 .skip)
def Qm7 (p0:(List Qae)) (v7:(List (List UInt8))) (v8:Int) (v7_:(List (List UInt8))) (v10:Int):St:=⟨[(0,.p (.sl false (p0.map Qaf))),(7,.own 0 9 1 (v7_.map cStr)),(8,.p (iV v8)),(9,.p (.sl false (v7.map cStr))),(10,.p (iV v10))],⟨[],[(v7_.map cStr).length]⟩⟩
def Qsu (p0:(List Qae)) (v7:(List (List UInt8))) (v8:Int) (o4:(List (List UInt8))):St:=⟨[(0,.p (.sl false (p0.map Qaf))),(7,.own 0 9 1 (o4.map cStr)),(8,.p (iV v8))],⟨[],[(o4.map cStr).length]⟩⟩
def Q4t:Code:=((Qav (Tryz.f46.body.getD .skip)).getD 1 .skip)
def Qm8 (p0:(List Qae)) (v7:(List (List UInt8))) (v8:Int):St:=⟨[(0,.p (.sl false (p0.map Qaf))),(7,.own 0 9 1 (v7.map cStr)),(8,.p (iV v8))],⟨[],[(v7.map cStr).length]⟩⟩
def Qsv (p0:(List Qae)) (o3:(List (List UInt8))):St:=⟨[(7,.own 0 9 1 (o3.map cStr))],⟨[],[(o3.map cStr).length]⟩⟩
def Q4u:Code:=((Qav (Tryz.f46.body.getD .skip)).getD 0 .skip)
def Qyv (y:(List (List UInt8))):D :=.own 0 9 1 (y.map cStr)
def Q2i:List (Nat×List Nat):=[(0,[0,1]),(1,[0,1,8]),(2,[4]),(3,[0,1,5]),(4,[0,1,5,21]),(5,[0,1,5]),(6,[0,4]),(1000004,[0,1,5]),(3000004,[])]
def Q9e (p0:(List (List UInt8))) (p1:(List UInt8)) (v5:Int) (o3:Bool):St:=⟨[(0,.own 0 9 1 (p0.map cStr)),(1,.p (sV p1)),(5,.p (iV v5)),(21,.p (bV o3))],⟨[],[(p0.map cStr).length]⟩⟩
def Qor (p0:(List (List UInt8))) (p1:(List UInt8)) (v5:Int):St:=⟨[(0,.own 0 9 1 (p0.map cStr)),(1,.p (sV p1)),(5,.p (iV v5))],⟨[],[(p0.map cStr).length]⟩⟩
def Qvq (p0:(List (List UInt8))) (p1:(List UInt8)) (o2:Int):St:=⟨[(0,.own 0 9 1 (p0.map cStr)),(1,.p (sV p1)),(5,.p (iV o2))],⟨[],[(p0.map cStr).length]⟩⟩
def Q9f:Code:=((Qav (Tryz.f55.body.getD .skip)).getD 0 .skip)
def Qe3 (y:(List UInt8)×Int):D :=.tup [.p (sV y.1),.p (iV y.2)]
def Qhs:List (Nat×List Nat):=[(0,[0]),(1,[0,19]),(2,[2,3]),(3,[0,20,21,22]),(4,[0,20,21,22,23]),(5,[0,4,5,20,21,22]),(6,[0,4,5,20,21,22,36]),(7,[2,3]),(8,[0,5,7,20,21,22]),(9,[0,5,20,21,22,48]),(10,[2,3]),(11,[0,20,21,22]),(12,[0,8]),(13,[0,8,54,55,56]),(14,[0,8,54,55,56,57]),(15,[0,8,10,54,55,56]),(16,[0,8,10,54,55,56,64,65,66]),(17,[0,8,10,54,55,56,64,65,66,67]),(18,[0,8,10,12,54,55,56,64,65,66]),(19,[0,8,10,14,54,55,56,64,65,66]),(20,[0,8,10,54,55,56,64,65,66,78]),(21,[2,3]),(22,[0,8,10,54,55,56,64,65,66]),(23,[0,8,54,55,56]),(24,[8,83,84,85]),(25,[8,83,84,85,86]),(26,[8,16,83,84,85]),(27,[8,16,83,84,85,98]),(28,[2,3]),(29,[8,83,84,85]),(30,[2,3]),(1000004,[0,20,21,22]),(1000014,[0,8,54,55,56]),(1000017,[0,8,10,54,55,56,64,65,66]),(1000025,[8,83,84,85]),(3000006,[]),(5000027,[2005]),(9000016,[4,0,0,0]),(9000019,[3,0,0,0])]
def Qz9 (p0:(List Qae)) (v22:Int) (x4:Qae) (o5:Bool):St:=⟨[(0,.p (.sl false (p0.map Qaf))),(4,.p (iV v22)),(5,.ptr 0 0),(20,.p (.sl false (p0.map Qaf))),(21,.p (iV (p0.length:Int))),(22,.p (iV v22)),(36,.p (bV o5))],⟨[[.p (sV x4.Name),.p (.sl false (x4.L.map Qaa))]],[]⟩⟩
def Qke (p0:(List Qae)) (v22:Int):St:=⟨[(0,.p (.sl false (p0.map Qaf))),(20,.p (.sl false (p0.map Qaf))),(21,.p (iV (p0.length:Int))),(22,.p (iV v22))],⟨[],[]⟩⟩
def Qo9 (p0:(List Qae)) (y2:Unit):St:=⟨[(0,.p (.sl false (p0.map Qaf)))],⟨[],[]⟩⟩
def Qpa (p0:(List Qae)) (y3:(List UInt8)×Int):St:=⟨[(2,.p (sV y3.1)),(3,.p (iV y3.2))],⟨[],[]⟩⟩
def Q0a:Code:=((Qav (Tryz.f13.body.getD .skip)).getD 0 .skip)
def Qkf (p0:(List Qae)) (x10:(List ((List UInt8)×(List (List UInt8))))) (v56:Int) (x14:Qae) (v66:Int):St:=⟨[(0,.p (.sl false (p0.map Qaf))),(8,.ptr 1 0),(10,.ptr 2 0),(54,.p (.sl false (p0.map Qaf))),(55,.p (iV (p0.length:Int))),(56,.p (iV v56)),(64,.p (.sl false (((mget (λa b=>a==b) x14.Name x10).getD []).map cStr))),(65,.p (iV (((mget (λa b=>a==b) x14.Name x10).getD []).length:Int))),(66,.p (iV v66))],⟨[[mpD sV (λx =>.sl false (x.map cStr)) x10],[.mh 0],[.p (sV x14.Name),.p (.sl false (x14.L.map Qaa))]],[]⟩⟩
def Qpb (p0:(List Qae)) (x10:(List ((List UInt8)×(List (List UInt8))))) (v56:Int) (x14:Qae) (y16:Unit):St:=⟨[(0,.p (.sl false (p0.map Qaf))),(8,.ptr 1 0),(54,.p (.sl false (p0.map Qaf))),(55,.p (iV (p0.length:Int))),(56,.p (iV v56))],⟨[[mpD sV (λx =>.sl false (x.map cStr)) x10],[.mh 0],[.p (sV x14.Name),.p (.sl false (x14.L.map Qaa))]],[]⟩⟩
def Qpc (p0:(List Qae)) (x10:(List ((List UInt8)×(List (List UInt8))))) (v56:Int) (x14:Qae) (y17:Unit):St:=⟨[(2,.p (sV x14.Name)),(3,.p (iV 4))],⟨[[mpD sV (λx =>.sl false (x.map cStr)) x10],[.mh 0],[.p (sV x14.Name),.p (.sl false (x14.L.map Qaa))]],[]⟩⟩
def Q0b:Code:=((Qav (Tryz.f13.body.getD .skip)).getD 2 .skip)
def Qkg (p0:(List Qae)) (x10:(List ((List UInt8)×(List (List UInt8))))) (v56:Int):St:=⟨[(0,.p (.sl false (p0.map Qaf))),(8,.ptr 1 0),(54,.p (.sl false (p0.map Qaf))),(55,.p (iV (p0.length:Int))),(56,.p (iV v56))],⟨[[mpD sV (λx =>.sl false (x.map cStr)) x10],[.mh 0]],[]⟩⟩
def Qpd (p0:(List Qae)) (x10:(List ((List UInt8)×(List (List UInt8))))) (y12:Unit):St:=⟨[(0,.p (.sl false (p0.map Qaf))),(8,.ptr 1 0)],⟨[[mpD sV (λx =>.sl false (x.map cStr)) x10],[.mh 0]],[]⟩⟩
def Qpe (p0:(List Qae)) (x10:(List ((List UInt8)×(List (List UInt8))))) (y13:(List UInt8)):St:=⟨[(2,.p (sV y13)),(3,.p (iV 4))],⟨[[mpD sV (λx =>.sl false (x.map cStr)) x10],[.mh 0]],[]⟩⟩
def Q0c:Code:=((Qav (Tryz.f13.body.getD .skip)).getD 1 .skip)
def Qkh (p0:(List Qae)) (x10:(List ((List UInt8)×(List (List UInt8))))) (v85:Int):St:=⟨[(8,.ptr 1 0),(83,.p (.sl false (p0.map Qaf))),(84,.p (iV (p0.length:Int))),(85,.p (iV v85))],⟨[[mpD sV (λx =>.sl false (x.map cStr)) x10],[.mh 0]],[]⟩⟩
def Qpf (p0:(List Qae)) (x10:(List ((List UInt8)×(List (List UInt8))))) (y20:Unit):St:=⟨[],⟨[[mpD sV (λx =>.sl false (x.map cStr)) x10],[.mh 0]],[]⟩⟩
def Qpg (p0:(List Qae)) (x10:(List ((List UInt8)×(List (List UInt8))))) (y21:(List UInt8)):St:=⟨[(2,.p (sV y21)),(3,.p (iV 10))],⟨[[mpD sV (λx =>.sl false (x.map cStr)) x10],[.mh 0]],[]⟩⟩
def Q0d:Code:=((Qav (Tryz.f13.body.getD .skip)).getD 3 .skip)
def Qiu (y:(List Qab)×Bool):D :=.tup [.p (.sl false (y.1.map Qaa)),.p (bV y.2)]
def Qxh:List (Nat×List Nat):=[(0,[0,1]),(1,[1,8,9,10]),(2,[1,8,9,10,11]),(3,[1,7,8,9,10]),(4,[1,7,8,9,10,17]),(5,[4,5]),(6,[1,8,9,10]),(7,[4,5]),(1000002,[1,8,9,10])]
def Qlp (p0:(List Qae)) (p1:(List UInt8)) (v10:Int):St:=⟨[(1,.p (sV p1)),(8,.p (.sl false (p0.map Qaf))),(9,.p (iV (p0.length:Int))),(10,.p (iV v10))],⟨[],[]⟩⟩
def Qq3 (p0:(List Qae)) (p1:(List UInt8)) (y2:Unit):St:=⟨[],⟨[],[]⟩⟩
def Qq4 (p0:(List Qae)) (p1:(List UInt8)) (y3:(List Qab)):St:=⟨[(4,.p (.sl false (y3.map Qaa))),(5,.p (bV true))],⟨[],[]⟩⟩
def Q2j:Code:=((Qav (Tryz.f39.body.getD .skip)).getD 0 .skip)
def Qsw (y:(List (List UInt8))):D :=.p (.sl false (y.map cStr))
def Q9g:List (Nat×List Nat):=[(0,[0]),(1,[0,3]),(2,[0,3,4]),(3,[0,3,4]),(4,[3]),(5,[3]),(6,[2]),(9000005,[1,3,0,0]),(9000006,[1,0,0,0]),(9500004,[])]
def Qos (_:(List (List UInt8))):D :=.tup []
def Qsx:List (Nat×List Nat):=[(0,[1,2,6,7,8]),(1,[1,2,6,7,8,9]),(2,[1,2,5,6,7,8]),(3,[1,2,5,6,7,8,14]),(4,[1,2,5,6,7,8]),(5,[1,2,5,6,7,8]),(6,[1,2,6,7,8]),(7,[1,2,6,7,8]),(1000001,[1,2,6,7,8]),(2003005,[]),(9000004,[4,0,0,0])]
def Qyw (p0:(List Qab)) (v8:Int) (x2:Qab) (o3:(List (List UInt8))):St:=⟨[(1,.ptr 0 0),(2,.ptr 1 0),(5,.ptr 2 0),(6,.p (.sl false (p0.map Qaa))),(7,.p (iV (p0.length:Int))),(8,.p (iV v8))],⟨[[.x 0 (o3.length+1) (.sl 9 1 (o3.map cStr))],[.fn (.func 99) [] [.ptr 0 0,.ptr 1 0]],[.p (iV x2.Kind),.p (sV x2.Name),.p (sV x2.Text),.p (iV x2.N),.p (.sl false (x2.L.map Qaa)),.p (.sl false (x2.Then.map Qaa)),.p (.sl false (x2.Else.map Qaa))]],[(o3.length+1)]⟩⟩
def Qi6 (p0:(List Qab)) (v8:Int) (h0_0_:(List (List UInt8))):St:=⟨[(1,.ptr 0 0),(2,.ptr 1 0),(6,.p (.sl false (p0.map Qaa))),(7,.p (iV (p0.length:Int))),(8,.p (iV v8))],⟨[[.x 0 (h0_0_.length+1) (.sl 9 1 (h0_0_.map cStr))],[.fn (.func 99) [] [.ptr 0 0,.ptr 1 0]]],[(h0_0_.length+1)]⟩⟩
def Qn0 (p0:(List Qab)) (o1:(List (List UInt8))):St:=⟨[],⟨[[.x 0 (o1.length+1) (.sl 9 1 (o1.map cStr))],[.fn (.func 99) [] [.ptr 0 0,.ptr 1 0]]],[(o1.length+1)]⟩⟩
def Qyx:Code:=((Qav (Tryz.f99.body.getD .skip)).getD 0 .skip)
def Qxi (_:(List ((List UInt8)×(List (List UInt8))))):D :=.agg [.mh 0]
def Qvr:List (Nat×List Nat):=[(0,[0,2]),(1,[0,2,3]),(2,[2,3,10,11,12]),(3,[2,3,10,11,12,13]),(4,[2,3,5,10,11,12]),(5,[2,3,5,7,10,11,12]),(6,[2,3,5,10,11,12,25]),(7,[2,3,10,11,12]),(8,[2,3,10,11,12]),(9,[2]),(1000003,[2,3,10,11,12]),(9000001,[0,0,0,0]),(9000005,[4,0,0,0]),(9000007,[7,0,0,0]),(9800007,[7]),(7000007,[2,3,10,11,12,27,29,32])]
def Qhf (p0:(List Qae)) (v12:Int) (h1_0:(List ((List UInt8)×(List (List UInt8))))):St:=⟨[(2,.ptr 0 0),(3,.ptr 2 0),(10,.p (.sl false (p0.map Qaf))),(11,.p (iV (p0.length:Int))),(12,.p (iV v12))],⟨[[.p (.v (.map none))],[mpD sV (λx =>.sl false (x.map cStr)) h1_0],[.mh 1]],[]⟩⟩
def Qph (p0:(List Qae)) (o1:(List ((List UInt8)×(List (List UInt8))))):St:=⟨[(2,.ptr 0 0),(3,.ptr 2 0)],⟨[[.p (.v (.map none))],[mpD sV (λx =>.sl false (x.map cStr)) o1],[.mh 1]],[]⟩⟩
def Q0e:Code:=((Qav (Tryz.f40.body.getD .skip)).getD 0 .skip)
def Qi7 (y:(List (List UInt8))):D :=.p (.sl false (y.map cStr))
def Qe4:List (Nat×List Nat):=[(0,[1,2]),(1,[1,2,5]),(2,[2,5,6]),(3,[2,5,6,15,16,17]),(4,[2,5,6,15,16,17,18]),(5,[2,5,6,8,15,16,17]),(6,[2,5,6,15,16,17]),(7,[2,5,6,15,16,17]),(8,[2,5,6,9]),(9,[2,5,6,9,27]),(10,[2,5,6,9]),(11,[2,5,6,9,36,37,38]),(12,[2,5,6,9,36,37,38,39]),(13,[2,5,6,9,11,36,37,38]),(14,[2,5,6,9,11,36,37,38,45]),(15,[2,5,6,9,11,36,37,38]),(16,[2,5,6,9,36,37,38]),(17,[2,5,6,9,36,37,38]),(18,[6]),(19,[4]),(1000004,[2,5,6,15,16,17]),(1000009,[2,5,6,9]),(1000012,[2,5,6,9,36,37,38]),(5000011,[2004,2005,2006]),(9000001,[0,0,0,0]),(9000003,[1,0,0,0]),(9000005,[0,0,0,0,1,0,0,0]),(9000006,[2,0,0,0]),(9000009,[2,0,0,0]),(9000014,[2,0,0,0]),(9000015,[2,0,0,0]),(9000016,[3,0,0,0]),(9000018,[1,1,6,0])]
def Qf1 (h0_0:(List ((List UInt8)×(List (List UInt8))))) (x1:(List (List UInt8))) (v17:Int) (h2_0:(List ((List UInt8)×Int))):St:=⟨[(2,.ptr 1 0),(5,.mh 2),(6,.x 0 1 (.sl 9 1 (x1.map cStr))),(15,.x 0 1 (.sl 9 1 (x1.map cStr))),(16,.p (iV (x1.length:Int))),(17,.p (iV v17))],⟨[[mpD sV (λx =>.sl false (x.map cStr)) h0_0],[.mh 0],[mpD sV iV h2_0]],[1]⟩⟩
def Qjy (h0_0:(List ((List UInt8)×(List (List UInt8))))) (x1:(List (List UInt8))) (o2:(List ((List UInt8)×Int))):St:=⟨[(2,.ptr 1 0),(5,.mh 2),(6,.x 0 1 (.sl 9 1 (x1.map cStr)))],⟨[[mpD sV (λx =>.sl false (x.map cStr)) h0_0],[.mh 0],[mpD sV iV o2]],[1]⟩⟩
def Qsy:Code:=((Qav (Tryz.f42.body.getD .skip)).getD 0 .skip)
def Qd2 (h0_0:(List ((List UInt8)×(List (List UInt8))))) (v9:Int) (x5:(List UInt8)) (v6_:(List (List UInt8))) (v38:Int) (h2_0_:(List ((List UInt8)×Int))):St:=⟨[(2,.ptr 1 0),(5,.mh 2),(6,.x 0 1 (.sl 9 1 (v6_.map cStr))),(9,.p (iV v9)),(36,.p (.sl false (((mget (λa b=>a==b) x5 h0_0).getD []).map cStr))),(37,.p (iV (((mget (λa b=>a==b) x5 h0_0).getD []).length:Int))),(38,.p (iV v38))],⟨[[mpD sV (λx =>.sl false (x.map cStr)) h0_0],[.mh 0],[mpD sV iV h2_0_]],[1]⟩⟩
def Qjz (h0_0:(List ((List UInt8)×(List (List UInt8))))) (v9:Int) (x5:(List UInt8)) (o6:(List (List UInt8))×(List ((List UInt8)×Int))):St:=⟨[(2,.ptr 1 0),(5,.mh 2),(6,.x 0 1 (.sl 9 1 (o6.1.map cStr))),(9,.p (iV v9))],⟨[[mpD sV (λx =>.sl false (x.map cStr)) h0_0],[.mh 0],[mpD sV iV o6.2]],[1]⟩⟩
def Qsz:Code:=((Qav (Tryz.f42.body.getD .skip)).getD 2 .skip)
def Qf2 (h0_0:(List ((List UInt8)×(List (List UInt8))))) (v6:(List (List UInt8))) (v9:Int) (h2_0:(List ((List UInt8)×Int))):St:=⟨[(2,.ptr 1 0),(5,.mh 2),(6,.x 0 1 (.sl 9 1 (v6.map cStr))),(9,.p (iV v9))],⟨[[mpD sV (λx =>.sl false (x.map cStr)) h0_0],[.mh 0],[mpD sV iV h2_0]],[1]⟩⟩
def Qj0 (h0_0:(List ((List UInt8)×(List (List UInt8))))) (o4:(List (List UInt8))×(List ((List UInt8)×Int))):St:=⟨[(6,.x 0 1 (.sl 9 1 (o4.1.map cStr)))],⟨[[mpD sV (λx =>.sl false (x.map cStr)) h0_0],[.mh 0],[mpD sV iV o4.2]],[1]⟩⟩
def Qs0:Code:=((Qav (Tryz.f42.body.getD .skip)).getD 1 .skip)
def Qct (y:Bool):D :=.p (bV y)
def Qi8:List (Nat×List Nat):=[(0,[0,1]),(1,[4]),(3000001,[])]
def Qh8  (o1:Bool):St:=⟨[(4,.p (bV o1))],⟨[],[]⟩⟩
def Qf3 (y:Int):D :=.p (iV y)
def Qel (y:Int):D :=.p (iV y)
def Qqc (y:(List UInt8)×Bool):D :=.tup [.p (sV y.1),.p (bV y.2)]
def Qzl:List (Nat×List Nat):=[(0,[0]),(1,[0,14]),(2,[2,3]),(3,[0,4]),(4,[0,4,17,18]),(5,[0,4,17,18,19]),(6,[0,4,5,17,18]),(7,[0,4,6,17,18]),(8,[0,4,6,17,18,24]),(9,[0,4,17,18]),(10,[0,4,6,17,18,24,29]),(11,[0,4,17,18]),(12,[0,4,6,17,18,24,33]),(13,[0,4,17,18]),(14,[0,4,6,17,18,24,37]),(15,[0,4,6,17,18,37]),(16,[0,4,17,18]),(17,[0,4,17,18]),(18,[2,3]),(1000005,[0,4,17,18]),(2014005,[]),(3000001,[])]
def Q4v (p0:(List UInt8)) (o1:Bool):St:=⟨[(0,.p (sV p0)),(14,.p (bV o1))],⟨[],[]⟩⟩
def Q4w (p0:(List UInt8)) (v4:(List Int)) (v18:Int) (x5:UInt8) (o8:Bool):St:=⟨[(0,.p (sV p0)),(4,.own 0 1000005 1 (v4.map (cNum .u8))),(6,.p (nV .u8 (x5.toNat:Int))),(17,.p (iV (p0.length:Int))),(18,.p (iV v18)),(37,.p (bV o8))],⟨[],[(v4.map (cNum .u8)).length]⟩⟩
def Qet (p0:(List UInt8)) (v4:(List Int)) (v18:Int):St:=⟨[(0,.p (sV p0)),(4,.own 0 1000005 1 (v4.map (cNum .u8))),(17,.p (iV (p0.length:Int))),(18,.p (iV v18))],⟨[],[(v4.map (cNum .u8)).length]⟩⟩
def Qs1 (p0:(List UInt8)) (o4:(List Int)):St:=⟨[(4,.own 0 1000005 1 (o4.map (cNum .u8)))],⟨[],[(o4.map (cNum .u8)).length]⟩⟩
def Q4x:Code:=((Qav (Tryz.f154.body.getD .skip)).getD 0 .skip)
def Qmj (y:Bool):D :=.p (bV y)
def Q2k:List (Nat×List Nat):=[(0,[0]),(1,[0,5,6]),(2,[0,5,6,7]),(3,[0,3,5,6]),(4,[0,5,6,13]),(5,[2]),(6,[0,5,6]),(7,[2]),(1000002,[0,5,6]),(3000007,[])]
def Qot (p0:(List UInt8)) (v6:Int):St:=⟨[(0,.p (sV p0)),(5,.p (iV (p0.length:Int))),(6,.p (iV v6))],⟨[],[]⟩⟩
def Qvs (p0:(List UInt8)) (y2:Unit):St:=⟨[(0,.p (sV p0))],⟨[],[]⟩⟩
def Qvt (p0:(List UInt8)) (y3:Unit):St:=⟨[(2,.p (bV false))],⟨[],[]⟩⟩
def Q9h:Code:=((Qav (Tryz.f69.body.getD .skip)).getD 0 .skip)
def Q9i  (o6:Bool):St:=⟨[(2,.p (bV o6))],⟨[],[]⟩⟩
def Qqd (y:Bool):D :=.p (bV y)
def Qac4:List (Nat×List Nat):=[(0,[0]),(1,[2]),(3000001,[])]
def Q4y  (o1:Bool):St:=⟨[(2,.p (bV o1))],⟨[],[]⟩⟩
def Qs2 (y:Bool):D :=.p (bV y)
def Q9j:List (Nat×List Nat):=[(0,[0]),(1,[2]),(3000001,[])]
def Q2l  (o1:Bool):St:=⟨[(2,.p (bV o1))],⟨[],[]⟩⟩
def Qci (y:(List Qab)×Int):D :=.tup [.p (.sl false (y.1.map Qaa)),.p (iV y.2)]
def Ql6:List (Nat×List Nat):=[(0,[0,1,2]),(1,[0,1,2,8]),(2,[0,1,2,8,9]),(3,[0,1,2,8,9,24]),(4,[0,1,2,8,9]),(5,[0,1,2,8,9,10]),(6,[0,1,2,8,9,10]),(7,[0,1,2,8,9,10,11]),(8,[0,1,2,8,9,10,11]),(9,[0,1,2,8,9,10,11]),(10,[0,1,2,8,9,11]),(11,[0,1,2,8,9]),(12,[6,7]),(1000003,[0,1,2,8,9]),(3000003,[])]
def Qrq (p0:(List Qab)) (p1:Int) (v2:Int) (v8:(List Qab)) (v9:Int) (o2:Bool):St:=⟨[(0,.p (.sl false (p0.map Qaa))),(1,.p (iV p1)),(2,.p (iV v2)),(8,.own 0 38 7 (v8.map Qaa)),(9,.p (iV v9)),(24,.p (bV o2))],⟨[],[(v8.map Qaa).length]⟩⟩
def Qe5 (p0:(List Qab)) (p1:Int) (v2:Int) (v8:(List Qab)) (v9:Int):St:=⟨[(0,.p (.sl false (p0.map Qaa))),(1,.p (iV p1)),(2,.p (iV v2)),(8,.own 0 38 7 (v8.map Qaa)),(9,.p (iV v9))],⟨[],[(v8.map Qaa).length]⟩⟩
def Qi9 (p0:(List Qab)) (p1:Int) (o1:Int×(List Qab)):St:=⟨[(2,.p (iV o1.1)),(8,.own 0 38 7 (o1.2.map Qaa))],⟨[],[(o1.2.map Qaa).length]⟩⟩
def Qrr:Code:=((Qav (Tryz.f22.body.getD .skip)).getD 0 .skip)
def Qki (y:(List Qae)):D :=.p (.sl false (y.map Qaf))
def Qn1:List (Nat×List Nat):=[(0,[0,1]),(1,[0,1,5]),(2,[0,1,5,6]),(3,[0,1,5,6,18]),(4,[0,1,5,6]),(5,[0,1,5,6,7]),(6,[0,1,5,6]),(7,[4]),(1000003,[0,1,5,6]),(3000003,[])]
def Qur (p0:(List Qae)) (p1:Int) (v5:(List Qae)) (v6:Int) (o2:Bool):St:=⟨[(0,.p (.sl false (p0.map Qaf))),(1,.p (iV p1)),(5,.own 0 56 2 (v5.map Qaf)),(6,.p (iV v6)),(18,.p (bV o2))],⟨[],[(v5.map Qaf).length]⟩⟩
def Qgd (p0:(List Qae)) (p1:Int) (v5:(List Qae)) (v6:Int):St:=⟨[(0,.p (.sl false (p0.map Qaf))),(1,.p (iV p1)),(5,.own 0 56 2 (v5.map Qaf)),(6,.p (iV v6))],⟨[],[(v5.map Qaf).length]⟩⟩
def Qk9 (p0:(List Qae)) (p1:Int) (o1:(List Qae)):St:=⟨[(5,.own 0 56 2 (o1.map Qaf))],⟨[],[(o1.map Qaf).length]⟩⟩
def Qus:Code:=((Qav (Tryz.f12.body.getD .skip)).getD 0 .skip)
def Qdh (y:(List (List UInt8))):D :=.x 0 1 (.sl 9 1 (y.map cStr))
def Qlq:List (Nat×List Nat):=[(0,[0]),(1,[0,4]),(2,[2]),(3,[2]),(9000001,[1,0,0,0]),(9000003,[2,0,0,0])]
def Qbw (y:Bool):D :=.p (bV y)
def Qdp:List (Nat×List Nat):=[(0,[0,1]),(1,[4])]
def Qb4 (y:Bool):D :=.p (bV y)
def Qjw:List (Nat×List Nat):=[(0,[0,1]),(1,[4])]
def Qbi (y:Int):D :=.p (iV y)
def Qb5:List (Nat×List Nat):=[(0,[0,1]),(1,[0,1,7,8]),(2,[0,1,7,8,9]),(3,[0,1,5,7,8]),(4,[0,1,5,7,8,16]),(5,[4]),(6,[0,1,7,8]),(7,[4]),(1000002,[0,1,7,8])]
def Qbc (p0:(List Qab)) (v8:Int):St:=⟨[(0,.p (.sl false (p0.map Qaa))),(1,.fn (.func 155) [] []),(7,.p (iV (p0.length:Int))),(8,.p (iV v8))],⟨[],[]⟩⟩
def Qbu (p0:(List Qab)) (y2:Unit):St:=⟨[],⟨[],[]⟩⟩
def Qbv (p0:(List Qab)) (y3:Int):St:=⟨[(4,.p (iV y3))],⟨[],[]⟩⟩
def Qdu:Code:=((Qav (Tryz.f83.body.getD .skip)).getD 0 .skip)
def Qcm (y:Int):D :=.p (iV y)
def Qfp:List (Nat×List Nat):=[(0,[0,1]),(1,[0,1,7,8]),(2,[0,1,7,8,9]),(3,[0,1,5,7,8]),(4,[0,1,5,7,8,16]),(5,[4]),(6,[0,1,7,8]),(7,[4]),(1000002,[0,1,7,8])]
def Qcu (p0:(List (List UInt8))) (p1:(List UInt8)) (v8:Int):St:=⟨[(0,.p (.sl false (p0.map cStr))),(1,.p (sV p1)),(7,.p (iV (p0.length:Int))),(8,.p (iV v8))],⟨[],[]⟩⟩
def Qem (p0:(List (List UInt8))) (p1:(List UInt8)) (y2:Unit):St:=⟨[],⟨[],[]⟩⟩
def Qen (p0:(List (List UInt8))) (p1:(List UInt8)) (y3:Int):St:=⟨[(4,.p (iV y3))],⟨[],[]⟩⟩
def Qkj:Code:=((Qav (Tryz.f74.body.getD .skip)).getD 0 .skip)
def Qja (y:Bool):D :=.p (bV y)
def Qwd:List (Nat×List Nat):=[(0,[0,1]),(1,[4])]
def Qc2 (y:Bool):D :=.p (bV y)
def Qut:List (Nat×List Nat):=[(0,[0,1]),(1,[4])]
def Qm9 (y:Int):D :=.p (iV y)
def Q0f:List (Nat×List Nat):=[(0,[0,1]),(1,[4])]
def Qh9 (y:Int):D :=.p (iV y)
def Quu:List (Nat×List Nat):=[(0,[0,1]),(1,[4])]
def Qs3 (y:Int):D :=.p (iV y)
def Qqe:List (Nat×List Nat):=[(0,[0]),(1,[0,3]),(2,[3,5]),(3,[3,5]),(4,[2]),(4000003,[3,5])]
def Qh0 (x1:(List Qab)×Int) (h0_0:Int):St:=⟨[(3,.ptr 0 0),(5,.fn (.func 125) [] [.p (.ep [.sl false (x1.1.map Qaa)]),.p (.ep [iV x1.2])])],⟨[[.p (iV h0_0)]],[]⟩⟩
def Qq5 (x1:(List Qab)×Int) (o6:Int):St:=⟨[(3,.ptr 0 0),(5,.fn (.func 125) [] [.p (.ep [.sl false (x1.1.map Qaa)]),.p (.ep [iV x1.2])])],⟨[[.p (iV o6)]],[]⟩⟩
def Qna:Code:=((Qav (Tryz.f71.body.getD .skip)).getD 0 .skip)
def Qwe (y:Int):D :=.p (iV y)
def Qs4:List (Nat×List Nat):=[(0,[0,5]),(1,[0,3,5]),(2,[3,5,7]),(3,[3,5,7]),(4,[3,5,7]),(5,[2]),(4000003,[3,5,7])]
def Qjb (x1:(List Qab)×Int) (h0_0:Int):St:=⟨[(3,.ptr 0 0),(7,.fn (.func 125) [] [.p (.ep [.sl false (x1.1.map Qaa)]),.p (.ep [iV x1.2])])],⟨[[.p (iV h0_0)]],[]⟩⟩
def Qs5 (x1:(List Qab)×Int) (o6:Int):St:=⟨[(3,.ptr 0 0),(7,.fn (.func 125) [] [.p (.ep [.sl false (x1.1.map Qaa)]),.p (.ep [iV x1.2])])],⟨[[.p (iV o6)]],[]⟩⟩
def Qou:Code:=((Qav (Tryz.f70.body.getD .skip)).getD 0 .skip)
def Q2m (y:Bool):D :=.p (bV y)
def Qajp:List (Nat×List Nat):=[(0,[0]),(1,[2]),(3000001,[])]
def Qac5  (o1:Bool):St:=⟨[(2,.p (bV o1))],⟨[],[]⟩⟩
def Qge (y:Bool):D :=.p (bV y)
def Qac6:List (Nat×List Nat):=[(0,[0]),(1,[0,3]),(2,[0,3,4]),(3,[0,3,4]),(4,[0,3,4]),(5,[0,3,4]),(6,[0,3,4]),(7,[0,3,4]),(8,[0,3,4]),(9,[0,3,4]),(10,[0,3,4]),(11,[0,4]),(12,[2]),(13,[2]),(2002037,[])]
def Q4z (p0:(List UInt8)) (o1:Bool):St:=⟨[(0,.p (sV p0)),(4,.p (bV o1))],⟨[],[]⟩⟩
def Qpi (y:(List Qab)×Int):D :=.fn (.func 125) [] [.p (.ep [.sl false (y.1.map Qaa)]),.p (.ep [iV y.2])]
def Qaf9:List (Nat×List Nat):=[(0,[2,3]),(1,[4])]
def Qck (y:(Qab×Int)):List V:=[.agg [iV y.1.Kind,sV y.1.Name,sV y.1.Text,iV y.1.N,.sl false (y.1.L.map Qaa),.sl false (y.1.Then.map Qaa),.sl false (y.1.Else.map Qaa)],iV y.2]
def Qjc:List (Nat×List Nat):=[(0,[1,2,3,8,9]),(1,[2,3,8,9,10,11,12]),(2,[2,3,8,9,10,11,12,13]),(3,[2,3,5,8,9,10,11,12]),(4,[2,3,5,8,9,10,11,12,20]),(5,[2,3,8,9,10,11,12,27,28]),(6,[2,3,8,9,10,11,12,27,28,29]),(7,[2,3,7,8,9,10,11,12,27,28]),(8,[2,3,8,9,10,11,12,27,28,34]),(9,[2,3,8,10,11,12,27,28,34,36]),(10,[2,3,8,9,10,11,12,27,28,34]),(11,[2,3,8,9,10,11,12,27,28,34,41]),(12,[2,3,8,9,10,11,12,27,28]),(13,[2,3,8,9,10,11,12]),(1000002,[2,3,8,9,10,11,12]),(1000006,[2,3,8,9,10,11,12,27,28]),(4000009,[2,3,8,9,10,11,12,27,28,34])]
def Qh1 (p0:(List Qab)) (p1:Int) (v12:Int) (x3:Qab) (v28:Int) (x7:(List Qab)×Int) (gxs gp:List (List V)):St:=⟨[(2,.p (.ep [iV p1])),(3,.ptr 0 0),(10,.p (.sl false (p0.map Qaa))),(11,.p (iV (p0.length:Int))),(12,.p (iV v12)),(27,.p (.agg [.sl false (x3.L.map Qaa),.sl false (x3.Then.map Qaa),.sl false (x3.Else.map Qaa)])),(28,.p (iV v28)),(34,.fn (.func 125) [] [.p (.ep [.sl false (x7.1.map Qaa)]),.p (.ep [iV x7.2])])],⟨[[.yld Tryz.prog 0 gxs],[.p (iV x3.Kind),.p (sV x3.Name),.p (sV x3.Text),.p (iV x3.N),.p (.sl false (x3.L.map Qaa)),.p (.sl false (x3.Then.map Qaa)),.p (.sl false (x3.Else.map Qaa))]],[gp.length]⟩⟩
def Qq6 (p0:(List Qab)) (p1:Int) (v12:Int) (x3:Qab) (v28:Int) (x7:(List Qab)×Int) (gxs:List (List V)) (gq12:List (List V)) (oy:Unit):St:=⟨[(2,.p (.ep [iV p1])),(3,.ptr 0 0),(10,.p (.sl false (p0.map Qaa))),(11,.p (iV (p0.length:Int))),(12,.p (iV v12)),(27,.p (.agg [.sl false (x3.L.map Qaa),.sl false (x3.Then.map Qaa),.sl false (x3.Else.map Qaa)])),(28,.p (iV v28)),(34,.fn (.func 125) [] [.p (.ep [.sl false (x7.1.map Qaa)]),.p (.ep [iV x7.2])])],⟨[[.yld Tryz.prog 0 gxs],[.p (iV x3.Kind),.p (sV x3.Name),.p (sV x3.Text),.p (iV x3.N),.p (.sl false (x3.L.map Qaa)),.p (.sl false (x3.Then.map Qaa)),.p (.sl false (x3.Else.map Qaa))]],[gq12.length]⟩⟩
def Qnb:Code:=((Qav (Tryz.f125.body.getD .skip)).getD 2 .skip)
def Qlr (p0:(List Qab)) (p1:Int) (v12:Int) (x3:Qab) (v28:Int) (gxs gp:List (List V)):St:=⟨[(2,.p (.ep [iV p1])),(3,.ptr 0 0),(10,.p (.sl false (p0.map Qaa))),(11,.p (iV (p0.length:Int))),(12,.p (iV v12)),(27,.p (.agg [.sl false (x3.L.map Qaa),.sl false (x3.Then.map Qaa),.sl false (x3.Else.map Qaa)])),(28,.p (iV v28))],⟨[[.yld Tryz.prog 0 gxs],[.p (iV x3.Kind),.p (sV x3.Name),.p (sV x3.Text),.p (iV x3.N),.p (.sl false (x3.L.map Qaa)),.p (.sl false (x3.Then.map Qaa)),.p (.sl false (x3.Else.map Qaa))]],[gp.length]⟩⟩
def Qq7 (p0:(List Qab)) (p1:Int) (v12:Int) (x3:Qab) (gxs:List (List V)) (gq4:List (List V)) (oy:Unit):St:=⟨[(2,.p (.ep [iV p1])),(3,.ptr 0 0),(10,.p (.sl false (p0.map Qaa))),(11,.p (iV (p0.length:Int))),(12,.p (iV v12))],⟨[[.yld Tryz.prog 0 gxs],[.p (iV x3.Kind),.p (sV x3.Name),.p (sV x3.Text),.p (iV x3.N),.p (.sl false (x3.L.map Qaa)),.p (.sl false (x3.Then.map Qaa)),.p (.sl false (x3.Else.map Qaa))]],[gq4.length]⟩⟩
def Q2n:Code:=((Qav (Tryz.f125.body.getD .skip)).getD 1 .skip)
def Qls (p0:(List Qab)) (p1:Int) (v12:Int) (gxs gp:List (List V)):St:=⟨[(2,.p (.ep [iV p1])),(3,.ptr 0 0),(10,.p (.sl false (p0.map Qaa))),(11,.p (iV (p0.length:Int))),(12,.p (iV v12))],⟨[[.yld Tryz.prog 0 gxs]],[gp.length]⟩⟩
def Qq8 (p0:(List Qab)) (p1:Int) (gxs:List (List V)) (gq1:List (List V)) (oy:Unit):St:=⟨[],⟨[[.yld Tryz.prog 0 gxs]],[gq1.length]⟩⟩
def Q2o:Code:=((Qav (Tryz.f125.body.getD .skip)).getD 0 .skip)
def Qgf (y:Bool):D :=.p (bV y)
def Qxj:List (Nat×List Nat):=[(0,[0,1]),(1,[0,1,8,9,10]),(2,[0,1,8,9,10,11]),(3,[0,1,5,6,8,9,10]),(4,[0,1,5,6,8,9,10,17]),(5,[4]),(6,[0,1,5,6,7,8,9,10]),(7,[0,1,8,9,10,50]),(8,[4]),(9,[0,1,8,9,10]),(10,[4]),(1000002,[0,1,8,9,10]),(3000007,[])]
def Q2p (p0:(List Qab)) (p1:Bool) (v10:Int) (x4:Qab) (o6:Bool):St:=⟨[(0,.p (.sl false (p0.map Qaa))),(1,.p (bV p1)),(8,.p (.sl false (p0.map Qaa))),(9,.p (iV (p0.length:Int))),(10,.p (iV v10)),(50,.p (bV o6))],⟨[[.p (iV x4.Kind),.p (sV x4.Name),.p (sV x4.Text),.p (iV x4.N),.p (.sl false (x4.L.map Qaa)),.p (.sl false (x4.Then.map Qaa)),.p (.sl false (x4.Else.map Qaa))]],[]⟩⟩
def Qlt (p0:(List Qab)) (p1:Bool) (v10:Int):St:=⟨[(0,.p (.sl false (p0.map Qaa))),(1,.p (bV p1)),(8,.p (.sl false (p0.map Qaa))),(9,.p (iV (p0.length:Int))),(10,.p (iV v10))],⟨[],[]⟩⟩
def Qq9 (p0:(List Qab)) (p1:Bool) (y2:Unit):St:=⟨[],⟨[],[]⟩⟩
def Qra (p0:(List Qab)) (p1:Bool) (y3:Unit):St:=⟨[(4,.p (bV false))],⟨[],[]⟩⟩
def Q2q:Code:=((Qav (Tryz.f72.body.getD .skip)).getD 0 .skip)
def Qc3 (y:Bool):D :=.p (bV y)
def Qac7:List (Nat×List Nat):=[(0,[1]),(1,[1,3]),(2,[1,3,4]),(3,[1,3,4,11]),(4,[1,3,4,11,12]),(5,[3,6]),(6,[2]),(7,[1,3,4,11,28]),(8,[2]),(9,[1,3,4,11,35]),(10,[2]),(11,[1,3,4,11,48]),(12,[2]),(13,[1,3,4,11,58]),(14,[2]),(15,[1,3,4,11,68]),(16,[1,3,4]),(17,[2]),(18,[1,3,4,86]),(19,[1,3,4]),(20,[2]),(21,[2]),(3000006,[]),(3000010,[]),(3000012,[]),(3000014,[]),(3000017,[]),(3000020,[])]
def Q40 (p0:Qab) (x1:Qdf) (o3:Bool):St:=⟨[(2,.p (bV o3))],⟨[[.p (iV p0.Kind),.p (sV p0.Name),.p (sV p0.Text),.p (iV p0.N),.p (.sl false (p0.L.map Qaa)),.p (.sl false (p0.Then.map Qaa)),.p (.sl false (p0.Else.map Qaa))],[.p (bV x1.name_),.p (bV x1.text_),.p (bV x1.num_),.p (bV x1.then_),.p (bV x1.other_),.p (iV x1.l_)],[.p (bV true),.p (bV false),.p (bV false),.p (bV false),.p (bV false),.p (iV 0)]],[]⟩⟩
def Q41 (p0:Qab) (x1:Qdf) (o4:Bool):St:=⟨[(2,.p (bV o4))],⟨[[.p (iV p0.Kind),.p (sV p0.Name),.p (sV p0.Text),.p (iV p0.N),.p (.sl false (p0.L.map Qaa)),.p (.sl false (p0.Then.map Qaa)),.p (.sl false (p0.Else.map Qaa))],[.p (bV x1.name_),.p (bV x1.text_),.p (bV x1.num_),.p (bV x1.then_),.p (bV x1.other_),.p (iV x1.l_)],[.p (bV true),.p (bV false),.p (bV false),.p (bV false),.p (bV false),.p (iV 0)]],[]⟩⟩
def Q42 (p0:Qab) (x1:Qdf) (o5:Bool):St:=⟨[(2,.p (bV o5))],⟨[[.p (iV p0.Kind),.p (sV p0.Name),.p (sV p0.Text),.p (iV p0.N),.p (.sl false (p0.L.map Qaa)),.p (.sl false (p0.Then.map Qaa)),.p (.sl false (p0.Else.map Qaa))],[.p (bV x1.name_),.p (bV x1.text_),.p (bV x1.num_),.p (bV x1.then_),.p (bV x1.other_),.p (iV x1.l_)],[.p (bV true),.p (bV false),.p (bV false),.p (bV false),.p (bV false),.p (iV 0)]],[]⟩⟩
def Q43 (p0:Qab) (x1:Qdf) (o7:Bool):St:=⟨[(2,.p (bV o7))],⟨[[.p (iV p0.Kind),.p (sV p0.Name),.p (sV p0.Text),.p (iV p0.N),.p (.sl false (p0.L.map Qaa)),.p (.sl false (p0.Then.map Qaa)),.p (.sl false (p0.Else.map Qaa))],[.p (bV x1.name_),.p (bV x1.text_),.p (bV x1.num_),.p (bV x1.then_),.p (bV x1.other_),.p (iV x1.l_)],[.p (bV true),.p (bV false),.p (bV false),.p (bV false),.p (bV false),.p (iV 0)]],[]⟩⟩
def Q44 (p0:Qab) (x1:Qdf) (o9:Bool):St:=⟨[(2,.p (bV o9))],⟨[[.p (iV p0.Kind),.p (sV p0.Name),.p (sV p0.Text),.p (iV p0.N),.p (.sl false (p0.L.map Qaa)),.p (.sl false (p0.Then.map Qaa)),.p (.sl false (p0.Else.map Qaa))],[.p (bV x1.name_),.p (bV x1.text_),.p (bV x1.num_),.p (bV x1.then_),.p (bV x1.other_),.p (iV x1.l_)],[.p (bV true),.p (bV false),.p (bV false),.p (bV false),.p (bV false),.p (iV 1)]],[]⟩⟩
def Q45 (p0:Qab) (x1:Qdf) (o13:Bool):St:=⟨[(2,.p (bV o13))],⟨[[.p (iV p0.Kind),.p (sV p0.Name),.p (sV p0.Text),.p (iV p0.N),.p (.sl false (p0.L.map Qaa)),.p (.sl false (p0.Then.map Qaa)),.p (.sl false (p0.Else.map Qaa))],[.p (bV x1.name_),.p (bV x1.text_),.p (bV x1.num_),.p (bV x1.then_),.p (bV x1.other_),.p (iV x1.l_)],[.p (bV true),.p (bV false),.p (bV false),.p (bV false),.p (bV false),.p (iV (if 3<x1.l_ then 3 else x1.l_))]],[]⟩⟩
def Qqf (y:Bool):D :=.p (bV y)
def Q46:List (Nat×List Nat):=[(0,[1]),(1,[2])]
def Qk1 (y:Qdf):D :=.p (.agg [bV y.name_,bV y.text_,bV y.num_,bV y.then_,bV y.other_,iV y.l_])
def Q2r:List (Nat×List Nat):=[(0,[1,2]),(1,[2])]
def Qqg (y:Bool):D :=.p (bV y)
def Qac8:List (Nat×List Nat):=[(0,[1]),(1,[1,3]),(2,[1,3,4]),(3,[1,3,4,10]),(4,[2]),(5,[1,3,4,10,11]),(6,[2]),(7,[1,3,4,10,22]),(8,[1,3,4,10,24]),(9,[1,3,4]),(10,[1,3,4,10,32]),(11,[1,3,4,10,32]),(12,[1,3,4]),(13,[1,3,4,42]),(14,[1,3,4]),(15,[1,3,4,5]),(16,[2]),(2003032,[]),(2010005,[]),(3000006,[]),(3000015,[]),(3000016,[]),(5000009,[1005,1007]),(5000012,[1006,1008]),(8000009,[2]),(8000012,[2])]
def Q47 (p0:Qab) (x1:Qdf) (y3:Bool×Bool×Bool):St:=⟨[(1,.ptr 0 0),(3,.ptr 1 0),(4,.ptr 2 0)],⟨[[.p (iV p0.Kind),.p (sV p0.Name),.p (sV p0.Text),.p (iV p0.N),.p (.sl false (p0.L.map Qaa)),.p (.sl false (p0.Then.map Qaa)),.p (.sl false (p0.Else.map Qaa))],[.p (bV x1.name_),.p (bV x1.text_),.p (bV x1.num_),.p (bV x1.then_),.p (bV x1.other_),.p (iV x1.l_)],[.p (bV y3.1),.p (bV false),.p (bV false),.p (bV y3.2.1),.p (bV y3.2.2),.p (iV 1)]],[]⟩⟩
def Q48 (p0:Qab) (x1:Qdf) (y4:Bool):St:=⟨[(2,.p (bV y4))],⟨[[.p (iV p0.Kind),.p (sV p0.Name),.p (sV p0.Text),.p (iV p0.N),.p (.sl false (p0.L.map Qaa)),.p (.sl false (p0.Then.map Qaa)),.p (.sl false (p0.Else.map Qaa))],[.p (bV x1.name_),.p (bV x1.text_),.p (bV x1.num_),.p (bV x1.then_),.p (bV x1.other_),.p (iV x1.l_)],[.p (bV false),.p (bV false),.p (bV false),.p (bV false),.p (bV false),.p (iV 1)]],[]⟩⟩
def Q49 (p0:Qab) (x1:Qdf) (o5:Bool):St:=⟨[(2,.p (bV o5))],⟨[[.p (iV p0.Kind),.p (sV p0.Name),.p (sV p0.Text),.p (iV p0.N),.p (.sl false (p0.L.map Qaa)),.p (.sl false (p0.Then.map Qaa)),.p (.sl false (p0.Else.map Qaa))],[.p (bV x1.name_),.p (bV x1.text_),.p (bV x1.num_),.p (bV x1.then_),.p (bV x1.other_),.p (iV x1.l_)],[.p (bV false),.p (bV false),.p (bV false),.p (bV false),.p (bV false),.p (iV 1)]],[]⟩⟩
def Q5a (p0:Qab) (x1:Qdf) (o7:Bool):St:=⟨[(1,.ptr 0 0),(3,.ptr 1 0),(4,.ptr 2 0),(10,.p (iV p0.Kind)),(32,.p (bV o7))],⟨[[.p (iV p0.Kind),.p (sV p0.Name),.p (sV p0.Text),.p (iV p0.N),.p (.sl false (p0.L.map Qaa)),.p (.sl false (p0.Then.map Qaa)),.p (.sl false (p0.Else.map Qaa))],[.p (bV x1.name_),.p (bV x1.text_),.p (bV x1.num_),.p (bV x1.then_),.p (bV x1.other_),.p (iV x1.l_)],[.p (bV false),.p (bV false),.p (bV false),.p (bV false),.p (bV false),.p (iV 1)]],[]⟩⟩
def Q5b (p0:Qab) (x1:Qdf) (y3:Bool×Bool×Bool) (o10:Bool):St:=⟨[(1,.ptr 0 0),(3,.ptr 1 0),(4,.ptr 2 0),(5,.p (bV o10))],⟨[[.p (iV p0.Kind),.p (sV p0.Name),.p (sV p0.Text),.p (iV p0.N),.p (.sl false (p0.L.map Qaa)),.p (.sl false (p0.Then.map Qaa)),.p (.sl false (p0.Else.map Qaa))],[.p (bV x1.name_),.p (bV x1.text_),.p (bV x1.num_),.p (bV x1.then_),.p (bV x1.other_),.p (iV x1.l_)],[.p (bV y3.1),.p (bV false),.p (bV false),.p (bV y3.2.1),.p (bV y3.2.2),.p (iV 1)]],[]⟩⟩
def Q5c (p0:Qab) (x1:Qdf) (y3:Bool×Bool×Bool) (o11:Bool):St:=⟨[(2,.p (bV o11))],⟨[[.p (iV p0.Kind),.p (sV p0.Name),.p (sV p0.Text),.p (iV p0.N),.p (.sl false (p0.L.map Qaa)),.p (.sl false (p0.Then.map Qaa)),.p (.sl false (p0.Else.map Qaa))],[.p (bV x1.name_),.p (bV x1.text_),.p (bV x1.num_),.p (bV x1.then_),.p (bV x1.other_),.p (iV x1.l_)],[.p (bV y3.1),.p (bV false),.p (bV false),.p (bV y3.2.1),.p (bV y3.2.2),.p (iV 1)]],[]⟩⟩
def Q08 (y:Bool):D :=.p (bV y)
def Q2s:List (Nat×List Nat):=[(0,[0,2,3,4]),(1,[2,3,4,6]),(2,[2,3,6,8]),(3,[2,3,4,6]),(4,[2,3,4,6,14]),(5,[2]),(6,[2]),(4000002,[2,3,4,6]),(3000004,[])]
def Qaga (x1:(List UInt8)) (x2:(Int×Int)) (o9:Bool):St:=⟨[(2,.ptr 0 0),(3,.p (nV .i32 x2.1)),(4,.p (iV x2.2)),(6,.fn (.func 185) [] [.p (.ep [sV x1])]),(14,.p (bV o9))],⟨[[.p (bV false)]],[]⟩⟩
def Qn2 (x1:(List UInt8)):St:=⟨[(2,.ptr 0 0),(6,.fn (.func 185) [] [.p (.ep [sV x1])])],⟨[[.p (bV false)]],[]⟩⟩
def Qzm (x1:(List UInt8)) (y7:Unit):St:=⟨[(2,.ptr 0 0),(6,.fn (.func 185) [] [.p (.ep [sV x1])])],⟨[[.p (bV false)]],[]⟩⟩
def Qzn (x1:(List UInt8)) (y8:Unit):St:=⟨[(2,.ptr 0 0)],⟨[[.p (bV false)]],[]⟩⟩
def Qwf:Code:=((Qav (Tryz.f168.body.getD .skip)).getD 0 .skip)
def Qmk (y:Int×Int):D :=.tup [.p (nV .i32 y.1),.p (iV y.2)]
def Qagb:List (Nat×List Nat):=[(0,[0,1]),(1,[0,1,17]),(2,[4,5]),(3,[0,1,6]),(4,[4,5]),(5,[0,1,6,21]),(6,[4,5]),(7,[0,1,6,26]),(8,[0,1,4,7,8]),(9,[0,1,6,36]),(10,[0,1,4,7,8]),(11,[0,1,6,46]),(12,[0,1,4,7,8]),(13,[4,7,8,9]),(14,[4,8,77]),(15,[4,5]),(16,[4,5]),(2004022,[]),(3000001,[]),(3000007,[]),(3000009,[]),(3000011,[]),(3000014,[])]
def Q9k (p0:(List UInt8)) (p1:Int) (o1:Bool):St:=⟨[(0,.p (sV p0)),(1,.p (iV p1)),(17,.p (bV o1))],⟨[],[]⟩⟩
def Q9l (p0:(List UInt8)) (p1:Int) (y4:Int×Int×Int):St:=⟨[(0,.p (sV p0)),(1,.p (iV p1)),(4,.p (nV .i32 y4.1)),(7,.p (nV .i32 y4.2.1)),(8,.p (iV y4.2.2))],⟨[],[]⟩⟩
def Q9m (p0:(List UInt8)) (p1:Int) (y5:Int):St:=⟨[(4,.p (nV .i32 y5)),(5,.p (iV 1))],⟨[],[]⟩⟩
def Q9n (p0:(List UInt8)) (p1:Int) (x2:UInt8) (o6:Bool):St:=⟨[(0,.p (sV p0)),(1,.p (iV p1)),(6,.p (nV .u8 (x2.toNat:Int))),(26,.p (bV o6))],⟨[],[]⟩⟩
def Q9o (p0:(List UInt8)) (p1:Int) (x2:UInt8) (o7:Bool):St:=⟨[(0,.p (sV p0)),(1,.p (iV p1)),(6,.p (nV .u8 (x2.toNat:Int))),(36,.p (bV o7))],⟨[],[]⟩⟩
def Q9p (p0:(List UInt8)) (p1:Int) (x2:UInt8) (o8:Bool):St:=⟨[(0,.p (sV p0)),(1,.p (iV p1)),(6,.p (nV .u8 (x2.toNat:Int))),(46,.p (bV o8))],⟨[],[]⟩⟩
def Q9q (y4:Int×Int×Int) (x10:Int×Bool) (o11:Bool):St:=⟨[(4,.p (nV .i32 x10.1)),(8,.p (iV y4.2.2)),(77,.p (bV o11))],⟨[],[]⟩⟩
def Q2t (y:(List UInt8)):D :=.fn (.func 185) [] [.p (.ep [sV y])]
def Qajq:List (Nat×List Nat):=[(0,[1]),(1,[2])]
def Qkk (y:(Int×Int)):List V:=[nV .i32 y.1,iV y.2]
def Qzo:List (Nat×List Nat):=[(0,[0,1,3]),(1,[0,1,3,9]),(2,[0,1,3,4,5]),(3,[0,1,3,5,20]),(4,[0,1,3]),(1000001,[0,1,3])]
def Qnc (p0:(List UInt8)) (v3:Int) (gxs gp:List (List V)):St:=⟨[(0,.yld Tryz.prog 0 gxs),(1,.p (.ep [sV p0])),(3,.p (iV v3))],⟨[],[gp.length]⟩⟩
def Qs6 (p0:(List UInt8)) (gxs:List (List V)) (gq1:List (List V)) (oy:Unit):St:=⟨[],⟨[],[gq1.length]⟩⟩
def Q5d:Code:=((Qav (Tryz.f185.body.getD .skip)).getD 0 .skip)
def Q9r (y:Bool):D :=.p (bV y)
def Qamc:List (Nat×List Nat):=[(0,[0]),(1,[2]),(3000001,[])]
def Qagc  (o1:Bool):St:=⟨[(2,.p (bV o1))],⟨[],[]⟩⟩
def Qpj (y:Int×Bool):D :=.tup [.p (nV .i32 y.1),.p (bV y.2)]
def Q2u:List (Nat×List Nat):=[(0,[0,1,2]),(1,[0,1,2,12]),(2,[6,7]),(3,[0,1,13,14]),(4,[0,1,13,14,15]),(5,[0,1,8,13,14]),(6,[0,1,8,13,14,21]),(7,[6,7]),(8,[0,1,13,14]),(9,[0,1,13,14]),(10,[6,7]),(1000004,[0,1,13,14])]
def Qov (p0:(List UInt8)) (p2:Int) (v1:Int) (v14:Int):St:=⟨[(0,.p (sV p0)),(1,.p (nV .i32 v1)),(13,.p (iV p2)),(14,.p (iV v14))],⟨[],[]⟩⟩
def Qvu (p0:(List UInt8)) (p2:Int) (y2:Int):St:=⟨[(1,.p (nV .i32 y2))],⟨[],[]⟩⟩
def Qvv (p0:(List UInt8)) (p2:Int) (y3:Unit):St:=⟨[(6,.p (nV .i32 0)),(7,.p (bV false))],⟨[],[]⟩⟩
def Q9s:Code:=((Qav (Tryz.f187.body.getD .skip)).getD 0 .skip)
def Qeu (p0:(List UInt8)) (p1:(List UInt8)) (p2:Int):Option (Bool) :=
 ( if(decide (p2 >= 0)) then
   if(decide (p2<=(p0.length:Int))) then
    if(decide ((p1.length:Int)<=(wr ((p0.length:Int)-p2)))) then
     cutL p0 p2 (wr (p2+(p1.length:Int)))>>=λx2 =>
     some (x2==p1)
    else
     some false
   else
    some false
  else
   some false:Option (Bool))>>=λo1 =>
 some o1
theorem Qmb:∀ (p0:(List UInt8)) (p1:(List UInt8)) (p2:Int) (o:Bool),Qeu p0 p1 p2=some o->PCall Tryz.prog 141 [sV p0,sV p1,iV p2] (Qir o):=by
 intro p0 p1 p2 o h;unfold Qeu at h;refine PCall.ofY Q8j Tryz.func141 ?_;refine Qah h (λo1 ho hk=>?_);refine Exists.intro (JP1 _ _ o1 .normal (Q2b )) (And.intro ?_ (Qaz ?_))
 .have h:=ho;refine Qac h (λhb h=>?_) (λhb h=>?_)
  .refine vrfl ?_;refine Qac h (λhb h=>?_) (λhb h=>?_)
   .refine vrfl ?_;refine vrfl ?_;refine Qac h (λhb h=>?_) (λhb h=>?_)
    .refine vrfl ?_;refine Qi4 (some p2) (some (wr (p2+(p1.length:Int)))) h (λx2 hi h=>?_);exact JP1.a h (Le.ty 0 0)
    .exact JP1.a h (Le.ty 0 0)
   .refine bF ?_;exact JP1.a h (Le.ty 0 0)
  .refine bF ?_;refine bF ?_;exact JP1.a h (Le.ty 0 0)
 .have h:=hk;refine Qak (t:=Qir) h ?_;exact .refl _
def Q2v (p0:(List (List UInt8))) (p1:(List (List UInt8))) (v5:Int):Option (Unit⊕Unit) :=
 if(decide (v5<(p0.length:Int))) then
  idx p0 v5>>=λx4 =>
  idx p1 v5>>=λx5 =>
  if(!(x4==x5)) then
   some (.inr ())
  else
   Q2v p0 p1 (wr (v5+1))
 else
  some (.inl ())
 partial_fixpoint
def Qauk (p0:(List (List UInt8))) (p1:(List (List UInt8))):Option (Bool) :=
 if((p0.length:Int) != (p1.length:Int)) then
  some false
 else
  (Q2v p0 p1 0)>>=λo1 =>
  match o1 with
  | .inl y2 =>
   some true
  | .inr y3 =>
   some false
def Qn3 (p0:Int):Option (Bool) :=
 ( if(decide (p0 >= 0)) then
   if(decide (p0<=1114111)) then
    if(decide (p0 >= 55296)) then
     some (!(decide (p0<=57343)))
    else
     some true
   else
    some false
  else
   some false:Option (Bool))>>=λo1 =>
 some o1
theorem Q2w:∀ (p0:Int) (o:Bool),Qn3 p0=some o->PCall Tryz.prog 180 [iV p0] (Qt9 o):=by
 intro p0 o h;unfold Qn3 at h;refine PCall.ofY Qaf3 Tryz.func180 ?_;refine Qah h (λo1 ho hk=>?_);refine Exists.intro (JP1 _ _ o1 .normal (Q8p )) (And.intro ?_ (Qaz ?_))
 .have h:=ho;refine Qac h (λhb h=>?_) (λhb h=>?_)
  .refine Qac h (λhb h=>?_) (λhb h=>?_)
   .refine Qac h (λhb h=>?_) (λhb h=>?_)
    .exact JP1.a h (Le.ty 0 0)
    .exact JP1.a h (Le.ty 0 0)
   .exact JP1.a h (Le.ty 0 0)
  .refine bF ?_;exact JP1.a h (Le.ty 0 0)
 .have h:=hk;refine Qak (t:=Qt9) h ?_;exact .refl _
def Qnd (p0:Int):Option ((List UInt8)) :=
 ( Qn3 p0>>=λx2 =>
  if(!x2) then
   some 65533
  else
   some p0:Option (Int))>>=λo1 =>
 if(decide (o1<128)) then
  b2s [(IntKind.u8.wrap o1)]>>=λx3 =>
  some x3
 else
  if(decide (o1<2048)) then
   b2s [(IntKind.u8.wrap (wr (192+(wr (o1.tdiv 64))))),(IntKind.u8.wrap (wr (128+(o1.tmod 64))))]>>=λx4 =>
   some x4
  else
   if(decide (o1<65536)) then
    b2s [(IntKind.u8.wrap (wr (224+(wr (o1.tdiv 4096))))),(IntKind.u8.wrap (wr (128+((wr (o1.tdiv 64)).tmod 64)))),(IntKind.u8.wrap (wr (128+(o1.tmod 64))))]>>=λx5 =>
    some x5
   else
    b2s [(IntKind.u8.wrap (wr (240+(wr (o1.tdiv 262144))))),(IntKind.u8.wrap (wr (128+((wr (o1.tdiv 4096)).tmod 64)))),(IntKind.u8.wrap (wr (128+((wr (o1.tdiv 64)).tmod 64)))),(IntKind.u8.wrap (wr (128+(o1.tmod 64))))]>>=λx6 =>
    some x6
theorem Qac9:∀ (p0:Int) (o:(List UInt8)),Qnd p0=some o->PCall Tryz.prog 181 [iV p0] (Qkb o):=by
 intro p0 o h;unfold Qnd at h;refine PCall.ofY Qacy Tryz.func181 ?_;refine Qah h (λo1 ho hk=>?_);refine Exists.intro (JP1 _ _ o1 .normal (Q4d )) (And.intro ?_ (Qaz ?_))
 .have h:=ho;refine Qam [iV p0] Qt9 h (λx2 hy=>(Q2w p0 x2 hy)) (λx2 hy h=>?_);refine Qac h (λhb h=>?_) (λhb h=>?_)
  .exact JP1.a h (Le.ty 0 0)
  .exact JP1.a h (Le.ty 0 0)
 .have h:=hk;refine Qac h (λhb h=>?_) (λhb h=>?_)
  .refine vrfl ?_;refine Qacs (l:=[(IntKind.u8.wrap o1)]) h (λx3 hi h=>?_);refine Qak (t:=Qkb) h ?_;exact .refl _
  .refine Qac h (λhb h=>?_) (λhb h=>?_)
   .refine And.intro (by decide) ?_;refine vrfl ?_;refine And.intro (by decide) ?_;refine vrfl ?_;refine Qacs (l:=[(IntKind.u8.wrap (wr (192+(wr (o1.tdiv 64))))),(IntKind.u8.wrap (wr (128+(o1.tmod 64))))]) h (λx4 hi h=>?_);refine Qak (t:=Qkb) h ?_;exact .refl _
   .refine Qac h (λhb h=>?_) (λhb h=>?_)
    .refine And.intro (by decide) ?_;refine vrfl ?_;refine And.intro (by decide) ?_;refine And.intro (by decide) ?_;refine vrfl ?_;refine And.intro (by decide) ?_;refine vrfl ?_;refine Qacs (l:=[(IntKind.u8.wrap (wr (224+(wr (o1.tdiv 4096))))),(IntKind.u8.wrap (wr (128+((wr (o1.tdiv 64)).tmod 64)))),(IntKind.u8.wrap (wr (128+(o1.tmod 64))))]) h (λx5 hi h=>?_);refine Qak (t:=Qkb) h ?_;exact .refl _
    .refine And.intro (by decide) ?_;refine vrfl ?_;refine And.intro (by decide) ?_;refine And.intro (by decide) ?_;refine vrfl ?_;refine And.intro (by decide) ?_;refine And.intro (by decide) ?_;refine vrfl ?_;refine And.intro (by decide) ?_;refine vrfl ?_;refine Qacs (l:=[(IntKind.u8.wrap (wr (240+(wr (o1.tdiv 262144))))),(IntKind.u8.wrap (wr (128+((wr (o1.tdiv 4096)).tmod 64)))),(IntKind.u8.wrap (wr (128+((wr (o1.tdiv 64)).tmod 64)))),(IntKind.u8.wrap (wr (128+(o1.tmod 64))))]) h (λx6 hi h=>?_);refine Qak (t:=Qkb) h ?_;exact .refl _
def Qee (p0:(List UInt8)) (p1:Int) (v6:(List Int)) (v7:Int) (v8:Int) (v9:Int):Option (Int) :=
 if(decide (v9<v7)) then
  idx p0 (wr (p1+v9))>>=λx9 =>
  Qee p0 p1 v6 v7 (wr ((wr ((wr (64*v8))+(wr (x9.toNat:Int))))-128)) (wr (v9+1))
 else
  some v8
 partial_fixpoint
theorem Qamd:∀ (p0:(List UInt8)) (p1:Int) (v6:(List Int)) (v7:Int),(∀ (v8:Int) (v9:Int) (o8:Int),Qee p0 p1 v6 v7 v8 v9=some o8->TL (0,0) Tryz.prog 74 Q8m (JP1 (0,0) 74 o8 (.exit 2) (Qve p0 p1 v6 v7)) (Qoj p0 p1 v6 v7 v8 v9)):=by
 intro p0 p1 v6 v7;refine Qee.partial_correctness p0 p1 v6 v7 _ ?_;intro Qee' iQee v8 v9 o8 h;refine TL.round (Qan mixed tbOk (lv:=Qwa) _ _ _ ?_);refine Qac h (λhb h=>?_) (λhb h=>?_)
 .refine Qda h (λx9 hi h=>?_);refine vrfl ?_;refine TL.le (τ := Qoj p0 p1 v6 v7 (wr ((wr ((wr (64*v8))+(wr (x9.toNat:Int))))-128)) (wr (v9+1))) ?_ ((iQee (wr ((wr ((wr (64*v8))+(wr (x9.toNat:Int))))-128)) (wr (v9+1)) _ h));exact Le.ty 0 0
 .exact JP1.a h (Le.ty 0 0)
def Qc4 (p0:(List UInt8)) (p1:Int) (v6:(List Int)) (v7:Int):Option (Unit⊕(Int×Int)) :=
 ( if(decide (v7<=4)) then
   some (decide (v7<=(wr ((p0.length:Int)-p1))))
  else
   some false:Option (Bool))>>=λo5 =>
 if o5 then
  idx p0 p1>>=λx6 =>
  idx v6 v7>>=λx7 =>
  (Qee p0 p1 v6 v7 (wr ((wr (x6.toNat:Int))-x7)) 1)>>=λo8 =>
  ( if(decide (o8 >= 0)) then
    Qn3 o8>>=λx11 =>
    if x11 then
     Qnd o8>>=λx12 =>
     cutL p0 p1 (wr (p1+v7))>>=λx13 =>
     some (x12==x13)
    else
     some false
   else
    some false:Option (Bool))>>=λo10 =>
  if o10 then
   some (.inr (o8,v7))
  else
   Qc4 p0 p1 v6 (wr (v7+1))
 else
  some (.inl ())
 partial_fixpoint
theorem Qame:∀ (p0:(List UInt8)) (p1:Int) (v6:(List Int)),(∀ (v7:Int) (o2:Unit⊕(Int×Int)),Qc4 p0 p1 v6 v7=some o2->TL (0,0) Tryz.prog 74 Q8o (JP2 (0,0) 74 o2 (.exit 0) (Qvf p0 p1) .ret (Qvg p0 p1)) (Qok p0 p1 v6 v7)):=by
 intro p0 p1 v6;refine Qc4.partial_correctness p0 p1 v6 _ ?_;intro Qc4' iQc4 v7 o2 h;refine TL.round (Qan mixed tbOk (lv:=Qwa) _ _ _ ?_);refine Qah h (λo5 ho hk=>?_);refine Exists.intro (JP1 _ _ o5 .normal (Q8l p0 p1 v6 v7)) (And.intro ?_ (Qaz ?_))
 .have h:=ho;refine Qac h (λhb h=>?_) (λhb h=>?_)
  .refine vrfl ?_;exact JP1.a h (Le.ty 0 0)
  .exact JP1.a h (Le.ty 0 0)
 .have h:=hk;refine Qac h (λhb h=>?_) (λhb h=>?_)
  .refine And.intro (by decide +kernel) (And.intro rfl ?_);refine Qda h (λx6 hi h=>?_);refine vrfl ?_;refine Qay (l:=v6) (c:=cInt) (c' := cInt) h (λ_=>rfl) (λ_=>rfl) (by decide) (λx7 hi h=>?_);refine Qah h (λo8 ho hk=>?_);refine Exists.intro (JP1 _ _ o8 (.exit 2) (Qve p0 p1 v6 v7)) (And.intro (Qf5 (τ := Qoj p0 p1 v6 v7 (wr ((wr (x6.toNat:Int))-x7)) 1) ?_ (TL.loop (Qamd p0 p1 v6 v7 (wr ((wr (x6.toNat:Int))-x7)) 1 o8 ho))) (Qaz ?_))
   .exact Le.ty 0 0
   have h:=hk;refine Qah h (λo10 ho hk=>?_);refine Exists.intro (JP1 _ _ o10 .normal (Q8n p0 p1 v6 v7 o8)) (And.intro ?_ (Qaz ?_))
   .have h:=ho;refine And.intro (by decide +kernel) (And.intro rfl ?_);refine Qac h (λhb h=>?_) (λhb h=>?_)
    .refine Qcf [iV o8] Qt9 h (λx11 hy=>(Q2w o8 x11 hy)) (λx11 hy h=>?_);refine Qac h (λhb h=>?_) (λhb h=>?_)
     .refine Qcf [iV o8] Qkb h (λx12 hy=>(Qac9 o8 x12 hy)) (λx12 hy h=>?_);refine Qi4 (some p1) (some (wr (p1+v7))) h (λx13 hi h=>?_);exact JP1.a h (Le.ty 0 0)
     .exact JP1.a h (Le.ty 0 0)
    .refine bF ?_;exact JP1.a h (Le.ty 0 0)
   .have h:=hk;refine Qac h (λhb h=>?_) (λhb h=>?_)
    .exact JP2.b h (Le.ty 0 0)
    .refine TL.le (τ := Qok p0 p1 v6 (wr (v7+1))) ?_ ((iQc4 (wr (v7+1)) _ h));exact Le.ty 0 0
  .exact JP2.a h (Le.ty 0 0)
def Qmc (p0:(List UInt8)) (p1:Int):Option (Int×Int) :=
 ( if(decide (p1<0)) then
   some true
  else
   some (decide (p1 >= (p0.length:Int))):Option (Bool))>>=λo1 =>
 if o1 then
  some (0,0)
 else
  (Qc4 p0 p1 [0,0,192,224,240] 1)>>=λo2 =>
  match o2 with
  | .inl y3 =>
   some (65533,1)
  | .inr y4 =>
   some (y4.1,y4.2)
theorem Q2x:∀ (p0:(List UInt8)) (p1:Int) (o:Int×Int),Qmc p0 p1=some o->PCall Tryz.prog 171 [sV p0,iV p1] (Qmi o):=by
 intro p0 p1 o h;unfold Qmc at h;refine PCall.ofY Qwa Tryz.func171 ?_;refine Qah h (λo1 ho hk=>?_);refine Exists.intro (JP1 _ _ o1 .normal (Q8k p0 p1)) (And.intro ?_ (Qaz ?_))
 .have h:=ho;refine Qac h (λhb h=>?_) (λhb h=>?_)
  .exact JP1.a h (Le.ty 0 0)
  .refine vrfl ?_;exact JP1.a h (Le.ty 0 0)
 .have h:=hk;refine Qac h (λhb h=>?_) (λhb h=>?_)
  .refine Qak (t:=Qmi) h ?_;exact .refl _
  .refine Qah h (λo2 ho hk=>?_);refine Exists.intro (JP2 _ _ o2 (.exit 0) (Qvf p0 p1) .ret (Qvg p0 p1)) (And.intro (Qf5 (τ := Qok p0 p1 [0,0,192,224,240] 1) ?_ (TL.loop (Qame p0 p1 [0,0,192,224,240] 1 o2 ho))) (Qer (λy3 hy=>?_) (λy4 hy=>?_)))
   .exact Le.ty 0 0
   .have h:=(by rw[hy] at hk; exact hk);refine Qak (t:=Qmi) h ?_;exact .refl _
   .have h:=(by rw[hy] at hk; exact hk);refine Qak (t:=Qmi) h ?_;exact .refl _
def Qla (p0:(List UInt8)) (v3:Int):Option (Unit⊕Unit) :=
 if(decide (v3<(p0.length:Int))) then
  Qmc p0 v3>>=λx4 =>
  ( if(x4.1==65533) then
    some (x4.2==1)
   else
    some false:Option (Bool))>>=λo5 =>
  if o5 then
   some (.inr ())
  else
   Qla p0 (wr (v3+x4.2))
 else
  some (.inl ())
 partial_fixpoint
theorem Qaox:∀ (p0:(List UInt8)),(∀ (v3:Int) (o1:Unit⊕Unit),Qla p0 v3=some o1->TL (0,0) Tryz.prog 25 Qaf2 (JP2 (0,0) 25 o1 (.exit 0) (Qzd p0) .ret (Qze p0)) (Qsc p0 v3)):=by
 intro p0;refine Qla.partial_correctness p0 _ ?_;intro Qla' iQla v3 o1 h;refine TL.round (Qan mixed tbOk (lv:=Qacz) _ _ _ ?_);refine vrfl ?_;refine Qac h (λhb h=>?_) (λhb h=>?_)
 .refine Qam [sV p0,iV v3] Qmi h (λx4 hy=>(Q2x p0 v3 x4 hy)) (λx4 hy h=>?_);refine Qah h (λo5 ho hk=>?_);refine Exists.intro (JP1 _ _ o5 .normal (Qaf1 p0 v3 x4)) (And.intro ?_ (Qaz ?_))
  .have h:=ho;refine Qac h (λhb h=>?_) (λhb h=>?_)
   .exact JP1.a h (Le.ty 0 0)
   .exact JP1.a h (Le.ty 0 0)
  .have h:=hk;refine Qac h (λhb h=>?_) (λhb h=>?_)
   .exact JP2.b h (Le.ty 0 0)
   .refine TL.le (τ := Qsc p0 (wr (v3+x4.2))) ?_ ((iQla (wr (v3+x4.2)) _ h));exact Le.ty 0 0
 .exact JP2.a h (Le.ty 0 0)
def Qada (p0:(List UInt8)):Option (Bool) :=
 (Qla p0 0)>>=λo1 =>
 match o1 with
 | .inl y2 =>
  some true
 | .inr y3 =>
  some false
theorem Qamf:∀ (p0:(List UInt8)) (o:Bool),Qada p0=some o->PCall Tryz.prog 179 [sV p0] (Q07 o):=by
 intro p0 o h;unfold Qada at h;refine PCall.ofY Qacz Tryz.func179 ?_;refine Qah h (λo1 ho hk=>?_);refine Exists.intro (JP2 _ _ o1 (.exit 0) (Qzd p0) .ret (Qze p0)) (And.intro (Qf5 (τ := Qsc p0 0) ?_ (TL.loop (Qaox p0 0 o1 ho))) (Qer (λy2 hy=>?_) (λy3 hy=>?_)))
 .exact Le.ty 0 0
 .have h:=(by rw[hy] at hk; exact hk);refine Qak (t:=Q07) h ?_;exact .refl _
 .have h:=(by rw[hy] at hk; exact hk);refine Qak (t:=Q07) h ?_;exact .refl _
def Qe0 (p0:(List UInt8)) (v4:(List UInt8)) (v5:Int):Option ((List UInt8)⊕Unit) :=
 if(decide (v5<(p0.length:Int))) then
  cutL p0 v5 (wr (v5+1))>>=λx5 =>
  if(x5==[13]) then
   some (.inr ())
  else
   ( if(x5==[10]) then
     some [92,110]
    else
     if(x5==[9]) then
      some [92,116]
     else
      ( if(x5==[34]) then
        some true
       else
        some (x5==[92]):Option (Bool))>>=λo7 =>
      if o7 then
       need ([92].length+x5.length<=9223372036854775807)>>=λ_ =>
       some ([92]++x5)
      else
       some x5:Option ((List UInt8)))>>=λo6 =>
   need (v4.length+o6.length<=9223372036854775807)>>=λ_ =>
   Qe0 p0 (v4++o6) (wr (v5+1))
 else
  some (.inl v4)
 partial_fixpoint
theorem Qakd:∀ (p0:(List UInt8)),(∀ (v4:(List UInt8)) (v5:Int) (o2:(List UInt8)⊕Unit),Qe0 p0 v4 v5=some o2->TL (0,0) Tryz.prog 40 Q4g (JP2 (0,0) 40 o2 (.exit 0) (Qsd p0) .ret (Qse p0)) (Qmz p0 v4 v5)):=by
 intro p0;refine Qe0.partial_correctness p0 _ ?_;intro Qe0' iQe0 v4 v5 o2 h;refine TL.round (Qan mixed tbOk (lv:=Qzf) _ _ _ ?_);refine vrfl ?_;refine Qac h (λhb h=>?_) (λhb h=>?_)
 .refine Qi4 (some v5) (some (wr (v5+1))) h (λx5 hi h=>?_);refine Qac h (λhb h=>?_) (λhb h=>?_)
  .exact JP2.b h (Le.ty 0 0)
  .refine Qah h (λo6 ho hk=>?_);refine Exists.intro (JP1 _ _ o6 .normal (Q4e p0 v4 v5)) (And.intro ?_ (Qaz ?_))
   .have h:=ho;refine Qac h (λhb h=>?_) (λhb h=>?_)
    .exact JP1.a h (Le.ty 0 0)
    .refine Qac h (λhb h=>?_) (λhb h=>?_)
     .exact JP1.a h (Le.ty 0 0)
     .refine Qah h (λo7 ho hk=>?_);refine Exists.intro (JP1 _ _ o7 .normal (Q4f p0 v4 v5 x5)) (And.intro ?_ (Qaz ?_))
      .have h:=ho;refine Qac h (λhb h=>?_) (λhb h=>?_)
       .exact JP1.a h (Le.ty 0 0)
       .exact JP1.a h (Le.ty 0 0)
      .have h:=hk;refine Qac h (λhb h=>?_) (λhb h=>?_)
       .refine Qr9 h (λh=>?_);exact JP1.a h (Le.ty 0 0)
       .exact JP1.a h (Le.ty 0 0)
   .have h:=hk;refine Qr9 h (λh=>?_);refine TL.le (τ := Qmz p0 (v4++o6) (wr (v5+1))) ?_ ((iQe0 (v4++o6) (wr (v5+1)) _ h));exact Le.ty 0 0
 .exact JP2.a h (Le.ty 0 0)
def Qne (p0:(List UInt8)):Option ((List UInt8)×Bool) :=
 Qada p0>>=λx1 =>
 if(!x1) then
  some ([],false)
 else
  (Qe0 p0 [34] 0)>>=λo2 =>
  match o2 with
  | .inl y3 =>
   need (y3.length+[34].length<=9223372036854775807)>>=λ_ =>
   some ((y3++[34]),true)
  | .inr y4 =>
   some ([],false)
theorem Qadb:∀ (p0:(List UInt8)) (o:(List UInt8)×Bool),Qne p0=some o->PCall Tryz.prog 170 [sV p0] (Qmy o):=by
 intro p0 o h;unfold Qne at h;refine PCall.ofY Qzf Tryz.func170 ?_;refine Qam [sV p0] Q07 h (λx1 hy=>(Qamf p0 x1 hy)) (λx1 hy h=>?_);refine Qac h (λhb h=>?_) (λhb h=>?_)
 .refine Qak (t:=Qmy) h ?_;exact .refl _
 .refine Qah h (λo2 ho hk=>?_);refine Exists.intro (JP2 _ _ o2 (.exit 0) (Qsd p0) .ret (Qse p0)) (And.intro (Qf5 (τ := Qmz p0 [34] 0) ?_ (TL.loop (Qakd p0 [34] 0 o2 ho))) (Qer (λy3 hy=>?_) (λy4 hy=>?_)))
  .exact Le.ty 0 0
  .have h:=(by rw[hy] at hk; exact hk);refine Qr9 h (λh=>?_);refine Qak (t:=Qmy) h ?_;exact .refl _
  .have h:=(by rw[hy] at hk; exact hk);refine Qak (t:=Qmy) h ?_;exact .refl _
def Qfq (p0:Int):Option (Bool) :=
 ( if(decide (p0 >= 48)) then
   some (decide (p0<=57))
  else
   some false:Option (Bool))>>=λo1 =>
 some o1
theorem Qn4:∀ (p0:Int) (o:Bool),Qfq p0=some o->PCall Tryz.prog 102 [nV .u8 p0] (Qkc o):=by
 intro p0 o h;unfold Qfq at h;refine PCall.ofY Qac0 Tryz.func102 ?_;refine Qah h (λo1 ho hk=>?_);refine Exists.intro (JP1 _ _ o1 .normal (Q4h )) (And.intro ?_ (Qaz ?_))
 .have h:=ho;refine Qac h (λhb h=>?_) (λhb h=>?_)
  .exact JP1.a h (Le.ty 0 0)
  .exact JP1.a h (Le.ty 0 0)
 .have h:=hk;refine Qak (t:=Qkc) h ?_;exact .refl _
def Qfr (p0:Int):Option (Bool) :=
 ( if(decide (p0 >= 97)) then
   some (decide (p0<=122))
  else
   some false:Option (Bool))>>=λo1 =>
 some o1
theorem Qn5:∀ (p0:Int) (o:Bool),Qfr p0=some o->PCall Tryz.prog 101 [nV .u8 p0] (Qkd o):=by
 intro p0 o h;unfold Qfr at h;refine PCall.ofY Qac1 Tryz.func101 ?_;refine Qah h (λo1 ho hk=>?_);refine Exists.intro (JP1 _ _ o1 .normal (Q4i )) (And.intro ?_ (Qaz ?_))
 .have h:=ho;refine Qac h (λhb h=>?_) (λhb h=>?_)
  .exact JP1.a h (Le.ty 0 0)
  .exact JP1.a h (Le.ty 0 0)
 .have h:=hk;refine Qak (t:=Qkd) h ?_;exact .refl _
def Qef (p0:(List UInt8)) (v3:Int):Option (Unit⊕Unit) :=
 if(decide (v3<(p0.length:Int))) then
  ( idx p0 v3>>=λx8 =>
   Qfr (x8.toNat:Int)>>=λx9 =>
   if(!x9) then
    idx p0 v3>>=λx10 =>
    Qfq (x10.toNat:Int)>>=λx11 =>
    if(!x11) then
     idx p0 v3>>=λx12 =>
     some ((x12.toNat:Int) != 95)
    else
     some false
   else
    some false:Option (Bool))>>=λo7 =>
  if o7 then
   some (.inr ())
  else
   Qef p0 (wr (v3+1))
 else
  some (.inl ())
 partial_fixpoint
theorem Qamg:∀ (p0:(List UInt8)),(∀ (v3:Int) (o4:Unit⊕Unit),Qef p0 v3=some o4->TL (0,0) Tryz.prog 42 Q8s (JP2 (0,0) 42 o4 (.exit 0) (Qvh p0) .ret (Qvi p0)) (Qol p0 v3)):=by
 intro p0;refine Qef.partial_correctness p0 _ ?_;intro Qef' iQef v3 o4 h;refine TL.round (Qan mixed tbOk (lv:=Q2c) _ _ _ ?_);refine vrfl ?_;refine Qac h (λhb h=>?_) (λhb h=>?_)
 .refine Qah h (λo7 ho hk=>?_);refine Exists.intro (JP1 _ _ o7 .normal (Q8r p0 v3)) (And.intro ?_ (Qaz ?_))
  .have h:=ho;refine Qda h (λx8 hi h=>?_);refine Qam [nV .u8 (x8.toNat:Int)] Qkd h (λx9 hy=>(Qn5 (x8.toNat:Int) x9 hy)) (λx9 hy h=>?_);refine Qac h (λhb h=>?_) (λhb h=>?_)
   .refine Qda h (λx10 hi h=>?_);refine Qam [nV .u8 (x10.toNat:Int)] Qkc h (λx11 hy=>(Qn4 (x10.toNat:Int) x11 hy)) (λx11 hy h=>?_);refine Qac h (λhb h=>?_) (λhb h=>?_)
    .refine Qda h (λx12 hi h=>?_);exact JP1.a h (Le.ty 0 0)
    .exact JP1.a h (Le.ty 0 0)
   .refine bF ?_;exact JP1.a h (Le.ty 0 0)
  .have h:=hk;refine Qac h (λhb h=>?_) (λhb h=>?_)
   .exact JP2.b h (Le.ty 0 0)
   .refine TL.le (τ := Qol p0 (wr (v3+1))) ?_ ((iQef (wr (v3+1)) _ h));exact Le.ty 0 0
 .exact JP2.a h (Le.ty 0 0)
def Qh2 (p0:(List UInt8)):Option (Bool) :=
 ( if(decide ((p0.length:Int)<1)) then
   some true
  else
   if(decide ((p0.length:Int)>32)) then
    some true
   else
    idx p0 0>>=λx2 =>
    Qfr (x2.toNat:Int)>>=λx3 =>
    some (!x3):Option (Bool))>>=λo1 =>
 if o1 then
  some false
 else
  (Qef p0 0)>>=λo4 =>
  match o4 with
  | .inl y5 =>
   some true
  | .inr y6 =>
   some false
theorem Qnf:∀ (p0:(List UInt8)) (o:Bool),Qh2 p0=some o->PCall Tryz.prog 77 [sV p0] (Qhd o):=by
 intro p0 o h;unfold Qh2 at h;refine PCall.ofY Q2c Tryz.func77 ?_;refine Qah h (λo1 ho hk=>?_);refine Exists.intro (JP1 _ _ o1 .normal (Q8q p0)) (And.intro ?_ (Qaz ?_))
 .have h:=ho;refine vrfl ?_;refine Qac h (λhb h=>?_) (λhb h=>?_)
  .refine bT ?_;exact JP1.a h (Le.ty 0 0)
  .refine vrfl ?_;refine Qac h (λhb h=>?_) (λhb h=>?_)
   .exact JP1.a h (Le.ty 0 0)
   .refine Qda h (λx2 hi h=>?_);refine Qam [nV .u8 (x2.toNat:Int)] Qkd h (λx3 hy=>(Qn5 (x2.toNat:Int) x3 hy)) (λx3 hy h=>?_);exact JP1.a h (Le.ty 0 0)
 .have h:=hk;refine Qac h (λhb h=>?_) (λhb h=>?_)
  .refine Qak (t:=Qhd) h ?_;exact .refl _
  .refine Qah h (λo4 ho hk=>?_);refine Exists.intro (JP2 _ _ o4 (.exit 0) (Qvh p0) .ret (Qvi p0)) (And.intro (Qf5 (τ := Qol p0 0) ?_ (TL.loop (Qamg p0 0 o4 ho))) (Qer (λy5 hy=>?_) (λy6 hy=>?_)))
   .exact Le.ty 0 0
   .have h:=(by rw[hy] at hk; exact hk);refine Qak (t:=Qhd) h ?_;exact .refl _
   .have h:=(by rw[hy] at hk; exact hk);refine Qak (t:=Qhd) h ?_;exact .refl _
mutual
def Qdv (p0:(List Qab)):Option (Int) :=
 (Qd7 p0 0 0)>>=λo1 =>
 some o1
 partial_fixpoint
def Qd7 (p0:(List Qab)) (v3:Int) (v4:Int):Option (Int) :=
 if(decide (v4<(p0.length:Int))) then
  idx p0 v4>>=λx2 =>
  Qdv x2.L>>=λx3 =>
  idx p0 v4>>=λx4 =>
  Qdv x4.Then>>=λx5 =>
  idx p0 v4>>=λx6 =>
  Qdv x6.Else>>=λx7 =>
  Qd7 p0 (wr ((wr ((wr ((wr (v3+1))+x3))+x5))+x7)) (wr (v4+1))
 else
  some v3
 partial_fixpoint
end
theorem Q9t:(∀ (p0:(List Qab)) (o:Int),Qdv p0=some o->PCall Tryz.prog 80 [.sl false (p0.map Qaa)] (Qga o))/\(∀ (p0:(List Qab)) (v3:Int) (v4:Int) (o1:Int),Qd7 p0 v3 v4=some o1->TL (0,0) Tryz.prog 35 Q4j (JP1 (0,0) 35 o1 (.exit 0) (Qsf p0)) (Qm0 p0 v3 v4)):=by
 refine Qdv.mutual_partial_correctness _ _ ?_ ?_
 .intro Qd7' iQd7 p0 o h;refine PCall.ofY Qzg Tryz.func80 ?_;refine Qah h (λo1 ho hk=>?_);refine Exists.intro (JP1 _ _ o1 (.exit 0) (Qsf p0)) (And.intro (Qf5 (τ := Qm0 p0 0 0) ?_ (TL.loop (iQd7 p0 0 0 o1 ho))) (Qaz ?_))
  .exact Le.ty 0 0
  have h:=hk;refine Qak (t:=Qga) h ?_;exact .refl _
 .intro Qdv' Qd7' iQdv iQd7 p0 v3 v4 o1 h;refine TL.round (Qan mixed tbOk (lv:=Qzg) _ _ _ ?_);refine view (Qau _ _) rfl ?_;refine Qac h (λhb h=>?_) (λhb h=>?_)
  .refine And.intro (by decide +kernel) (And.intro rfl ?_);refine Qay (l:=p0) (c:=Qaa) (c' := Qa1) h Qao (λ_=>rfl) (by decide) (λx2 hi h=>?_);refine Qcf [.sl false (x2.L.map Qaa)] Qga h (λx3 hy=>(iQdv x2.L x3 hy)) (λx3 hy h=>?_);refine Qay (l:=p0) (c:=Qaa) (c' := Qa1) h Qao (λ_=>rfl) (by decide) (λx4 hi h=>?_);refine Qcf [.sl false (x4.Then.map Qaa)] Qga h (λx5 hy=>(iQdv x4.Then x5 hy)) (λx5 hy h=>?_);refine Qay (l:=p0) (c:=Qaa) (c' := Qa1) h Qao (λ_=>rfl) (by decide) (λx6 hi h=>?_);refine Qcf [.sl false (x6.Else.map Qaa)] Qga h (λx7 hy=>(iQdv x6.Else x7 hy)) (λx7 hy h=>?_);refine TL.le (τ := Qm0 p0 (wr ((wr ((wr ((wr (v3+1))+x3))+x5))+x7)) (wr (v4+1))) ?_ ((iQd7 p0 (wr ((wr ((wr ((wr (v3+1))+x3))+x5))+x7)) (wr (v4+1)) _ h));exact Le.ty 0 0
  .exact JP1.a h (Le.ty 0 0)
theorem Qzp:∀ (p0:(List Qab)) (o:Int),Qdv p0=some o->PCall Tryz.prog 80 [.sl false (p0.map Qaa)] (Qga o):=λp0=>Q9t.1 p0
mutual
def Qe6 (p0:(List Qab)):Option (Int) :=
 (Qe7 p0 0 0)>>=λo1 =>
 some o1
 partial_fixpoint
def Qe7 (p0:(List Qab)) (v3:Int) (v4:Int):Option (Int) :=
 if(decide (v4<(p0.length:Int))) then
  idx p0 v4>>=λx2 =>
  Qe6 x2.L>>=λx3 =>
  idx p0 v4>>=λx4 =>
  Qe6 x4.Then>>=λx5 =>
  idx p0 v4>>=λx6 =>
  Qe6 x6.Else>>=λx7 =>
  Qe7 p0 (if(wr (1+(if x7>(if x5>x3 then x5 else x3) then x7 else(if x5>x3 then x5 else x3))))>v3 then(wr (1+(if x7>(if x5>x3 then x5 else x3) then x7 else(if x5>x3 then x5 else x3)))) else v3) (wr (v4+1))
 else
  some v3
 partial_fixpoint
end
theorem Qadc:(∀ (p0:(List Qab)) (o:Int),Qe6 p0=some o->PCall Tryz.prog 79 [.sl false (p0.map Qaa)] (Qis o))/\(∀ (p0:(List Qab)) (v3:Int) (v4:Int) (o1:Int),Qe7 p0 v3 v4=some o1->TL (0,0) Tryz.prog 34 Q8t (JP1 (0,0) 34 o1 (.exit 0) (Qvj p0)) (Qom p0 v3 v4)):=by
 refine Qe6.mutual_partial_correctness _ _ ?_ ?_
 .intro Qe7' iQe7 p0 o h;refine PCall.ofY Q2d Tryz.func79 ?_;refine Qah h (λo1 ho hk=>?_);refine Exists.intro (JP1 _ _ o1 (.exit 0) (Qvj p0)) (And.intro (Qf5 (τ := Qom p0 0 0) ?_ (TL.loop (iQe7 p0 0 0 o1 ho))) (Qaz ?_))
  .exact Le.ty 0 0
  have h:=hk;refine Qak (t:=Qis) h ?_;exact .refl _
 .intro Qe6' Qe7' iQe6 iQe7 p0 v3 v4 o1 h;refine TL.round (Qan mixed tbOk (lv:=Q2d) _ _ _ ?_);refine view (Qau _ _) rfl ?_;refine Qac h (λhb h=>?_) (λhb h=>?_)
  .refine And.intro (by decide +kernel) (And.intro rfl ?_);refine Qay (l:=p0) (c:=Qaa) (c' := Qa1) h Qao (λ_=>rfl) (by decide) (λx2 hi h=>?_);refine Qcf [.sl false (x2.L.map Qaa)] Qis h (λx3 hy=>(iQe6 x2.L x3 hy)) (λx3 hy h=>?_);refine Qay (l:=p0) (c:=Qaa) (c' := Qa1) h Qao (λ_=>rfl) (by decide) (λx4 hi h=>?_);refine Qcf [.sl false (x4.Then.map Qaa)] Qis h (λx5 hy=>(iQe6 x4.Then x5 hy)) (λx5 hy h=>?_);refine Qay (l:=p0) (c:=Qaa) (c' := Qa1) h Qao (λ_=>rfl) (by decide) (λx6 hi h=>?_);refine Qcf [.sl false (x6.Else.map Qaa)] Qis h (λx7 hy=>(iQe6 x6.Else x7 hy)) (λx7 hy h=>?_);refine TL.le (τ := Qom p0 (if(wr (1+(if x7>(if x5>x3 then x5 else x3) then x7 else(if x5>x3 then x5 else x3))))>v3 then(wr (1+(if x7>(if x5>x3 then x5 else x3) then x7 else(if x5>x3 then x5 else x3)))) else v3) (wr (v4+1))) ?_ ((iQe7 p0 (if(wr (1+(if x7>(if x5>x3 then x5 else x3) then x7 else(if x5>x3 then x5 else x3))))>v3 then(wr (1+(if x7>(if x5>x3 then x5 else x3) then x7 else(if x5>x3 then x5 else x3)))) else v3) (wr (v4+1)) _ h));exact Le.ty 0 0
  .exact JP1.a h (Le.ty 0 0)
theorem Q2y:∀ (p0:(List Qab)) (o:Int),Qe6 p0=some o->PCall Tryz.prog 79 [.sl false (p0.map Qaa)] (Qis o):=λp0=>Qadc.1 p0
def Qdw (p0:(List UInt8)) (x1:(List (List UInt8))) (v4:Int):Option (Unit⊕Unit) :=
 if(decide (v4<(x1.length:Int))) then
  idx x1 v4>>=λx5 =>
  if(x5==p0) then
   some (.inr ())
  else
   Qdw p0 x1 (wr (v4+1))
 else
  some (.inl ())
 partial_fixpoint
theorem Qamh:∀ (p0:(List UInt8)) (x1:(List (List UInt8))),(∀ (v4:Int) (o2:Unit⊕Unit),Qdw p0 x1 v4=some o2->TL (0,0) Tryz.prog 20 Q8v (JP2 (0,0) 20 o2 (.exit 0) (Qvk p0 x1) .ret (Qvl p0 x1)) (Qon p0 x1 v4)):=by
 intro p0 x1;refine Qdw.partial_correctness p0 x1 _ ?_;intro Qdw' iQdw v4 o2 h;refine TL.round (Qan mixed tbOk (lv:=Q2e) _ _ _ ?_);refine view (Qau _ _) rfl ?_;refine Qac h (λhb h=>?_) (λhb h=>?_)
 .refine Qay (l:=x1) (c:=cStr) (c' := cStr) h (λ_=>rfl) (λ_=>rfl) (by decide) (λx5 hi h=>?_);refine Qac h (λhb h=>?_) (λhb h=>?_)
  .exact JP2.b h (Le.ty 0 0)
  .refine TL.le (τ := Qon p0 x1 (wr (v4+1))) ?_ ((iQdw (wr (v4+1)) _ h));exact Le.ty 0 0
 .exact JP2.a h (Le.ty 0 0)
def Qs7:Option ((List (List UInt8))) :=
 some ([[105,102],[101,108,115,101],[101,110,100],[101,97,99,104],[105,110],[108,101,116],[117,115,101],[116,114,117,101],[102,97,108,115,101],[115,101,99,114,101,116]])
theorem Qadd:∀ (o:(List (List UInt8))),Qs7  = some o->PCall Tryz.prog 76 [] (Qwb o):=by
 intro o h;unfold Qs7 at h;refine PCall.ofY Qac2 Tryz.func76 ?_;refine Qak (t:=Qwb) h ?_;exact .p (.not)
def Qhg (p0:(List UInt8)):Option (Bool) :=
 Qs7>>=λx1 =>
 (Qdw p0 x1 0)>>=λo2 =>
 match o2 with
 | .inl y3 =>
  Qh2 p0>>=λx6 =>
  some x6
 | .inr y4 =>
  some false
theorem Qkl:∀ (p0:(List UInt8)) (o:Bool),Qhg p0=some o->PCall Tryz.prog 43 [sV p0] (Qhe o):=by
 intro p0 o h;unfold Qhg at h;refine PCall.ofY Q2e Tryz.func43 ?_;refine Qam [] Qwb h (λx1 hy=>(Qadd x1 hy)) (λx1 hy h=>?_);refine Qah h (λo2 ho hk=>?_);refine Exists.intro (JP2 _ _ o2 (.exit 0) (Qvk p0 x1) .ret (Qvl p0 x1)) (And.intro (Qf5 (τ := Qon p0 x1 0) ?_ (TL.loop (Qamh p0 x1 0 o2 ho))) (Qer (λy3 hy=>?_) (λy4 hy=>?_)))
 .exact Le.ty 0 0
 .have h:=(by rw[hy] at hk; exact hk);refine Qam [sV p0] Qhd h (λx6 hy=>(Qnf p0 x6 hy)) (λx6 hy h=>?_);refine Qak (t:=Qhe) h ?_;exact .refl _
 .have h:=(by rw[hy] at hk; exact hk);refine Qak (t:=Qhe) h ?_;exact .refl _
def Qd8 (p0:Qab) (p1:Bool) (p2:Bool) (p3:Bool) (p4:Bool) (p5:Bool):Option (Bool) :=
 ( if p1 then
   if p2 then
    if p3 then
     if p4 then
      if p5 then
       if(p0.Kind==10) then
        some true
       else
        some ((p0.Else.length:Int)==0)
      else
       if((p0.Then.length:Int)==0) then
        if(p0.Kind==10) then
         some true
        else
         some ((p0.Else.length:Int)==0)
       else
        some false
     else
      if((p0.L.length:Int)==0) then
       if p5 then
        if(p0.Kind==10) then
         some true
        else
         some ((p0.Else.length:Int)==0)
       else
        if((p0.Then.length:Int)==0) then
         if(p0.Kind==10) then
          some true
         else
          some ((p0.Else.length:Int)==0)
        else
         some false
      else
       some false
    else
     if(p0.N==0) then
      if p4 then
       if p5 then
        if(p0.Kind==10) then
         some true
        else
         some ((p0.Else.length:Int)==0)
       else
        if((p0.Then.length:Int)==0) then
         if(p0.Kind==10) then
          some true
         else
          some ((p0.Else.length:Int)==0)
        else
         some false
      else
       if((p0.L.length:Int)==0) then
        if p5 then
         if(p0.Kind==10) then
          some true
         else
          some ((p0.Else.length:Int)==0)
        else
         if((p0.Then.length:Int)==0) then
          if(p0.Kind==10) then
           some true
          else
           some ((p0.Else.length:Int)==0)
         else
          some false
       else
        some false
     else
      some false
   else
    if(p0.Text==[]) then
     if p3 then
      if p4 then
       if p5 then
        if(p0.Kind==10) then
         some true
        else
         some ((p0.Else.length:Int)==0)
       else
        if((p0.Then.length:Int)==0) then
         if(p0.Kind==10) then
          some true
         else
          some ((p0.Else.length:Int)==0)
        else
         some false
      else
       if((p0.L.length:Int)==0) then
        if p5 then
         if(p0.Kind==10) then
          some true
         else
          some ((p0.Else.length:Int)==0)
        else
         if((p0.Then.length:Int)==0) then
          if(p0.Kind==10) then
           some true
          else
           some ((p0.Else.length:Int)==0)
         else
          some false
       else
        some false
     else
      if(p0.N==0) then
       if p4 then
        if p5 then
         if(p0.Kind==10) then
          some true
         else
          some ((p0.Else.length:Int)==0)
        else
         if((p0.Then.length:Int)==0) then
          if(p0.Kind==10) then
           some true
          else
           some ((p0.Else.length:Int)==0)
         else
          some false
       else
        if((p0.L.length:Int)==0) then
         if p5 then
          if(p0.Kind==10) then
           some true
          else
           some ((p0.Else.length:Int)==0)
         else
          if((p0.Then.length:Int)==0) then
           if(p0.Kind==10) then
            some true
           else
            some ((p0.Else.length:Int)==0)
          else
           some false
        else
         some false
      else
       some false
    else
     some false
  else
   if(p0.Name==[]) then
    if p2 then
     if p3 then
      if p4 then
       if p5 then
        if(p0.Kind==10) then
         some true
        else
         some ((p0.Else.length:Int)==0)
       else
        if((p0.Then.length:Int)==0) then
         if(p0.Kind==10) then
          some true
         else
          some ((p0.Else.length:Int)==0)
        else
         some false
      else
       if((p0.L.length:Int)==0) then
        if p5 then
         if(p0.Kind==10) then
          some true
         else
          some ((p0.Else.length:Int)==0)
        else
         if((p0.Then.length:Int)==0) then
          if(p0.Kind==10) then
           some true
          else
           some ((p0.Else.length:Int)==0)
         else
          some false
       else
        some false
     else
      if(p0.N==0) then
       if p4 then
        if p5 then
         if(p0.Kind==10) then
          some true
         else
          some ((p0.Else.length:Int)==0)
        else
         if((p0.Then.length:Int)==0) then
          if(p0.Kind==10) then
           some true
          else
           some ((p0.Else.length:Int)==0)
         else
          some false
       else
        if((p0.L.length:Int)==0) then
         if p5 then
          if(p0.Kind==10) then
           some true
          else
           some ((p0.Else.length:Int)==0)
         else
          if((p0.Then.length:Int)==0) then
           if(p0.Kind==10) then
            some true
           else
            some ((p0.Else.length:Int)==0)
          else
           some false
        else
         some false
      else
       some false
    else
     if(p0.Text==[]) then
      if p3 then
       if p4 then
        if p5 then
         if(p0.Kind==10) then
          some true
         else
          some ((p0.Else.length:Int)==0)
        else
         if((p0.Then.length:Int)==0) then
          if(p0.Kind==10) then
           some true
          else
           some ((p0.Else.length:Int)==0)
         else
          some false
       else
        if((p0.L.length:Int)==0) then
         if p5 then
          if(p0.Kind==10) then
           some true
          else
           some ((p0.Else.length:Int)==0)
         else
          if((p0.Then.length:Int)==0) then
           if(p0.Kind==10) then
            some true
           else
            some ((p0.Else.length:Int)==0)
          else
           some false
        else
         some false
      else
       if(p0.N==0) then
        if p4 then
         if p5 then
          if(p0.Kind==10) then
           some true
          else
           some ((p0.Else.length:Int)==0)
         else
          if((p0.Then.length:Int)==0) then
           if(p0.Kind==10) then
            some true
           else
            some ((p0.Else.length:Int)==0)
          else
           some false
        else
         if((p0.L.length:Int)==0) then
          if p5 then
           if(p0.Kind==10) then
            some true
           else
            some ((p0.Else.length:Int)==0)
          else
           if((p0.Then.length:Int)==0) then
            if(p0.Kind==10) then
             some true
            else
             some ((p0.Else.length:Int)==0)
           else
            some false
         else
          some false
       else
        some false
     else
      some false
   else
    some false:Option (Bool))>>=λo1 =>
 some o1
theorem Qc5:∀ (p0:Qab) (p1:Bool) (p2:Bool) (p3:Bool) (p4:Bool) (p5:Bool) (o:Bool),Qd8 p0 p1 p2 p3 p4 p5=some o->PCall Tryz.prog 132 [.agg [iV p0.Kind,sV p0.Name,sV p0.Text,iV p0.N,.sl false (p0.L.map Qaa),.sl false (p0.Then.map Qaa),.sl false (p0.Else.map Qaa)],bV p1,bV p2,bV p3,bV p4,bV p5] (Qc1 o):=by
 intro p0 p1 p2 p3 p4 p5 o h;unfold Qd8 at h;refine PCall.ofY Qaf5 Tryz.func132 ?_;refine Qah h (λo1 ho hk=>?_);refine Exists.intro (JP1 _ _ o1 .normal (Q8w p0)) (And.intro ?_ (Qaz ?_))
 .have h:=ho;refine Qac h (λhb h=>?_) (λhb h=>?_)
  .refine bT ?_;refine Qac h (λhb h=>?_) (λhb h=>?_)
   .refine bT ?_;refine Qac h (λhb h=>?_) (λhb h=>?_)
    .refine bT ?_;refine Qac h (λhb h=>?_) (λhb h=>?_)
     .refine bT ?_;refine Qac h (λhb h=>?_) (λhb h=>?_)
      .refine bT ?_;refine Qac h (λhb h=>?_) (λhb h=>?_)
       .exact JP1.a h (Le.ty 1 0)
       .refine view (Qau _ _) rfl ?_;exact JP1.a h (Le.ty 1 0)
      .refine view (Qau _ _) rfl ?_;refine Qac h (λhb h=>?_) (λhb h=>?_)
       .refine Qac h (λhb h=>?_) (λhb h=>?_)
        .exact JP1.a h (Le.ty 1 0)
        .refine view (Qau _ _) rfl ?_;exact JP1.a h (Le.ty 1 0)
       .exact JP1.a h (Le.ty 1 0)
     .refine view (Qau _ _) rfl ?_;refine Qac h (λhb h=>?_) (λhb h=>?_)
      .refine Qac h (λhb h=>?_) (λhb h=>?_)
       .refine bT ?_;refine Qac h (λhb h=>?_) (λhb h=>?_)
        .exact JP1.a h (Le.ty 1 0)
        .refine view (Qau _ _) rfl ?_;exact JP1.a h (Le.ty 1 0)
       .refine view (Qau _ _) rfl ?_;refine Qac h (λhb h=>?_) (λhb h=>?_)
        .refine Qac h (λhb h=>?_) (λhb h=>?_)
         .exact JP1.a h (Le.ty 1 0)
         .refine view (Qau _ _) rfl ?_;exact JP1.a h (Le.ty 1 0)
        .exact JP1.a h (Le.ty 1 0)
      .refine bF ?_;exact JP1.a h (Le.ty 1 0)
    .refine Qac h (λhb h=>?_) (λhb h=>?_)
     .refine Qac h (λhb h=>?_) (λhb h=>?_)
      .refine bT ?_;refine Qac h (λhb h=>?_) (λhb h=>?_)
       .refine bT ?_;refine Qac h (λhb h=>?_) (λhb h=>?_)
        .exact JP1.a h (Le.ty 1 0)
        .refine view (Qau _ _) rfl ?_;exact JP1.a h (Le.ty 1 0)
       .refine view (Qau _ _) rfl ?_;refine Qac h (λhb h=>?_) (λhb h=>?_)
        .refine Qac h (λhb h=>?_) (λhb h=>?_)
         .exact JP1.a h (Le.ty 1 0)
         .refine view (Qau _ _) rfl ?_;exact JP1.a h (Le.ty 1 0)
        .exact JP1.a h (Le.ty 1 0)
      .refine view (Qau _ _) rfl ?_;refine Qac h (λhb h=>?_) (λhb h=>?_)
       .refine Qac h (λhb h=>?_) (λhb h=>?_)
        .refine bT ?_;refine Qac h (λhb h=>?_) (λhb h=>?_)
         .exact JP1.a h (Le.ty 1 0)
         .refine view (Qau _ _) rfl ?_;exact JP1.a h (Le.ty 1 0)
        .refine view (Qau _ _) rfl ?_;refine Qac h (λhb h=>?_) (λhb h=>?_)
         .refine Qac h (λhb h=>?_) (λhb h=>?_)
          .exact JP1.a h (Le.ty 1 0)
          .refine view (Qau _ _) rfl ?_;exact JP1.a h (Le.ty 1 0)
         .exact JP1.a h (Le.ty 1 0)
       .refine bF ?_;exact JP1.a h (Le.ty 1 0)
     .refine bF ?_;refine bF ?_;exact JP1.a h (Le.ty 1 0)
   .refine Qac h (λhb h=>?_) (λhb h=>?_)
    .refine Qac h (λhb h=>?_) (λhb h=>?_)
     .refine bT ?_;refine Qac h (λhb h=>?_) (λhb h=>?_)
      .refine bT ?_;refine Qac h (λhb h=>?_) (λhb h=>?_)
       .refine bT ?_;refine Qac h (λhb h=>?_) (λhb h=>?_)
        .exact JP1.a h (Le.ty 1 0)
        .refine view (Qau _ _) rfl ?_;exact JP1.a h (Le.ty 1 0)
       .refine view (Qau _ _) rfl ?_;refine Qac h (λhb h=>?_) (λhb h=>?_)
        .refine Qac h (λhb h=>?_) (λhb h=>?_)
         .exact JP1.a h (Le.ty 1 0)
         .refine view (Qau _ _) rfl ?_;exact JP1.a h (Le.ty 1 0)
        .exact JP1.a h (Le.ty 1 0)
      .refine view (Qau _ _) rfl ?_;refine Qac h (λhb h=>?_) (λhb h=>?_)
       .refine Qac h (λhb h=>?_) (λhb h=>?_)
        .refine bT ?_;refine Qac h (λhb h=>?_) (λhb h=>?_)
         .exact JP1.a h (Le.ty 1 0)
         .refine view (Qau _ _) rfl ?_;exact JP1.a h (Le.ty 1 0)
        .refine view (Qau _ _) rfl ?_;refine Qac h (λhb h=>?_) (λhb h=>?_)
         .refine Qac h (λhb h=>?_) (λhb h=>?_)
          .exact JP1.a h (Le.ty 1 0)
          .refine view (Qau _ _) rfl ?_;exact JP1.a h (Le.ty 1 0)
         .exact JP1.a h (Le.ty 1 0)
       .refine bF ?_;exact JP1.a h (Le.ty 1 0)
     .refine Qac h (λhb h=>?_) (λhb h=>?_)
      .refine Qac h (λhb h=>?_) (λhb h=>?_)
       .refine bT ?_;refine Qac h (λhb h=>?_) (λhb h=>?_)
        .refine bT ?_;refine Qac h (λhb h=>?_) (λhb h=>?_)
         .exact JP1.a h (Le.ty 1 0)
         .refine view (Qau _ _) rfl ?_;exact JP1.a h (Le.ty 1 0)
        .refine view (Qau _ _) rfl ?_;refine Qac h (λhb h=>?_) (λhb h=>?_)
         .refine Qac h (λhb h=>?_) (λhb h=>?_)
          .exact JP1.a h (Le.ty 1 0)
          .refine view (Qau _ _) rfl ?_;exact JP1.a h (Le.ty 1 0)
         .exact JP1.a h (Le.ty 1 0)
       .refine view (Qau _ _) rfl ?_;refine Qac h (λhb h=>?_) (λhb h=>?_)
        .refine Qac h (λhb h=>?_) (λhb h=>?_)
         .refine bT ?_;refine Qac h (λhb h=>?_) (λhb h=>?_)
          .exact JP1.a h (Le.ty 1 0)
          .refine view (Qau _ _) rfl ?_;exact JP1.a h (Le.ty 1 0)
         .refine view (Qau _ _) rfl ?_;refine Qac h (λhb h=>?_) (λhb h=>?_)
          .refine Qac h (λhb h=>?_) (λhb h=>?_)
           .exact JP1.a h (Le.ty 1 0)
           .refine view (Qau _ _) rfl ?_;exact JP1.a h (Le.ty 1 0)
          .exact JP1.a h (Le.ty 1 0)
        .refine bF ?_;exact JP1.a h (Le.ty 1 0)
      .refine bF ?_;refine bF ?_;exact JP1.a h (Le.ty 1 0)
    .refine bF ?_;refine bF ?_;refine bF ?_;exact JP1.a h (Le.ty 1 0)
  .refine Qac h (λhb h=>?_) (λhb h=>?_)
   .refine Qac h (λhb h=>?_) (λhb h=>?_)
    .refine bT ?_;refine Qac h (λhb h=>?_) (λhb h=>?_)
     .refine bT ?_;refine Qac h (λhb h=>?_) (λhb h=>?_)
      .refine bT ?_;refine Qac h (λhb h=>?_) (λhb h=>?_)
       .refine bT ?_;refine Qac h (λhb h=>?_) (λhb h=>?_)
        .exact JP1.a h (Le.ty 1 0)
        .refine view (Qau _ _) rfl ?_;exact JP1.a h (Le.ty 1 0)
       .refine view (Qau _ _) rfl ?_;refine Qac h (λhb h=>?_) (λhb h=>?_)
        .refine Qac h (λhb h=>?_) (λhb h=>?_)
         .exact JP1.a h (Le.ty 1 0)
         .refine view (Qau _ _) rfl ?_;exact JP1.a h (Le.ty 1 0)
        .exact JP1.a h (Le.ty 1 0)
      .refine view (Qau _ _) rfl ?_;refine Qac h (λhb h=>?_) (λhb h=>?_)
       .refine Qac h (λhb h=>?_) (λhb h=>?_)
        .refine bT ?_;refine Qac h (λhb h=>?_) (λhb h=>?_)
         .exact JP1.a h (Le.ty 1 0)
         .refine view (Qau _ _) rfl ?_;exact JP1.a h (Le.ty 1 0)
        .refine view (Qau _ _) rfl ?_;refine Qac h (λhb h=>?_) (λhb h=>?_)
         .refine Qac h (λhb h=>?_) (λhb h=>?_)
          .exact JP1.a h (Le.ty 1 0)
          .refine view (Qau _ _) rfl ?_;exact JP1.a h (Le.ty 1 0)
         .exact JP1.a h (Le.ty 1 0)
       .refine bF ?_;exact JP1.a h (Le.ty 1 0)
     .refine Qac h (λhb h=>?_) (λhb h=>?_)
      .refine Qac h (λhb h=>?_) (λhb h=>?_)
       .refine bT ?_;refine Qac h (λhb h=>?_) (λhb h=>?_)
        .refine bT ?_;refine Qac h (λhb h=>?_) (λhb h=>?_)
         .exact JP1.a h (Le.ty 1 0)
         .refine view (Qau _ _) rfl ?_;exact JP1.a h (Le.ty 1 0)
        .refine view (Qau _ _) rfl ?_;refine Qac h (λhb h=>?_) (λhb h=>?_)
         .refine Qac h (λhb h=>?_) (λhb h=>?_)
          .exact JP1.a h (Le.ty 1 0)
          .refine view (Qau _ _) rfl ?_;exact JP1.a h (Le.ty 1 0)
         .exact JP1.a h (Le.ty 1 0)
       .refine view (Qau _ _) rfl ?_;refine Qac h (λhb h=>?_) (λhb h=>?_)
        .refine Qac h (λhb h=>?_) (λhb h=>?_)
         .refine bT ?_;refine Qac h (λhb h=>?_) (λhb h=>?_)
          .exact JP1.a h (Le.ty 1 0)
          .refine view (Qau _ _) rfl ?_;exact JP1.a h (Le.ty 1 0)
         .refine view (Qau _ _) rfl ?_;refine Qac h (λhb h=>?_) (λhb h=>?_)
          .refine Qac h (λhb h=>?_) (λhb h=>?_)
           .exact JP1.a h (Le.ty 1 0)
           .refine view (Qau _ _) rfl ?_;exact JP1.a h (Le.ty 1 0)
          .exact JP1.a h (Le.ty 1 0)
        .refine bF ?_;exact JP1.a h (Le.ty 1 0)
      .refine bF ?_;refine bF ?_;exact JP1.a h (Le.ty 1 0)
    .refine Qac h (λhb h=>?_) (λhb h=>?_)
     .refine Qac h (λhb h=>?_) (λhb h=>?_)
      .refine bT ?_;refine Qac h (λhb h=>?_) (λhb h=>?_)
       .refine bT ?_;refine Qac h (λhb h=>?_) (λhb h=>?_)
        .refine bT ?_;refine Qac h (λhb h=>?_) (λhb h=>?_)
         .exact JP1.a h (Le.ty 1 0)
         .refine view (Qau _ _) rfl ?_;exact JP1.a h (Le.ty 1 0)
        .refine view (Qau _ _) rfl ?_;refine Qac h (λhb h=>?_) (λhb h=>?_)
         .refine Qac h (λhb h=>?_) (λhb h=>?_)
          .exact JP1.a h (Le.ty 1 0)
          .refine view (Qau _ _) rfl ?_;exact JP1.a h (Le.ty 1 0)
         .exact JP1.a h (Le.ty 1 0)
       .refine view (Qau _ _) rfl ?_;refine Qac h (λhb h=>?_) (λhb h=>?_)
        .refine Qac h (λhb h=>?_) (λhb h=>?_)
         .refine bT ?_;refine Qac h (λhb h=>?_) (λhb h=>?_)
          .exact JP1.a h (Le.ty 1 0)
          .refine view (Qau _ _) rfl ?_;exact JP1.a h (Le.ty 1 0)
         .refine view (Qau _ _) rfl ?_;refine Qac h (λhb h=>?_) (λhb h=>?_)
          .refine Qac h (λhb h=>?_) (λhb h=>?_)
           .exact JP1.a h (Le.ty 1 0)
           .refine view (Qau _ _) rfl ?_;exact JP1.a h (Le.ty 1 0)
          .exact JP1.a h (Le.ty 1 0)
        .refine bF ?_;exact JP1.a h (Le.ty 1 0)
      .refine Qac h (λhb h=>?_) (λhb h=>?_)
       .refine Qac h (λhb h=>?_) (λhb h=>?_)
        .refine bT ?_;refine Qac h (λhb h=>?_) (λhb h=>?_)
         .refine bT ?_;refine Qac h (λhb h=>?_) (λhb h=>?_)
          .exact JP1.a h (Le.ty 1 0)
          .refine view (Qau _ _) rfl ?_;exact JP1.a h (Le.ty 1 0)
         .refine view (Qau _ _) rfl ?_;refine Qac h (λhb h=>?_) (λhb h=>?_)
          .refine Qac h (λhb h=>?_) (λhb h=>?_)
           .exact JP1.a h (Le.ty 1 0)
           .refine view (Qau _ _) rfl ?_;exact JP1.a h (Le.ty 1 0)
          .exact JP1.a h (Le.ty 1 0)
        .refine view (Qau _ _) rfl ?_;refine Qac h (λhb h=>?_) (λhb h=>?_)
         .refine Qac h (λhb h=>?_) (λhb h=>?_)
          .refine bT ?_;refine Qac h (λhb h=>?_) (λhb h=>?_)
           .exact JP1.a h (Le.ty 1 0)
           .refine view (Qau _ _) rfl ?_;exact JP1.a h (Le.ty 1 0)
          .refine view (Qau _ _) rfl ?_;refine Qac h (λhb h=>?_) (λhb h=>?_)
           .refine Qac h (λhb h=>?_) (λhb h=>?_)
            .exact JP1.a h (Le.ty 1 0)
            .refine view (Qau _ _) rfl ?_;exact JP1.a h (Le.ty 1 0)
           .exact JP1.a h (Le.ty 1 0)
         .refine bF ?_;exact JP1.a h (Le.ty 1 0)
       .refine bF ?_;refine bF ?_;exact JP1.a h (Le.ty 1 0)
     .refine bF ?_;refine bF ?_;refine bF ?_;exact JP1.a h (Le.ty 1 0)
   .refine bF ?_;refine bF ?_;refine bF ?_;refine bF ?_;exact JP1.a h (Le.ty 1 0)
 .have h:=hk;refine Qak (t:=Qc1) h ?_;exact .refl _
mutual
def Qub (p0:Qab):Option (Bool) :=
 if(p0.Kind==1) then
  Qne p0.Text>>=λx1 =>
  ( if x1.2 then
    Qd8 p0 false true false false false>>=λx3 =>
    some x3
   else
    some false:Option (Bool))>>=λo2 =>
  some o2
 else
  if(p0.Kind==2) then
   Qd8 p0 false false true false false>>=λx4 =>
   some x4
  else
   if(p0.Kind==3) then
    ( if(p0.N==0) then
      Qd8 p0 false false true false false>>=λx6 =>
      some x6
     else
      if(p0.N==1) then
       Qd8 p0 false false true false false>>=λx7 =>
       some x7
      else
       some false:Option (Bool))>>=λo5 =>
    some o5
   else
    if(p0.Kind==4) then
     ( Qhg p0.Name>>=λx9 =>
      if x9 then
       Qd8 p0 true false false false false>>=λx10 =>
       some x10
      else
       some false:Option (Bool))>>=λo8 =>
     some o8
    else
     if(p0.Kind==5) then
      ( Qh2 p0.Name>>=λx12 =>
       if x12 then
        if((p0.L.length:Int)==1) then
         Qng p0.L>>=λx13 =>
         if x13 then
          Qd8 p0 true false false true false>>=λx14 =>
          some x14
         else
          some false
        else
         some false
       else
        some false:Option (Bool))>>=λo11 =>
      some o11
     else
      if(p0.Kind==6) then
       ( Qhg p0.Name>>=λx16 =>
        if x16 then
         if(decide ((p0.L.length:Int)<=3)) then
          Qng p0.L>>=λx17 =>
          if x17 then
           Qd8 p0 true false false true false>>=λx18 =>
           some x18
          else
           some false
         else
          some false
        else
         some false:Option (Bool))>>=λo15 =>
       some o15
      else
       if(p0.Kind==7) then
        ( Qh2 p0.Name>>=λx20 =>
         if x20 then
          Qd8 p0 true false false false false>>=λx21 =>
          some x21
         else
          some false:Option (Bool))>>=λo19 =>
        some o19
       else
        some false
 partial_fixpoint
def Qng (p0:(List Qab)):Option (Bool) :=
 (Qiv p0 0)>>=λo1 =>
 match o1 with
 | .inl y2 =>
  some true
 | .inr y3 =>
  some false
 partial_fixpoint
def Qiv (p0:(List Qab)) (v3:Int):Option (Unit⊕Unit) :=
 if(decide (v3<(p0.length:Int))) then
  idx p0 v3>>=λx4 =>
  Qub x4>>=λx5 =>
  if(!x5) then
   some (.inr ())
  else
   Qiv p0 (wr (v3+1))
 else
  some (.inl ())
 partial_fixpoint
end
theorem Qade:(∀ (p0:Qab) (o:Bool),Qub p0=some o->PCall Tryz.prog 156 [.agg [iV p0.Kind,sV p0.Name,sV p0.Text,iV p0.N,.sl false (p0.L.map Qaa),.sl false (p0.Then.map Qaa),.sl false (p0.Else.map Qaa)]] (Qfx o))/\(∀ (p0:(List Qab)) (o:Bool),Qng p0=some o->PCall Tryz.prog 130 [.sl false (p0.map Qaa)] (Qh7 o))/\(∀ (p0:(List Qab)) (v3:Int) (o1:Unit⊕Unit),Qiv p0 v3=some o1->TL (0,0) Tryz.prog 16 Q4m (JP2 (0,0) 16 o1 (.exit 0) (Qsi p0) .ret (Qsj p0)) (Qm1 p0 v3)):=by
 refine Qub.mutual_partial_correctness _ _ _ ?_ ?_ ?_
 .intro Qng' iQng p0 o h;refine PCall.ofY Qaf6 Tryz.func156 ?_;refine Qac h (λhb h=>?_) (λhb h=>?_)
  .refine Qam [sV p0.Text] Qmy h (λx1 hy=>(Qadb p0.Text x1 hy)) (λx1 hy h=>?_);refine Qah h (λo2 ho hk=>?_);refine Exists.intro (JP1 _ _ o2 .normal (Q8x p0)) (And.intro ?_ (Qaz ?_))
   .have h:=ho;refine Qac h (λhb h=>?_) (λhb h=>?_)
    .refine Qam [.agg [iV p0.Kind,sV p0.Name,sV p0.Text,iV p0.N,.sl false (p0.L.map Qaa),.sl false (p0.Then.map Qaa),.sl false (p0.Else.map Qaa)],bV false,bV true,bV false,bV false,bV false] Qc1 h (λx3 hy=>(Qc5 p0 false true false false false x3 hy)) (λx3 hy h=>?_);exact JP1.a h (Le.ty 1 0)
    .exact JP1.a h (Le.ty 1 0)
   .have h:=hk;refine Qak (t:=Qfx) h ?_;exact .refl _
  .refine Qac h (λhb h=>?_) (λhb h=>?_)
   .refine Qam [.agg [iV p0.Kind,sV p0.Name,sV p0.Text,iV p0.N,.sl false (p0.L.map Qaa),.sl false (p0.Then.map Qaa),.sl false (p0.Else.map Qaa)],bV false,bV false,bV true,bV false,bV false] Qc1 h (λx4 hy=>(Qc5 p0 false false true false false x4 hy)) (λx4 hy h=>?_);refine Qak (t:=Qfx) h ?_;exact .refl _
   .refine Qac h (λhb h=>?_) (λhb h=>?_)
    .refine Qah h (λo5 ho hk=>?_);refine Exists.intro (JP1 _ _ o5 .normal (Q8y p0)) (And.intro ?_ (Qaz ?_))
     .have h:=ho;refine Qac h (λhb h=>?_) (λhb h=>?_)
      .refine bT ?_;refine Qam [.agg [iV p0.Kind,sV p0.Name,sV p0.Text,iV p0.N,.sl false (p0.L.map Qaa),.sl false (p0.Then.map Qaa),.sl false (p0.Else.map Qaa)],bV false,bV false,bV true,bV false,bV false] Qc1 h (λx6 hy=>(Qc5 p0 false false true false false x6 hy)) (λx6 hy h=>?_);exact JP1.a h (Le.ty 1 0)
      .refine Qac h (λhb h=>?_) (λhb h=>?_)
       .refine Qam [.agg [iV p0.Kind,sV p0.Name,sV p0.Text,iV p0.N,.sl false (p0.L.map Qaa),.sl false (p0.Then.map Qaa),.sl false (p0.Else.map Qaa)],bV false,bV false,bV true,bV false,bV false] Qc1 h (λx7 hy=>(Qc5 p0 false false true false false x7 hy)) (λx7 hy h=>?_);exact JP1.a h (Le.ty 1 0)
       .exact JP1.a h (Le.ty 1 0)
     .have h:=hk;refine Qak (t:=Qfx) h ?_;exact .refl _
    .refine Qac h (λhb h=>?_) (λhb h=>?_)
     .refine Qah h (λo8 ho hk=>?_);refine Exists.intro (JP1 _ _ o8 .normal (Q8z p0)) (And.intro ?_ (Qaz ?_))
      .have h:=ho;refine Qam [sV p0.Name] Qhe h (λx9 hy=>(Qkl p0.Name x9 hy)) (λx9 hy h=>?_);refine Qac h (λhb h=>?_) (λhb h=>?_)
       .refine Qam [.agg [iV p0.Kind,sV p0.Name,sV p0.Text,iV p0.N,.sl false (p0.L.map Qaa),.sl false (p0.Then.map Qaa),.sl false (p0.Else.map Qaa)],bV true,bV false,bV false,bV false,bV false] Qc1 h (λx10 hy=>(Qc5 p0 true false false false false x10 hy)) (λx10 hy h=>?_);exact JP1.a h (Le.ty 1 0)
       .exact JP1.a h (Le.ty 1 0)
      .have h:=hk;refine Qak (t:=Qfx) h ?_;exact .refl _
     .refine Qac h (λhb h=>?_) (λhb h=>?_)
      .refine Qah h (λo11 ho hk=>?_);refine Exists.intro (JP1 _ _ o11 .normal (Q80 p0)) (And.intro ?_ (Qaz ?_))
       .have h:=ho;refine Qam [sV p0.Name] Qhd h (λx12 hy=>(Qnf p0.Name x12 hy)) (λx12 hy h=>?_);refine Qac h (λhb h=>?_) (λhb h=>?_)
        .refine view (Qau _ _) rfl ?_;refine Qac h (λhb h=>?_) (λhb h=>?_)
         .refine Qam [.sl false (p0.L.map Qaa)] Qh7 h (λx13 hy=>(iQng p0.L x13 hy)) (λx13 hy h=>?_);refine Qac h (λhb h=>?_) (λhb h=>?_)
          .refine Qam [.agg [iV p0.Kind,sV p0.Name,sV p0.Text,iV p0.N,.sl false (p0.L.map Qaa),.sl false (p0.Then.map Qaa),.sl false (p0.Else.map Qaa)],bV true,bV false,bV false,bV true,bV false] Qc1 h (λx14 hy=>(Qc5 p0 true false false true false x14 hy)) (λx14 hy h=>?_);exact JP1.a h (Le.ty 1 0)
          .exact JP1.a h (Le.ty 1 0)
         .refine bF ?_;exact JP1.a h (Le.ty 1 0)
        .refine bF ?_;refine bF ?_;exact JP1.a h (Le.ty 1 0)
       .have h:=hk;refine Qak (t:=Qfx) h ?_;exact .refl _
      .refine Qac h (λhb h=>?_) (λhb h=>?_)
       .refine Qah h (λo15 ho hk=>?_);refine Exists.intro (JP1 _ _ o15 .normal (Q81 p0)) (And.intro ?_ (Qaz ?_))
        .have h:=ho;refine Qam [sV p0.Name] Qhe h (λx16 hy=>(Qkl p0.Name x16 hy)) (λx16 hy h=>?_);refine Qac h (λhb h=>?_) (λhb h=>?_)
         .refine view (Qau _ _) rfl ?_;refine Qac h (λhb h=>?_) (λhb h=>?_)
          .refine Qam [.sl false (p0.L.map Qaa)] Qh7 h (λx17 hy=>(iQng p0.L x17 hy)) (λx17 hy h=>?_);refine Qac h (λhb h=>?_) (λhb h=>?_)
           .refine Qam [.agg [iV p0.Kind,sV p0.Name,sV p0.Text,iV p0.N,.sl false (p0.L.map Qaa),.sl false (p0.Then.map Qaa),.sl false (p0.Else.map Qaa)],bV true,bV false,bV false,bV true,bV false] Qc1 h (λx18 hy=>(Qc5 p0 true false false true false x18 hy)) (λx18 hy h=>?_);exact JP1.a h (Le.ty 1 0)
           .exact JP1.a h (Le.ty 1 0)
          .refine bF ?_;exact JP1.a h (Le.ty 1 0)
         .refine bF ?_;refine bF ?_;exact JP1.a h (Le.ty 1 0)
        .have h:=hk;refine Qak (t:=Qfx) h ?_;exact .refl _
       .refine Qac h (λhb h=>?_) (λhb h=>?_)
        .refine Qah h (λo19 ho hk=>?_);refine Exists.intro (JP1 _ _ o19 .normal (Q82 p0)) (And.intro ?_ (Qaz ?_))
         .have h:=ho;refine Qam [sV p0.Name] Qhd h (λx20 hy=>(Qnf p0.Name x20 hy)) (λx20 hy h=>?_);refine Qac h (λhb h=>?_) (λhb h=>?_)
          .refine Qam [.agg [iV p0.Kind,sV p0.Name,sV p0.Text,iV p0.N,.sl false (p0.L.map Qaa),.sl false (p0.Then.map Qaa),.sl false (p0.Else.map Qaa)],bV true,bV false,bV false,bV false,bV false] Qc1 h (λx21 hy=>(Qc5 p0 true false false false false x21 hy)) (λx21 hy h=>?_);exact JP1.a h (Le.ty 1 0)
          .exact JP1.a h (Le.ty 1 0)
         .have h:=hk;refine Qak (t:=Qfx) h ?_;exact .refl _
        .refine Qak (t:=Qfx) h ?_;exact .refl _
 .intro Qiv' iQiv p0 o h;refine PCall.ofY Qzi Tryz.func130 ?_;refine Qah h (λo1 ho hk=>?_);refine Exists.intro (JP2 _ _ o1 (.exit 0) (Qsi p0) .ret (Qsj p0)) (And.intro (Qf5 (τ := Qm1 p0 0) ?_ (TL.loop (iQiv p0 0 o1 ho))) (Qer (λy2 hy=>?_) (λy3 hy=>?_)))
  .exact Le.ty 0 0
  .have h:=(by rw[hy] at hk; exact hk);refine Qak (t:=Qh7) h ?_;exact .refl _
  .have h:=(by rw[hy] at hk; exact hk);refine Qak (t:=Qh7) h ?_;exact .refl _
 .intro Qub' Qiv' iQub iQiv p0 v3 o1 h;refine TL.round (Qan mixed tbOk (lv:=Qzi) _ _ _ ?_);refine view (Qau _ _) rfl ?_;refine Qac h (λhb h=>?_) (λhb h=>?_)
  .refine Qay (l:=p0) (c:=Qaa) (c' := Qa1) h Qao (λ_=>rfl) (by decide) (λx4 hi h=>?_);refine Qam [.agg [iV x4.Kind,sV x4.Name,sV x4.Text,iV x4.N,.sl false (x4.L.map Qaa),.sl false (x4.Then.map Qaa),.sl false (x4.Else.map Qaa)]] Qfx h (λx5 hy=>(iQub x4 x5 hy)) (λx5 hy h=>?_);refine Qac h (λhb h=>?_) (λhb h=>?_)
   .exact JP2.b h (Le.ty 0 0)
   .refine TL.le (τ := Qm1 p0 (wr (v3+1))) ?_ ((iQiv p0 (wr (v3+1)) _ h));exact Le.ty 0 0
  .exact JP2.a h (Le.ty 0 0)
theorem Qadf:∀ (p0:(List Qab)) (o:Bool),Qng p0=some o->PCall Tryz.prog 130 [.sl false (p0.map Qaa)] (Qh7 o):=λp0=>Qade.2.1 p0
def Qe8 (p0:(List UInt8)) (p1:(List UInt8)) (v5:Int):Option (Unit⊕Unit) :=
 if(decide (v5<(p0.length:Int))) then
  Qeu p0 p1 v5>>=λx4 =>
  if x4 then
   some (.inr ())
  else
   Qe8 p0 p1 (wr (v5+1))
 else
  some (.inl ())
 partial_fixpoint
theorem Qajr:∀ (p0:(List UInt8)) (p1:(List UInt8)),(∀ (v5:Int) (o1:Unit⊕Unit),Qe8 p0 p1 v5=some o1->TL (0,0) Tryz.prog 16 Q2f (JP2 (0,0) 16 o1 (.exit 0) (Qq1 p0 p1) .ret (Qq2 p0 p1)) (Qlo p0 p1 v5)):=by
 intro p0 p1;refine Qe8.partial_correctness p0 p1 _ ?_;intro Qe8' iQe8 v5 o1 h;refine TL.round (Qan mixed tbOk (lv:=Qxg) _ _ _ ?_);refine vrfl ?_;refine Qac h (λhb h=>?_) (λhb h=>?_)
 .refine Qam [sV p0,sV p1,iV v5] Qir h (λx4 hy=>(Qmb p0 p1 v5 x4 hy)) (λx4 hy h=>?_);refine Qac h (λhb h=>?_) (λhb h=>?_)
  .exact JP2.b h (Le.ty 0 0)
  .refine TL.le (τ := Qlo p0 p1 (wr (v5+1))) ?_ ((iQe8 (wr (v5+1)) _ h));exact Le.ty 0 0
 .exact JP2.a h (Le.ty 0 0)
def Qpk (p0:(List UInt8)) (p1:(List UInt8)):Option (Bool) :=
 (Qe8 p0 p1 0)>>=λo1 =>
 match o1 with
 | .inl y2 =>
  some false
 | .inr y3 =>
  some true
theorem Q9u:∀ (p0:(List UInt8)) (p1:(List UInt8)) (o:Bool),Qpk p0 p1=some o->PCall Tryz.prog 131 [sV p0,sV p1] (Qny o):=by
 intro p0 p1 o h;unfold Qpk at h;refine PCall.ofY Qxg Tryz.func131 ?_;refine Qah h (λo1 ho hk=>?_);refine Exists.intro (JP2 _ _ o1 (.exit 0) (Qq1 p0 p1) .ret (Qq2 p0 p1)) (And.intro (Qf5 (τ := Qlo p0 p1 0) ?_ (TL.loop (Qajr p0 p1 0 o1 ho))) (Qer (λy2 hy=>?_) (λy3 hy=>?_)))
 .exact Le.ty 0 0
 .have h:=(by rw[hy] at hk; exact hk);refine Qak (t:=Qny) h ?_;exact .refl _
 .have h:=(by rw[hy] at hk; exact hk);refine Qak (t:=Qny) h ?_;exact .refl _
mutual
def Qjd (p0:(List Qab)) (p1:Bool):Option (Bool) :=
 (Qgg p0 p1 0)>>=λo1 =>
 match o1 with
 | .inl y2 =>
  some true
 | .inr y3 =>
  some false
 partial_fixpoint
def Qgg (p0:(List Qab)) (p1:Bool) (v5:Int):Option (Unit⊕Unit) :=
 if(decide (v5<(p0.length:Int))) then
  idx p0 v5>>=λx4 =>
  Qxk x4>>=λx5 =>
  if(!x5) then
   some (.inr ())
  else
   idx p0 v5>>=λx6 =>
   if(x6.Kind != 8) then
    Qgg p0 p1 (wr (v5+1))
   else
    idx p0 v5>>=λx7 =>
    ( if(!(v5==(wr ((p0.length:Int)-1)))) then
      idx p0 (wr (v5+1))>>=λx9 =>
      if(x9.Kind==8) then
       some true
      else
       if(!(v5==(wr ((p0.length:Int)-1)))) then
        idx x7.Text (wr ((x7.Text.length:Int)-1))>>=λx10 =>
        some ((x10.toNat:Int)==123)
       else
        if p1 then
         idx x7.Text (wr ((x7.Text.length:Int)-1))>>=λx11 =>
         some ((x11.toNat:Int)==123)
        else
         some false
     else
      if(!(v5==(wr ((p0.length:Int)-1)))) then
       idx x7.Text (wr ((x7.Text.length:Int)-1))>>=λx12 =>
       some ((x12.toNat:Int)==123)
      else
       if p1 then
        idx x7.Text (wr ((x7.Text.length:Int)-1))>>=λx13 =>
        some ((x13.toNat:Int)==123)
       else
        some false:Option (Bool))>>=λo8 =>
    if o8 then
     some (.inr ())
    else
     Qgg p0 p1 (wr (v5+1))
 else
  some (.inl ())
 partial_fixpoint
def Qxk (p0:Qab):Option (Bool) :=
 ( if((p0.L.length:Int)==1) then
   Qng p0.L>>=λx2 =>
   some x2
  else
   some false:Option (Bool))>>=λo1 =>
 if(p0.Kind==8) then
  ( if(!(p0.Text==[])) then
    Qpk p0.Text [123,123]>>=λx4 =>
    if(!x4) then
     Qd8 p0 false true false false false>>=λx5 =>
     some x5
    else
     some false
   else
    some false:Option (Bool))>>=λo3 =>
  some o3
 else
  if(p0.Kind==9) then
   ( if o1 then
     Qd8 p0 false false false true false>>=λx7 =>
     some x7
    else
     some false:Option (Bool))>>=λo6 =>
   some o6
  else
   if(p0.Kind==10) then
    ( if o1 then
      Qjd p0.Then true>>=λx9 =>
      if x9 then
       Qjd p0.Else true>>=λx10 =>
       if x10 then
        Qd8 p0 false false false true true>>=λx11 =>
        some x11
       else
        some false
      else
       some false
     else
      some false:Option (Bool))>>=λo8 =>
    some o8
   else
    ( if(p0.Kind==11) then
      some (p0.Kind==11)
     else
      some (p0.Kind==12):Option (Bool))>>=λo12 =>
    if o12 then
     ( Qhg p0.Name>>=λx14 =>
      if x14 then
       if o1 then
        Qjd p0.Then true>>=λx15 =>
        if x15 then
         Qd8 p0 true false false true true>>=λx16 =>
         some x16
        else
         some false
       else
        some false
      else
       some false:Option (Bool))>>=λo13 =>
     some o13
    else
     if(p0.Kind==13) then
      ( Qhg p0.Name>>=λx18 =>
       if x18 then
        if o1 then
         Qd8 p0 true false false true false>>=λx19 =>
         some x19
        else
         some false
       else
        some false:Option (Bool))>>=λo17 =>
      some o17
     else
      some false
 partial_fixpoint
end
theorem Q9v:(∀ (p0:(List Qab)) (p1:Bool) (o:Bool),Qjd p0 p1=some o->PCall Tryz.prog 78 [.sl false (p0.map Qaa),bV p1] (Qgb o))/\(∀ (p0:(List Qab)) (p1:Bool) (v5:Int) (o1:Unit⊕Unit),Qgg p0 p1 v5=some o1->TL (0,0) Tryz.prog 62 Q4l (JP2 (0,0) 62 o1 (.exit 0) (Qsg p0 p1) .ret (Qsh p0 p1)) (Qi5 p0 p1 v5))/\(∀ (p0:Qab) (o:Bool),Qxk p0=some o->PCall Tryz.prog 103 [.agg [iV p0.Kind,sV p0.Name,sV p0.Text,iV p0.N,.sl false (p0.L.map Qaa),.sl false (p0.Then.map Qaa),.sl false (p0.Else.map Qaa)]] (Qit o)):=by
 refine Qjd.mutual_partial_correctness _ _ _ ?_ ?_ ?_
 .intro Qgg' iQgg p0 p1 o h;refine PCall.ofY Qzh Tryz.func78 ?_;refine Qah h (λo1 ho hk=>?_);refine Exists.intro (JP2 _ _ o1 (.exit 0) (Qsg p0 p1) .ret (Qsh p0 p1)) (And.intro (Qf5 (τ := Qi5 p0 p1 0) ?_ (TL.loop (iQgg p0 p1 0 o1 ho))) (Qer (λy2 hy=>?_) (λy3 hy=>?_)))
  .exact Le.ty 0 0
  .have h:=(by rw[hy] at hk; exact hk);refine Qak (t:=Qgb) h ?_;exact .refl _
  .have h:=(by rw[hy] at hk; exact hk);refine Qak (t:=Qgb) h ?_;exact .refl _
 .intro Qgg' Qxk' iQgg iQxk p0 p1 v5 o1 h;refine TL.round (Qan mixed tbOk (lv:=Qzh) _ _ _ ?_);refine view (Qau _ _) rfl ?_;refine Qac h (λhb h=>?_) (λhb h=>?_)
  .refine Qay (l:=p0) (c:=Qaa) (c' := Qa1) h Qao (λ_=>rfl) (by decide) (λx4 hi h=>?_);refine Qam [.agg [iV x4.Kind,sV x4.Name,sV x4.Text,iV x4.N,.sl false (x4.L.map Qaa),.sl false (x4.Then.map Qaa),.sl false (x4.Else.map Qaa)]] Qit h (λx5 hy=>(iQxk x4 x5 hy)) (λx5 hy h=>?_);refine Qac h (λhb h=>?_) (λhb h=>?_)
   .exact JP2.b h (Le.ty 0 0)
   .refine Qay (l:=p0) (c:=Qaa) (c' := Qa1) h Qao (λ_=>rfl) (by decide) (λx6 hi h=>?_);refine Qac h (λhb h=>?_) (λhb h=>?_)
    .refine TL.le (τ := Qi5 p0 p1 (wr (v5+1))) ?_ ((iQgg p0 p1 (wr (v5+1)) _ h));exact Le.ty 0 0
    .refine Qay (l:=p0) (c:=Qaa) (c' := Qa1) h Qao (λ_=>rfl) (by decide) (λx7 hi h=>?_);refine view (Qau _ _) rfl ?_;refine Qah h (λo8 ho hk=>?_);refine Exists.intro (JP1 _ _ o8 .normal (Q4k p0 p1 v5)) (And.intro ?_ (Qaz ?_))
     .have h:=ho;refine Qac h (λhb h=>?_) (λhb h=>?_)
      .refine Qay (l:=p0) (c:=Qaa) (c' := Qa1) h Qao (λ_=>rfl) (by decide) (λx9 hi h=>?_);refine Qac h (λhb h=>?_) (λhb h=>?_)
       .exact JP1.a h (Le.ty 0 0)
       .refine Qac h (λhb h=>?_) (λhb h=>?_)
        .refine bT ?_;refine vrfl ?_;refine Qda h (λx10 hi h=>?_);exact JP1.a h (Le.ty 0 0)
        .refine Qac h (λhb h=>?_) (λhb h=>?_)
         .refine vrfl ?_;refine Qda h (λx11 hi h=>?_);exact JP1.a h (Le.ty 0 0)
         .exact JP1.a h (Le.ty 0 0)
      .refine bF ?_;refine Qac h (λhb h=>?_) (λhb h=>?_)
       .refine bT ?_;refine vrfl ?_;refine Qda h (λx12 hi h=>?_);exact JP1.a h (Le.ty 0 0)
       .refine Qac h (λhb h=>?_) (λhb h=>?_)
        .refine vrfl ?_;refine Qda h (λx13 hi h=>?_);exact JP1.a h (Le.ty 0 0)
        .exact JP1.a h (Le.ty 0 0)
     .have h:=hk;refine Qac h (λhb h=>?_) (λhb h=>?_)
      .exact JP2.b h (Le.ty 0 0)
      .refine TL.le (τ := Qi5 p0 p1 (wr (v5+1))) ?_ ((iQgg p0 p1 (wr (v5+1)) _ h));exact Le.ty 0 0
  .exact JP2.a h (Le.ty 0 0)
 .intro Qjd' iQjd p0 o h;refine PCall.ofY Qaf7 Tryz.func103 ?_;refine Qah h (λo1 ho hk=>?_);refine Exists.intro (JP1 _ _ o1 .normal (Q83 p0)) (And.intro ?_ (Qaz ?_))
  .have h:=ho;refine view (Qau _ _) rfl ?_;refine Qac h (λhb h=>?_) (λhb h=>?_)
   .refine Qam [.sl false (p0.L.map Qaa)] Qh7 h (λx2 hy=>(Qadf p0.L x2 hy)) (λx2 hy h=>?_);exact JP1.a h (Le.ty 1 0)
   .exact JP1.a h (Le.ty 1 0)
  .have h:=hk;refine Qac h (λhb h=>?_) (λhb h=>?_)
   .refine Qah h (λo3 ho hk=>?_);refine Exists.intro (JP1 _ _ o3 .normal (Q84 p0)) (And.intro ?_ (Qaz ?_))
    .have h:=ho;refine Qac h (λhb h=>?_) (λhb h=>?_)
     .refine Qam [sV p0.Text,sV [123,123]] Qny h (λx4 hy=>(Q9u p0.Text [123,123] x4 hy)) (λx4 hy h=>?_);refine Qac h (λhb h=>?_) (λhb h=>?_)
      .refine Qam [.agg [iV p0.Kind,sV p0.Name,sV p0.Text,iV p0.N,.sl false (p0.L.map Qaa),.sl false (p0.Then.map Qaa),.sl false (p0.Else.map Qaa)],bV false,bV true,bV false,bV false,bV false] Qc1 h (λx5 hy=>(Qc5 p0 false true false false false x5 hy)) (λx5 hy h=>?_);exact JP1.a h (Le.ty 1 0)
      .exact JP1.a h (Le.ty 1 0)
     .refine bF ?_;exact JP1.a h (Le.ty 1 0)
    .have h:=hk;refine Qak (t:=Qit) h ?_;exact .refl _
   .refine Qac h (λhb h=>?_) (λhb h=>?_)
    .refine Qah h (λo6 ho hk=>?_);refine Exists.intro (JP1 _ _ o6 .normal (Q85 p0)) (And.intro ?_ (Qaz ?_))
     .have h:=ho;refine Qac h (λhb h=>?_) (λhb h=>?_)
      .refine Qam [.agg [iV p0.Kind,sV p0.Name,sV p0.Text,iV p0.N,.sl false (p0.L.map Qaa),.sl false (p0.Then.map Qaa),.sl false (p0.Else.map Qaa)],bV false,bV false,bV false,bV true,bV false] Qc1 h (λx7 hy=>(Qc5 p0 false false false true false x7 hy)) (λx7 hy h=>?_);exact JP1.a h (Le.ty 1 0)
      .exact JP1.a h (Le.ty 1 0)
     .have h:=hk;refine Qak (t:=Qit) h ?_;exact .refl _
    .refine Qac h (λhb h=>?_) (λhb h=>?_)
     .refine Qah h (λo8 ho hk=>?_);refine Exists.intro (JP1 _ _ o8 .normal (Q86 p0)) (And.intro ?_ (Qaz ?_))
      .have h:=ho;refine Qac h (λhb h=>?_) (λhb h=>?_)
       .refine Qam [.sl false (p0.Then.map Qaa),bV true] Qgb h (λx9 hy=>(iQjd p0.Then true x9 hy)) (λx9 hy h=>?_);refine Qac h (λhb h=>?_) (λhb h=>?_)
        .refine Qam [.sl false (p0.Else.map Qaa),bV true] Qgb h (λx10 hy=>(iQjd p0.Else true x10 hy)) (λx10 hy h=>?_);refine Qac h (λhb h=>?_) (λhb h=>?_)
         .refine Qam [.agg [iV p0.Kind,sV p0.Name,sV p0.Text,iV p0.N,.sl false (p0.L.map Qaa),.sl false (p0.Then.map Qaa),.sl false (p0.Else.map Qaa)],bV false,bV false,bV false,bV true,bV true] Qc1 h (λx11 hy=>(Qc5 p0 false false false true true x11 hy)) (λx11 hy h=>?_);exact JP1.a h (Le.ty 1 0)
         .exact JP1.a h (Le.ty 1 0)
        .refine bF ?_;exact JP1.a h (Le.ty 1 0)
       .refine bF ?_;refine bF ?_;exact JP1.a h (Le.ty 1 0)
      .have h:=hk;refine Qak (t:=Qit) h ?_;exact .refl _
     .refine Qah h (λo12 ho hk=>?_);refine Exists.intro (JP1 _ _ o12 .normal (Q87 p0 o1)) (And.intro ?_ (Qaz ?_))
      .have h:=ho;refine Qac h (λhb h=>?_) (λhb h=>?_)
       .exact JP1.a h (Le.ty 1 0)
       .exact JP1.a h (Le.ty 1 0)
      .have h:=hk;refine Qac h (λhb h=>?_) (λhb h=>?_)
       .refine Qah h (λo13 ho hk=>?_);refine Exists.intro (JP1 _ _ o13 .normal (Q88 p0)) (And.intro ?_ (Qaz ?_))
        .have h:=ho;refine Qam [sV p0.Name] Qhe h (λx14 hy=>(Qkl p0.Name x14 hy)) (λx14 hy h=>?_);refine Qac h (λhb h=>?_) (λhb h=>?_)
         .refine Qac h (λhb h=>?_) (λhb h=>?_)
          .refine Qam [.sl false (p0.Then.map Qaa),bV true] Qgb h (λx15 hy=>(iQjd p0.Then true x15 hy)) (λx15 hy h=>?_);refine Qac h (λhb h=>?_) (λhb h=>?_)
           .refine Qam [.agg [iV p0.Kind,sV p0.Name,sV p0.Text,iV p0.N,.sl false (p0.L.map Qaa),.sl false (p0.Then.map Qaa),.sl false (p0.Else.map Qaa)],bV true,bV false,bV false,bV true,bV true] Qc1 h (λx16 hy=>(Qc5 p0 true false false true true x16 hy)) (λx16 hy h=>?_);exact JP1.a h (Le.ty 1 0)
           .exact JP1.a h (Le.ty 1 0)
          .refine bF ?_;exact JP1.a h (Le.ty 1 0)
         .refine bF ?_;refine bF ?_;exact JP1.a h (Le.ty 1 0)
        .have h:=hk;refine Qak (t:=Qit) h ?_;exact .refl _
       .refine Qac h (λhb h=>?_) (λhb h=>?_)
        .refine Qah h (λo17 ho hk=>?_);refine Exists.intro (JP1 _ _ o17 .normal (Q89 p0)) (And.intro ?_ (Qaz ?_))
         .have h:=ho;refine Qam [sV p0.Name] Qhe h (λx18 hy=>(Qkl p0.Name x18 hy)) (λx18 hy h=>?_);refine Qac h (λhb h=>?_) (λhb h=>?_)
          .refine Qac h (λhb h=>?_) (λhb h=>?_)
           .refine Qam [.agg [iV p0.Kind,sV p0.Name,sV p0.Text,iV p0.N,.sl false (p0.L.map Qaa),.sl false (p0.Then.map Qaa),.sl false (p0.Else.map Qaa)],bV true,bV false,bV false,bV true,bV false] Qc1 h (λx19 hy=>(Qc5 p0 true false false true false x19 hy)) (λx19 hy h=>?_);exact JP1.a h (Le.ty 1 0)
           .exact JP1.a h (Le.ty 1 0)
          .refine bF ?_;exact JP1.a h (Le.ty 1 0)
         .have h:=hk;refine Qak (t:=Qit) h ?_;exact .refl _
        .refine Qak (t:=Qit) h ?_;exact .refl _
theorem Qadg:∀ (p0:(List Qab)) (p1:Bool) (o:Bool),Qjd p0 p1=some o->PCall Tryz.prog 78 [.sl false (p0.map Qaa),bV p1] (Qgb o):=λp0 p1=>Q9v.1 p0 p1
def Qadh (p0:(List Qab)):Option (Bool) :=
 ( Qjd p0 false>>=λx2 =>
  if x2 then
   Qe6 p0>>=λx3 =>
   if(decide (x3<=12)) then
    Qdv p0>>=λx4 =>
    some (decide (x4<=1024))
   else
    some false
  else
   some false:Option (Bool))>>=λo1 =>
 some o1
theorem Qami:∀ (p0:(List Qab)) (o:Bool),Qadh p0=some o->PCall Tryz.prog 44 [.sl false (p0.map Qaa)] (Q8u o):=by
 intro p0 o h;unfold Qadh at h;refine PCall.ofY Qamb Tryz.func44 ?_;refine Qah h (λo1 ho hk=>?_);refine Exists.intro (JP1 _ _ o1 .normal (Qaf4 )) (And.intro ?_ (Qaz ?_))
 .have h:=ho;refine Qam [.sl false (p0.map Qaa),bV false] Qgb h (λx2 hy=>(Qadg p0 false x2 hy)) (λx2 hy h=>?_);refine Qac h (λhb h=>?_) (λhb h=>?_)
  .refine Qam [.sl false (p0.map Qaa)] Qis h (λx3 hy=>(Q2y p0 x3 hy)) (λx3 hy h=>?_);refine Qac h (λhb h=>?_) (λhb h=>?_)
   .refine Qam [.sl false (p0.map Qaa)] Qga h (λx4 hy=>(Qzp p0 x4 hy)) (λx4 hy h=>?_);exact JP1.a h (Le.ty 0 0)
   .exact JP1.a h (Le.ty 0 0)
  .refine bF ?_;exact JP1.a h (Le.ty 0 0)
 .have h:=hk;refine Qak (t:=Q8u) h ?_;exact .refl _
def Qia (p0:(List Qae)) (p1:(List UInt8)) (v6:Int):Option (Unit⊕(List Qab)) :=
 if(decide (v6<(p0.length:Int))) then
  idx p0 v6>>=λx4 =>
  if(x4.Name==p1) then
   idx p0 v6>>=λx5 =>
   some (.inr x5.L)
  else
   Qia p0 p1 (wr (v6+1))
 else
  some (.inl ())
 partial_fixpoint
theorem Qamj:∀ (p0:(List Qae)) (p1:(List UInt8)),(∀ (v6:Int) (o1:Unit⊕(List Qab)),Qia p0 p1 v6=some o1->TL (0,0) Tryz.prog 25 Q9a (JP2 (0,0) 25 o1 (.exit 0) (Qvm p0 p1) .ret (Qvn p0 p1)) (Qoo p0 p1 v6)):=by
 intro p0 p1;refine Qia.partial_correctness p0 p1 _ ?_;intro Qia' iQia v6 o1 h;refine TL.round (Qan mixed tbOk (lv:=Q2g) _ _ _ ?_);refine view (Qau _ _) rfl ?_;refine Qac h (λhb h=>?_) (λhb h=>?_)
 .refine Qay (l:=p0) (c:=Qaf) (c' := Qaf) h (λ_=>rfl) (λ_=>rfl) (by decide) (λx4 hi h=>?_);refine Qac h (λhb h=>?_) (λhb h=>?_)
  .refine Qay (l:=p0) (c:=Qaf) (c' := Qaf) h (λ_=>rfl) (λ_=>rfl) (by decide) (λx5 hi h=>?_);exact JP2.b h (Le.ty 0 0)
  .refine TL.le (τ := Qoo p0 p1 (wr (v6+1))) ?_ ((iQia (wr (v6+1)) _ h));exact Le.ty 0 0
 .exact JP2.a h (Le.ty 0 0)
def Qh3 (p0:(List Qae)) (p1:(List UInt8)):Option ((List Qab)×Bool) :=
 (Qia p0 p1 0)>>=λo1 =>
 match o1 with
 | .inl y2 =>
  some ([],false)
 | .inr y3 =>
  some (y3,true)
theorem Qgh:∀ (p0:(List Qae)) (p1:(List UInt8)) (o:(List Qab)×Bool),Qh3 p0 p1=some o->PCall Tryz.prog 31 [.sl false (p0.map Qaf),sV p1] (Qes o):=by
 intro p0 p1 o h;unfold Qh3 at h;refine PCall.ofY Q2g Tryz.func31 ?_;refine Qah h (λo1 ho hk=>?_);refine Exists.intro (JP2 _ _ o1 (.exit 0) (Qvm p0 p1) .ret (Qvn p0 p1)) (And.intro (Qf5 (τ := Qoo p0 p1 0) ?_ (TL.loop (Qamj p0 p1 0 o1 ho))) (Qer (λy2 hy=>?_) (λy3 hy=>?_)))
 .exact Le.ty 0 0
 .have h:=(by rw[hy] at hk; exact hk);refine Qak (t:=Qes) h ?_;exact .tup (xs:=[.sl true [],bV false]) (ys:=[.sl false [],bV false]) (.cons (.not) (.cons (.refl _) (.nil)))
 .have h:=(by rw[hy] at hk; exact hk);refine Qak (t:=Qes) h ?_;exact .refl _
def Qgi (p0:(List Qae)) (v4:Int):Option (Unit⊕((List UInt8)×Int)) :=
 if(decide (v4<(p0.length:Int))) then
  ( idx p0 v4>>=λx5 =>
   Qhg x5.Name>>=λx6 =>
   if(!x6) then
    some true
   else
    idx p0 v4>>=λx7 =>
    Qadh x7.L>>=λx8 =>
    some (!x8):Option (Bool))>>=λo4 =>
  if o4 then
   idx p0 v4>>=λx9 =>
   some (.inr (x9.Name,7))
  else
   cutL p0 0 v4>>=λx10 =>
   idx p0 v4>>=λx11 =>
   Qh3 x10 x11.Name>>=λx12 =>
   if x12.2 then
    idx p0 v4>>=λx13 =>
    some (.inr (x13.Name,9))
   else
    Qgi p0 (wr (v4+1))
 else
  some (.inl ())
 partial_fixpoint
theorem Qake:∀ (p0:(List Qae)),(∀ (v4:Int) (o1:Unit⊕((List UInt8)×Int)),Qgi p0 v4=some o1->TL (0,0) Tryz.prog 119 Q4o (JP2 (0,0) 119 o1 (.exit 0) (Qsk p0) .ret (Qsl p0)) (Qm2 p0 v4)):=by
 intro p0;refine Qgi.partial_correctness p0 _ ?_;intro Qgi' iQgi v4 o1 h;refine TL.round (Qan mixed tbOk (lv:=Qk8) _ _ _ ?_);refine view (Qau _ _) rfl ?_;refine Qac h (λhb h=>?_) (λhb h=>?_)
 .refine Qah h (λo4 ho hk=>?_);refine Exists.intro (JP1 _ _ o4 .normal (Q4n p0 v4)) (And.intro ?_ (Qaz ?_))
  .have h:=ho;refine Qay (l:=p0) (c:=Qaf) (c' := Qaf) h (λ_=>rfl) (λ_=>rfl) (by decide) (λx5 hi h=>?_);refine Qam [sV x5.Name] Qhe h (λx6 hy=>(Qkl x5.Name x6 hy)) (λx6 hy h=>?_);refine Qac h (λhb h=>?_) (λhb h=>?_)
   .exact JP1.a h (Le.ty 0 0)
   .refine Qay (l:=p0) (c:=Qaf) (c' := Qaf) h (λ_=>rfl) (λ_=>rfl) (by decide) (λx7 hi h=>?_);refine Qam [.sl false (x7.L.map Qaa)] Q8u h (λx8 hy=>(Qami x7.L x8 hy)) (λx8 hy h=>?_);exact JP1.a h (Le.ty 0 0)
  .have h:=hk;refine Qac h (λhb h=>?_) (λhb h=>?_)
   .refine Qay (l:=p0) (c:=Qaf) (c' := Qaf) h (λ_=>rfl) (λ_=>rfl) (by decide) (λx9 hi h=>?_);exact JP2.b h (Le.ty 0 0)
   .refine And.intro (by decide +kernel) (And.intro rfl ?_);refine Qacr (c:=Qaf) none (some v4) h (λ_=>rfl) (λx10 hi h=>?_);refine Qay (l:=p0) (c:=Qaf) (c' := Qaf) h (λ_=>rfl) (λ_=>rfl) (by decide) (λx11 hi h=>?_);refine Qcf [.sl false (x10.map Qaf),sV x11.Name] Qes h (λx12 hy=>(Qgh x10 x11.Name x12 hy)) (λx12 hy h=>?_);refine Qac h (λhb h=>?_) (λhb h=>?_)
    .refine Qay (l:=p0) (c:=Qaf) (c' := Qaf) h (λ_=>rfl) (λ_=>rfl) (by decide) (λx13 hi h=>?_);exact JP2.b h (Le.ty 0 0)
    .refine TL.le (τ := Qm2 p0 (wr (v4+1))) ?_ ((iQgi (wr (v4+1)) _ h));exact Le.ty 0 0
 .exact JP2.a h (Le.ty 0 0)
def Qgj (p0:(List Qae)) (v7:Int) (x18:(List (List UInt8))) (v9:Int):Option (Unit⊕(List UInt8)) :=
 if(decide (v9<(x18.length:Int))) then
  idx x18 v9>>=λx22 =>
  Qh3 p0 x22>>=λx23 =>
  if(!x23.2) then
   idx p0 v7>>=λx24 =>
   some (.inr x24.Name)
  else
   Qgj p0 v7 x18 (wr (v9+1))
 else
  some (.inl ())
 partial_fixpoint
theorem Qakf:∀ (p0:(List Qae)) (v7:Int) (x18:(List (List UInt8))),(∀ (v9:Int) (o19:Unit⊕(List UInt8)),Qgj p0 v7 x18 v9=some o19->TL (0,0) Tryz.prog 119 Q4p (JP2 (0,0) 119 o19 (.exit 4) (Qsm p0 v7 x18) .ret (Qsn p0 v7 x18)) (Qm3 p0 v7 x18 v9)):=by
 intro p0 v7 x18;refine Qgj.partial_correctness p0 v7 x18 _ ?_;intro Qgj' iQgj v9 o19 h;refine TL.round (Qan mixed tbOk (lv:=Qk8) _ _ _ ?_);refine view (Qau _ _) rfl ?_;refine Qac h (λhb h=>?_) (λhb h=>?_)
 .refine Qay (l:=x18) (c:=cStr) (c' := cStr) h (λ_=>rfl) (λ_=>rfl) (by decide) (λx22 hi h=>?_);refine Qam [.sl false (p0.map Qaf),sV x22] Qes h (λx23 hy=>(Qgh p0 x22 x23 hy)) (λx23 hy h=>?_);refine Qac h (λhb h=>?_) (λhb h=>?_)
  .refine Qay (l:=p0) (c:=Qaf) (c' := Qaf) h (λ_=>rfl) (λ_=>rfl) (by decide) (λx24 hi h=>?_);exact JP2.b h (Le.ty 0 1)
  .refine TL.le (τ := Qm3 p0 v7 x18 (wr (v9+1))) ?_ ((iQgj (wr (v9+1)) _ h));exact Le.ty 0 1
 .exact JP2.a h (Le.ty 0 1)
def Qnh (p0:(List (List UInt8))) (p1:(List UInt8)) (v5:Int):Option (Unit⊕Unit) :=
 if(decide (v5<(p0.length:Int))) then
  idx p0 v5>>=λx4 =>
  if(x4==p1) then
   some (.inr ())
  else
   Qnh p0 p1 (wr (v5+1))
 else
  some (.inl ())
 partial_fixpoint
theorem Qaoy:∀ (p0:(List (List UInt8))) (p1:(List UInt8)),(∀ (v5:Int) (o1:Unit⊕Unit),Qnh p0 p1 v5=some o1->TL (0,0) Tryz.prog 18 Qaf8 (JP2 (0,0) 18 o1 (.exit 0) (Qzj p0 p1) .ret (Qzk p0 p1)) (Qss p0 p1 v5)):=by
 intro p0 p1;refine Qnh.partial_correctness p0 p1 _ ?_;intro Qnh' iQnh v5 o1 h;refine TL.round (Qan mixed tbOk (lv:=Qac3) _ _ _ ?_);refine view (Qau _ _) rfl ?_;refine Qac h (λhb h=>?_) (λhb h=>?_)
 .refine Qay (l:=p0) (c:=cStr) (c' := cStr) h (λ_=>rfl) (λ_=>rfl) (by decide) (λx4 hi h=>?_);refine Qac h (λhb h=>?_) (λhb h=>?_)
  .exact JP2.b h (Le.ty 0 0)
  .refine TL.le (τ := Qss p0 p1 (wr (v5+1))) ?_ ((iQnh (wr (v5+1)) _ h));exact Le.ty 0 0
 .exact JP2.a h (Le.ty 0 0)
def Q2z (p0:(List (List UInt8))) (p1:(List UInt8)):Option (Bool) :=
 (Qnh p0 p1 0)>>=λo1 =>
 match o1 with
 | .inl y2 =>
  some false
 | .inr y3 =>
  some true
theorem Q20:∀ (p0:(List (List UInt8))) (p1:(List UInt8)) (o:Bool),Q2z p0 p1=some o->PCall Tryz.prog 21 [.sl false (p0.map cStr),sV p1] (Qua o):=by
 intro p0 p1 o h;unfold Q2z at h;refine PCall.ofY Qac3 Tryz.func21 ?_;refine Qah h (λo1 ho hk=>?_);refine Exists.intro (JP2 _ _ o1 (.exit 0) (Qzj p0 p1) .ret (Qzk p0 p1)) (And.intro (Qf5 (τ := Qss p0 p1 0) ?_ (TL.loop (Qaoy p0 p1 0 o1 ho))) (Qer (λy2 hy=>?_) (λy3 hy=>?_)))
 .exact Le.ty 0 0
 .have h:=(by rw[hy] at hk; exact hk);refine Qak (t:=Qua) h ?_;exact .refl _
 .have h:=(by rw[hy] at hk; exact hk);refine Qak (t:=Qua) h ?_;exact .refl _
def Qib (p0:(List (List UInt8))) (p1:(List UInt8)) (v5:Int):Option (Int) :=
 ( if(decide (v5<(p0.length:Int))) then
   idx p0 v5>>=λx4 =>
   some (Op.bytesLess x4 p1)
  else
   some false:Option (Bool))>>=λo3 =>
 if o3 then
  Qib p0 p1 (wr (v5+1))
 else
  some v5
 partial_fixpoint
theorem Qamk:∀ (p0:(List (List UInt8))) (p1:(List UInt8)),(∀ (v5:Int) (o2:Int),Qib p0 p1 v5=some o2->TL (0,1) Tryz.prog 36 Q9f (JP1 (0,1) 36 o2 (.exit 0) (Qvq p0 p1)) (Qor p0 p1 v5)):=by
 intro p0 p1;refine Qib.partial_correctness p0 p1 _ ?_;intro Qib' iQib v5 o2 h;refine TL.round (Qan mixed tbOk (lv:=Q2i) _ _ _ ?_);refine Qah h (λo3 ho hk=>?_);refine Exists.intro (JP1 _ _ o3 .normal (Q9e p0 p1 v5)) (And.intro ?_ (Qaz ?_))
 .have h:=ho;refine view (Qau _ _) rfl ?_;refine Qac h (λhb h=>?_) (λhb h=>?_)
  .refine Qay (l:=p0) (c:=cStr) (c' := cStr) h (λ_=>rfl) (λ_=>rfl) (by decide) (λx4 hi h=>?_);exact JP1.a h (Le.ty 0 1)
  .exact JP1.a h (Le.ty 0 1)
 .have h:=hk;refine Qac h (λhb h=>?_) (λhb h=>?_)
  .refine TL.le (τ := Qor p0 p1 (wr (v5+1))) ?_ ((iQib (wr (v5+1)) _ h));exact Le.ty 0 1
  .exact JP1.a h (Le.ty 0 1)
def Qqh (p0:(List (List UInt8))) (p1:(List UInt8)):Option ((List (List UInt8))) :=
 Q2z p0 p1>>=λx1 =>
 if x1 then
  some p0
 else
  (Qib p0 p1 0)>>=λo2 =>
  cutL p0 0 o2>>=λx5 =>
  appL 16 [] x5>>=λx6 =>
  appL 16 x6 [p1]>>=λx7 =>
  cutL p0 o2 (p0.length:Int)>>=λx8 =>
  appL 16 x7 x8>>=λx9 =>
  need (((p0.map cStr).length)<((x9.map cStr).length))>>=λ_ =>
  some x9
theorem Qwg:∀ (p0:(List (List UInt8))) (p1:(List UInt8)) (o:(List (List UInt8))),Qqh p0 p1=some o->CallOK Tryz.prog 55 [.own 0 9 1 (p0.map cStr),.p (sV p1)] ⟨[],[(p0.map cStr).length]⟩ (Qyv o) ⟨[],[(o.map cStr).length]⟩:=by
 intro p0 p1 o h;unfold Qqh at h;refine CallOK.ofBN mixed tbOk Q2i Tryz.func55 rfl (by kernel_rfl) (Nat.le_of_ble_eq_true rfl) rfl rfl (Nat.le_of_ble_eq_true rfl) ?_;refine Qam [.sl false (p0.map cStr),sV p1] Qua h (λx1 hy=>(Q20 p0 p1 x1 hy)) (λx1 hy h=>?_);refine Qac h (λhb h=>?_) (λhb h=>?_)
 .refine Exists.intro _ (And.intro (Le.refl _ _ _) ?_);exact Q19 (t:=Qyv) (ss:=λo=>⟨[],[(o.map cStr).length]⟩) h ⟨[],[0],rfl,rfl,.refl _,.refl _,rfl,rfl⟩
 .refine Qah h (λo2 ho hk=>?_);refine Exists.intro (JP1 _ _ o2 (.exit 0) (Qvq p0 p1)) (And.intro (Qf5 (τ := Qor p0 p1 0) ?_ (TL.loop (Qamk p0 p1 0 o2 ho))) (Qaz ?_))
  .exact Le.ty 0 1
  have h:=hk;refine And.intro (by decide +kernel) (And.intro rfl ?_);refine Qacr (full:=false) (c:=cStr) none (some o2) h (λ_=>rfl) (λx5 hi h=>?_);refine Qafw (a:=([]:List (List UInt8))) (b:=x5) (c:=cStr) h (.refl _) (.refl _) (λ_=>rfl) (.inl rfl) (λx6 hi h=>?_);refine Qhp (a:=x6) (b:=[p1]) (c:=cStr) h (.refl _) (λ_=>rfl) rfl (λx7 hi h=>?_);refine Qacr (full:=false) (c:=cStr) (some o2) none h (λ_=>rfl) (λx8 hi h=>?_);refine Qhp (a:=x7) (b:=x8) (c:=cStr) h (.refl _) (λ_=>rfl) rfl (λx9 hi h=>?_);refine Q06 h (λhn h=>?_);refine Exists.intro _ (And.intro ((Le.into 4 0 0 1 _ _ rfl rfl rfl rfl rfl hn (by decide)).trans (Le.refl _ _ _)) ?_);exact Q19 (t:=Qyv) (ss:=λo=>⟨[],[(o.map cStr).length]⟩) h ⟨[],[0],rfl,rfl,.refl _,.refl _,rfl,rfl⟩
def Qgk (p0:(List Qab)) (v4:Int) (x9:(List (List UInt8))) (x10:(List (List UInt8))) (v3_:(List (List UInt8))) (v6:Int):Option ((List (List UInt8))) :=
 if(decide (v6<(x10.length:Int))) then
  idx x10 v6>>=λx12 =>
  Qqh v3_ x12>>=λx13 =>
  Qgk p0 v4 x9 x10 x13 (wr (v6+1))
 else
  some v3_
 partial_fixpoint
theorem Qaml:∀ (p0:(List Qab)) (v4:Int) (x9:(List (List UInt8))) (x10:(List (List UInt8))),(∀ (v3_:(List (List UInt8))) (v6:Int) (o11:(List (List UInt8))),Qgk p0 v4 x9 x10 v3_ v6=some o11->TL (0,0) Tryz.prog 53 Q9c (JP1 (0,0) 53 o11 (.exit 2) (Qvo p0 v4 x9 x10)) (Qop p0 v4 x9 x10 v3_ v6)):=by
 intro p0 v4 x9 x10;refine Qgk.partial_correctness p0 v4 x9 x10 _ ?_;intro Qgk' iQgk v3_ v6 o11 h;refine TL.round (Qan mixed tbOk (lv:=Qwc) _ _ _ ?_);refine view (Qau _ _) rfl ?_;refine Qac h (λhb h=>?_) (λhb h=>?_)
 .refine Qay (l:=x10) (c:=cStr) (c' := cStr) h (λ_=>rfl) (λ_=>rfl) (by decide) (λx12 hi h=>?_);refine Or.inr ?_;refine Q8h _ _ h (λx13 hy=>((Qwg v3_ x12 x13 hy).fr [] [0] rfl rfl rfl)) (λx13 hy h=>?_);refine TL.le (τ := Qop p0 v4 x9 x10 x13 (wr (v6+1))) ?_ ((iQgk x13 (wr (v6+1)) _ h));exact Le.ty 0 3
 .exact JP1.a h (Le.ty 0 3)
mutual
def Qep (p0:(List Qab)):Option ((List (List UInt8))) :=
 (Qgl p0 [] 0)>>=λo1 =>
 some o1
 partial_fixpoint
def Qgl (p0:(List Qab)) (v3:(List (List UInt8))) (v4:Int):Option ((List (List UInt8))) :=
 if(decide (v4<(p0.length:Int))) then
  ( idx p0 v4>>=λx3 =>
   if(x3.Kind==13) then
    idx p0 v4>>=λx4 =>
    Qqh v3 x4.Name>>=λx5 =>
    some x5
   else
    some v3:Option ((List (List UInt8))))>>=λo2 =>
  idx p0 v4>>=λx6 =>
  Qep x6.Then>>=λx7 =>
  idx p0 v4>>=λx8 =>
  Qep x8.Else>>=λx9 =>
  appL 16 x7 x9>>=λx10 =>
  (Qgk p0 v4 x9 x10 o2 0)>>=λo11 =>
  Qgl p0 o11 (wr (v4+1))
 else
  some v3
 partial_fixpoint
end
end Go.Proofs.YtfgegilhjlnohaaGreat
end
