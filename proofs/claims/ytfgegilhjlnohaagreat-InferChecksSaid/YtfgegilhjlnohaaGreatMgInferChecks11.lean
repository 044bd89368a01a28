/- Part 11 of 13. -/
import Derived.Test.YtfgegilhjlnohaaGreatMgInferChecks10
import Derived.Recover
import Derived.RecoverIn

noncomputable section
set_option linter.unusedVariables false
set_option linter.unusedSimpArgs false
set_option maxRecDepth 100000
set_option maxHeartbeats 4000000
namespace Go.Proofs.YtfgegilhjlnohaaGreat
open Go.RowKit
structure Qaj where
 Name:(List UInt8)
 K:Int
 Secret:Bool
def Qat (x:Qaj):List V:=[sV x.Name,iV x.K,bV x.Secret]
structure Qfv where
 Where:(List UInt8)
 Bad:Bool
 Tells:Bool
structure Qbf where
 name_:(List UInt8)
 it_:Bool
structure Qai where
 Kind:Int
 Text:(List UInt8)
 N:Int
 From:Int
 To:Int
def Qag (x:Qai):List V:=[iV x.Kind,sV x.Text,iV x.N,iV x.From,iV x.To]
def Qzv (y:Int×Bool):D :=.tup [.p (iV y.1),.p (bV y.2)]
def Qlf (y:(List Qai)×Int×Int):D :=.tup [.p (.sl false (y.1.map Qag)),.p (iV y.2.1),.p (iV y.2.2)]
def Qqn:List (Nat×List Nat):=[(0,[0]),(1,[0,12]),(2,[2,3,4]),(3,[0,5]),(4,[0,5,6]),(5,[0,5,6,17]),(6,[0,5,6,7]),(7,[0,5,6,7,23]),(8,[0,5,7]),(9,[0,5,7,37]),(10,[2,3,4]),(11,[0,5,7]),(12,[0,5,6]),(13,[0,5,6,52]),(14,[0,5,6]),(15,[0,5,6]),(16,[0,5,6,62]),(17,[2,3,4]),(18,[0,5,6,8,9]),(19,[0,5,6,8,71]),(20,[2,3,4]),(21,[0,5,8]),(22,[0,5,6,8]),(23,[0,5,6,81]),(24,[2,3,4]),(1000005,[0,5,6]),(1000015,[0,5,6]),(2007005,[]),(2013005,[])]
def Q3b (p0:(List UInt8)) (x4:Int) (o5:(List Qai)):St:=⟨[(0,.p (sV p0)),(5,.own 0 147 5 (o5.map Qag)),(7,.p (iV x4))],⟨[],[(o5.map Qag).length]⟩⟩
def Q3c (p0:(List UInt8)) (x8:(List Qai)) (o10:Int):St:=⟨[(0,.p (sV p0)),(5,.own 0 147 5 (x8.map Qag)),(6,.p (iV o10))],⟨[],[(x8.map Qag).length]⟩⟩
def Qlx (p0:(List UInt8)) (v5_:(List Qai)) (v6_:Int):St:=⟨[(0,.p (sV p0)),(5,.own 0 147 5 (v5_.map Qag)),(6,.p (iV v6_))],⟨[],[(v5_.map Qag).length]⟩⟩
def Qrc (p0:(List UInt8)) (y14:(List Qai)×Int):St:=⟨[(0,.p (sV p0)),(5,.own 0 147 5 (y14.1.map Qag)),(6,.p (iV y14.2))],⟨[],[(y14.1.map Qag).length]⟩⟩
def Qrd (p0:(List UInt8)) (y15:Int):St:=⟨[(2,.p (.sl true [])),(3,.p (iV y15)),(4,.p (iV 7))],⟨[],[]⟩⟩
def Q3d:Code:=((Qav (Tryz.f115.body.getD .skip)).getD 1 .skip)
def Qly (p0:(List UInt8)) (v5:(List Qai)) (v6:Int):St:=⟨[(0,.p (sV p0)),(5,.own 0 147 5 (v5.map Qag)),(6,.p (iV v6))],⟨[],[(v5.map Qag).length]⟩⟩
def Qre (p0:(List UInt8)) (y2:(List Qai)):St:=⟨[(5,.own 0 147 5 (y2.map Qag))],⟨[],[(y2.map Qag).length]⟩⟩
def Qrf (p0:(List UInt8)) (y3:(List Qai)×Int×Int):St:=⟨[(2,.p (.sl false (y3.1.map Qag))),(3,.p (iV y3.2.1)),(4,.p (iV y3.2.2))],⟨[],[]⟩⟩
def Q3e:Code:=((Qav (Tryz.f115.body.getD .skip)).getD 0 .skip)
def Qwp (y:Bool):D :=.p (bV y)
def Qady:List (Nat×List Nat):=[(0,[0]),(1,[2]),(3000001,[])]
def Q5k  (o1:Bool):St:=⟨[(2,.p (bV o1))],⟨[],[]⟩⟩
def Qn8 (y:Int):D :=.p (iV y)
def Qxt:List (Nat×List Nat):=[(0,[0,1]),(1,[0,1,14]),(2,[0,1]),(3,[4]),(1000001,[0,1]),(3000001,[])]
def Q3f (p0:(List UInt8)) (v1:Int) (o2:Bool):St:=⟨[(0,.p (sV p0)),(1,.p (iV v1)),(14,.p (bV o2))],⟨[],[]⟩⟩
def Qlz (p0:(List UInt8)) (v1:Int):St:=⟨[(0,.p (sV p0)),(1,.p (iV v1))],⟨[],[]⟩⟩
def Qrg (p0:(List UInt8)) (o1:Int):St:=⟨[(1,.p (iV o1))],⟨[],[]⟩⟩
def Q3g:Code:=((Qav (Tryz.f140.body.getD .skip)).getD 0 .skip)
def Qud (y:Int):D :=.p (iV y)
def Q3h:List (Nat×List Nat):=[(0,[0,1,2]),(1,[0,1,2,17]),(2,[0,1,2]),(3,[6]),(1000001,[0,1,2]),(3000001,[])]
def Q97 (p0:(List UInt8)) (p1:(List UInt8)) (v2:Int) (o2:Bool):St:=⟨[(0,.p (sV p0)),(1,.p (sV p1)),(2,.p (iV v2)),(17,.p (bV o2))],⟨[],[]⟩⟩
def Qoy (p0:(List UInt8)) (p1:(List UInt8)) (v2:Int):St:=⟨[(0,.p (sV p0)),(1,.p (sV p1)),(2,.p (iV v2))],⟨[],[]⟩⟩
def Qvw (p0:(List UInt8)) (p1:(List UInt8)) (o1:Int):St:=⟨[(2,.p (iV o1))],⟨[],[]⟩⟩
def Q98:Code:=((Qav (Tryz.f139.body.getD .skip)).getD 0 .skip)
def Qlg (y:Qai×Bool):D :=.tup [.p (.agg [iV y.1.Kind,sV y.1.Text,iV y.1.N,iV y.1.From,iV y.1.To]),.p (bV y.2)]
def Que:List (Nat×List Nat):=[(0,[0,1,4]),(1,[0,1,4,6]),(2,[0,1,4,6,7]),(3,[0,1,4,6,7,24]),(4,[1,4,6]),(5,[4,6]),(6,[4,5]),(7,[0,1,4,6,7,8]),(8,[0,1,4,6,7,8,9]),(9,[0,1,4,6,7,8,9,33]),(10,[0,1,4,6,7,8,9]),(11,[0,1,4,6,7,8,9,40]),(12,[4,6]),(13,[4,5]),(14,[0,1,4,6,7,48]),(15,[1,4,10,11]),(16,[4,5]),(17,[0,1,4,6,7,12]),(18,[0,1,4,6,7,12,64]),(19,[0,1,4,12,86]),(20,[0,1,4,12]),(21,[4,5]),(22,[0,1,4,6,12,106]),(23,[0,1,4,12,116]),(24,[0,1,4,12]),(25,[1,4,12,13,14]),(26,[4,5]),(27,[4,5]),(1000009,[0,1,4,6,7,8,9]),(1000019,[0,1,4,12]),(1000023,[0,1,4,12]),(3000019,[]),(3000022,[]),(3000023,[])]
def Qqo (p0:(List UInt8)) (p1:Int) (x1:UInt8) (v9:Int):St:=⟨[(0,.p (sV p0)),(1,.p (iV p1)),(4,.ptr 0 0),(6,.ptr 1 0),(7,.p (nV .u8 (x1.toNat:Int))),(8,.p (sV [46,40,41,44,61])),(9,.p (iV v9))],⟨[[.p (iV 0),.p (sV []),.p (iV 0),.p (iV 0),.p (iV 0)],[.p (iV 0),.p (sV []),.p (iV 0),.p (iV p1),.p (iV (wr (p1+1)))]],[]⟩⟩
def Qxu (p0:(List UInt8)) (p1:Int) (x1:UInt8) (y4:Unit):St:=⟨[(0,.p (sV p0)),(1,.p (iV p1)),(4,.ptr 0 0),(6,.ptr 1 0),(7,.p (nV .u8 (x1.toNat:Int)))],⟨[[.p (iV 0),.p (sV []),.p (iV 0),.p (iV 0),.p (iV 0)],[.p (iV 0),.p (sV []),.p (iV 0),.p (iV p1),.p (iV (wr (p1+1)))]],[]⟩⟩
def Qxv (p0:(List UInt8)) (p1:Int) (x1:UInt8) (y5:Int×Int):St:=⟨[(4,.ptr 0 0),(5,.p (bV true))],⟨[[.p (iV y5.1),.p (sV []),.p (iV 0),.p (iV p1),.p (iV (wr (p1+1)))],[.p (iV y5.2),.p (sV []),.p (iV 0),.p (iV p1),.p (iV (wr (p1+1)))]],[]⟩⟩
def Qadz:Code:=((Qav (Tryz.f142.body.getD .skip)).getD 0 .skip)
def Qad0 (p0:(List UInt8)) (p1:Int) (v12:Int) (o11:Bool):St:=⟨[(0,.p (sV p0)),(1,.p (iV p1)),(4,.ptr 0 0),(12,.p (iV v12)),(86,.p (bV o11))],⟨[[.p (iV 0),.p (sV []),.p (iV 0),.p (iV 0),.p (iV 0)],[.p (iV 0),.p (sV []),.p (iV 0),.p (iV p1),.p (iV (wr (p1+1)))]],[]⟩⟩
def Qqp (p0:(List UInt8)) (p1:Int) (v12:Int):St:=⟨[(0,.p (sV p0)),(1,.p (iV p1)),(4,.ptr 0 0),(12,.p (iV v12))],⟨[[.p (iV 0),.p (sV []),.p (iV 0),.p (iV 0),.p (iV 0)],[.p (iV 0),.p (sV []),.p (iV 0),.p (iV p1),.p (iV (wr (p1+1)))]],[]⟩⟩
def Qxw (p0:(List UInt8)) (p1:Int) (o10:Int):St:=⟨[(0,.p (sV p0)),(1,.p (iV p1)),(4,.ptr 0 0),(12,.p (iV o10))],⟨[[.p (iV 0),.p (sV []),.p (iV 0),.p (iV 0),.p (iV 0)],[.p (iV 0),.p (sV []),.p (iV 0),.p (iV p1),.p (iV (wr (p1+1)))]],[]⟩⟩
def Qad1:Code:=((Qav (Tryz.f142.body.getD .skip)).getD 1 .skip)
def Qad2 (p0:(List UInt8)) (p1:Int) (o20:Bool):St:=⟨[(0,.p (sV p0)),(1,.p (iV p1)),(4,.ptr 0 0),(6,.ptr 1 0),(12,.p (iV (wr (p1+1)))),(106,.p (bV o20))],⟨[[.p (iV 0),.p (sV []),.p (iV 0),.p (iV 0),.p (iV 0)],[.p (iV 0),.p (sV []),.p (iV 0),.p (iV p1),.p (iV (wr (p1+1)))]],[]⟩⟩
def Qad3 (p0:(List UInt8)) (p1:Int) (v12:Int) (o23:Bool):St:=⟨[(0,.p (sV p0)),(1,.p (iV p1)),(4,.ptr 0 0),(12,.p (iV v12)),(116,.p (bV o23))],⟨[[.p (iV 0),.p (sV []),.p (iV 0),.p (iV 0),.p (iV 0)],[.p (iV 0),.p (sV []),.p (iV 0),.p (iV p1),.p (iV (wr (p1+1)))]],[]⟩⟩
def Qqq (p0:(List UInt8)) (p1:Int) (v12:Int):St:=⟨[(0,.p (sV p0)),(1,.p (iV p1)),(4,.ptr 0 0),(12,.p (iV v12))],⟨[[.p (iV 0),.p (sV []),.p (iV 0),.p (iV 0),.p (iV 0)],[.p (iV 0),.p (sV []),.p (iV 0),.p (iV p1),.p (iV (wr (p1+1)))]],[]⟩⟩
def Qxx (p0:(List UInt8)) (p1:Int) (o22:Int):St:=⟨[(0,.p (sV p0)),(1,.p (iV p1)),(4,.ptr 0 0),(12,.p (iV o22))],⟨[[.p (iV 0),.p (sV []),.p (iV 0),.p (iV 0),.p (iV 0)],[.p (iV 0),.p (sV []),.p (iV 0),.p (iV p1),.p (iV (wr (p1+1)))]],[]⟩⟩
def Qad4:Code:=((Qav (Tryz.f142.body.getD .skip)).getD 2 .skip)
def Qn9 (y:(List UInt8)×Int):D :=.tup [.p (sV y.1),.p (iV y.2)]
def Qxy:List (Nat×List Nat):=[(0,[0,1]),(1,[0,1,6]),(2,[0,1,6]),(3,[0,1,6,15]),(4,[0,1,6,19]),(5,[4,5]),(6,[0,1,6,26]),(7,[0,1,6,31]),(8,[4,5]),(9,[0,1,6,7]),(10,[0,1,6,7,37]),(11,[0,1,6]),(12,[0,1,6,7,41]),(13,[0,1,6]),(14,[0,1,6,49]),(15,[0,1,6]),(16,[4,5]),(17,[0,1,6]),(18,[0,1,6,8,9]),(19,[0,1,6,9,79]),(20,[4,5]),(21,[0,1,6,9]),(22,[0,1,6]),(23,[4,5]),(1000003,[0,1,6]),(3000009,[]),(3000014,[]),(3000019,[])]
def Q3i (p0:(List UInt8)) (v1:Int) (v6:(List UInt8)) (o6:Int):St:=⟨[(0,.p (sV p0)),(1,.p (iV v1)),(6,.p (sV v6)),(7,.p (nV .u8 o6))],⟨[],[]⟩⟩
def Q3j (p0:(List UInt8)) (v1:Int) (v6:(List UInt8)) (o8:Bool):St:=⟨[(0,.p (sV p0)),(1,.p (iV v1)),(6,.p (sV v6)),(49,.p (bV o8))],⟨[],[]⟩⟩
def Q3k (p0:(List UInt8)) (v1:Int) (v6:(List UInt8)) (x10:Int×Int) (o11:Bool):St:=⟨[(0,.p (sV p0)),(1,.p (iV v1)),(6,.p (sV v6)),(9,.p (iV x10.2)),(79,.p (bV o11))],⟨[],[]⟩⟩
def Qd6 (p0:(List UInt8)) (v1:Int) (v6:(List UInt8)):St:=⟨[(0,.p (sV p0)),(1,.p (iV v1)),(6,.p (sV v6))],⟨[],[]⟩⟩
def Qrh (p0:(List UInt8)) (y2:Unit):St:=⟨[],⟨[],[]⟩⟩
def Qri (p0:(List UInt8)) (y3:(List UInt8)×Int):St:=⟨[(4,.p (sV y3.1)),(5,.p (iV y3.2))],⟨[],[]⟩⟩
def Q3l:Code:=((Qav (Tryz.f159.body.getD .skip)).getD 0 .skip)
def Qgv (y:(List Qab)×Int×Int):D :=.tup [.p (.sl false (y.1.map Qaa)),.p (iV y.2.1),.p (iV y.2.2)]
def Qad5:List (Nat×List Nat):=[(0,[0]),(1,[0,5,6,7]),(2,[0,5,6,7,17]),(3,[2,3,4]),(4,[0,5,8]),(5,[0,5,8,9]),(6,[0,5,8,9,28]),(7,[0,5,8,35]),(8,[2,3,4]),(9,[2,3,4]),(10,[9,48]),(11,[2,3,4]),(12,[9,51]),(13,[2,3,4]),(14,[2,3,4])]
def Qoa (y:Bool):D :=.p (bV y)
def Qwq:List (Nat×List Nat):=[(0,[0,1]),(1,[4]),(3000001,[])]
def Qtd (h0_0:(List Qai)) (h0_1:Int) (h0_2:Bool) (o1:Bool):St:=⟨[(4,.p (bV o1))],⟨[[.p (.sl false (h0_0.map Qag)),.p (iV h0_1),.p (bV h0_2)]],[]⟩⟩
def Qf4 (y:(List Qab)×Int×Bool):D :=.p (.sl false (y.1.map Qaa))
def Qnk:List (Nat×List Nat):=[(0,[0,1,2]),(1,[0,1,2,7]),(2,[0,1,2,7,27]),(3,[0,1,2,7,29]),(4,[0,1,2,7,8]),(5,[0,1,2,7,8,9]),(6,[0,1,2,7,8,9,45]),(7,[0,1,2,7]),(8,[0,1,2,7]),(9,[0,1,2,7,73]),(10,[6]),(11,[0,1,2,7]),(12,[0,1,2,7,80]),(13,[0,1,2,7]),(14,[0,1,2,7]),(15,[6]),(1000002,[0,1,2,7]),(3000002,[]),(3000006,[]),(3000009,[]),(9000005,[1,0,0,0]),(9000006,[5,0,0,0,6,0,0,0,7,0,0,0]),(9000007,[4,0,0,0,5,0,0,0,6,0,0,0,9,0,0,0,10,0,0,0,11,1,7,0]),(9000008,[4,0,0,0]),(9000014,[4,0,0,0])]
def Qte (p1:Bool) (p2:Bool) (h0_0:(List Qai)) (v7:(List Qab)) (h0_1_:Int) (h0_2_:Bool) (o4:Bool):St:=⟨[(0,.ptr 0 0),(1,.p (bV p1)),(2,.p (bV p2)),(7,.x 0 1 (.sl 38 7 (v7.map Qaa))),(27,.p (bV o4))],⟨[[.p (.sl false (h0_0.map Qag)),.p (iV h0_1_),.p (bV h0_2_)]],[1]⟩⟩
def Qtf (p1:Bool) (p2:Bool) (h0_0:(List Qai)) (v7:(List Qab)) (x6:Qai×Int×Bool) (o7:Bool):St:=⟨[(0,.ptr 0 0),(1,.p (bV p1)),(2,.p (bV p2)),(7,.x 0 1 (.sl 38 7 (v7.map Qaa))),(8,.p (sV x6.1.Text)),(9,.p (iV (wr ((v7.length:Int)-1)))),(45,.p (bV o7))],⟨[[.p (.sl false (h0_0.map Qag)),.p (iV x6.2.1),.p (bV x6.2.2)]],[1]⟩⟩
def Qtg (p1:Bool) (p2:Bool) (h0_0:(List Qai)) (v7:(List Qab)) (h0_1_:Int) (h0_2_:Bool) (o12:Bool):St:=⟨[(0,.ptr 0 0),(1,.p (bV p1)),(2,.p (bV p2)),(7,.x 0 1 (.sl 38 7 (v7.map Qaa))),(73,.p (bV o12))],⟨[[.p (.sl false (h0_0.map Qag)),.p (iV h0_1_),.p (bV h0_2_)]],[1]⟩⟩
def Qca (p1:Bool) (p2:Bool) (h0_0:(List Qai)) (v7:(List Qab)) (h0_1_:Int) (h0_2_:Bool):St:=⟨[(0,.ptr 0 0),(1,.p (bV p1)),(2,.p (bV p2)),(7,.x 0 1 (.sl 38 7 (v7.map Qaa)))],⟨[[.p (.sl false (h0_0.map Qag)),.p (iV h0_1_),.p (bV h0_2_)]],[1]⟩⟩
def Qj1 (p1:Bool) (p2:Bool) (h0_0:(List Qai)) (y2:(List Qab)×Int×Bool):St:=⟨[(7,.x 0 1 (.sl 38 7 (y2.1.map Qaa)))],⟨[[.p (.sl false (h0_0.map Qag)),.p (iV y2.2.1),.p (bV y2.2.2)]],[1]⟩⟩
def Qj2 (p1:Bool) (p2:Bool) (h0_0:(List Qai)) (y3:(List Qab)×Int×Bool):St:=⟨[(6,.x 0 1 (.sl 38 7 (y3.1.map Qaa)))],⟨[[.p (.sl false (h0_0.map Qag)),.p (iV y3.2.1),.p (bV y3.2.2)]],[1]⟩⟩
def Qth:Code:=((Qav (Tryz.f116.body.getD .skip)).getD 0 .skip)
def Qkn (y:Qab×Int×Bool):D :=.p (.agg [iV y.1.Kind,sV y.1.Name,sV y.1.Text,iV y.1.N,.sl false (y.1.L.map Qaa),.sl false (y.1.Then.map Qaa),.sl false (y.1.Else.map Qaa)])
def Qob:List (Nat×List Nat):=[(0,[0,2]),(1,[0,2,3]),(2,[0,2,3,7]),(3,[0,2,3]),(4,[0,2,3]),(5,[2]),(1000002,[0,2,3]),(5000004,[3,1005,1008]),(8000004,[2])]
def Qgw (h0_0:(List Qai)) (h0_1_:Int) (h0_2_:Bool) (h2_0:Int) (h2_1:(List UInt8)) (h2_2:(List UInt8)) (h2_3:Int) (h2_4:(List Qab)) (h2_5:(List Qab)) (h2_6:(List Qab)):St:=⟨[(0,.ptr 0 0),(2,.ptr 1 0),(3,.ptr 2 0)],⟨[[.p (.sl false (h0_0.map Qag)),.p (iV h0_1_),.p (bV h0_2_)],[.p (iV 0),.p (sV []),.p (sV []),.p (iV 0),.p (.sl true []),.p (.sl true []),.p (.sl true [])],[.p (iV h2_0),.p (sV h2_1),.p (sV h2_2),.p (iV h2_3),.p (.sl false (h2_4.map Qaa)),.p (.sl false (h2_5.map Qaa)),.p (.sl false (h2_6.map Qaa))]],[]⟩⟩
def Qlh (h0_0:(List Qai)) (o2:Int×Bool×Int×(List UInt8)×(List UInt8)×Int×(List Qab)×(List Qab)×(List Qab)):St:=⟨[(2,.ptr 1 0),(3,.ptr 2 0)],⟨[[.p (.sl false (h0_0.map Qag)),.p (iV o2.1),.p (bV o2.2.1)],[.p (iV 0),.p (sV []),.p (sV []),.p (iV 0),.p (.sl true []),.p (.sl true []),.p (.sl true [])],[.p (iV o2.2.2.1),.p (sV o2.2.2.2.1),.p (sV o2.2.2.2.2.1),.p (iV o2.2.2.2.2.2.1),.p (.sl false (o2.2.2.2.2.2.2.1.map Qaa)),.p (.sl false (o2.2.2.2.2.2.2.2.1.map Qaa)),.p (.sl false (o2.2.2.2.2.2.2.2.2.map Qaa))]],[]⟩⟩
def Qux:Code:=((Qav (Tryz.f162.body.getD .skip)).getD 0 .skip)
def Qfe (y:Qab×Int×Bool):D :=.p (.agg [iV y.1.Kind,sV y.1.Name,sV y.1.Text,iV y.1.N,.sl false (y.1.L.map Qaa),.sl false (y.1.Then.map Qaa),.sl false (y.1.Else.map Qaa)])
def Quy:List (Nat×List Nat):=[(0,[0,2]),(1,[0,2,7]),(2,[0,2]),(3,[0,2,3]),(4,[0,2,3]),(5,[0,2,3]),(6,[0,2,3,20]),(7,[0,2,3]),(8,[0,2,3]),(9,[2,3]),(10,[2]),(11,[0,2,34]),(12,[0,2,4]),(13,[0,2,4,37]),(14,[0,2,4]),(15,[0,2,4]),(16,[0,2,4]),(17,[0,2,4,46]),(18,[0,2,4]),(19,[0,2,4]),(20,[0,2,4]),(21,[0,2,4]),(22,[0,2,4]),(23,[2,4]),(24,[2]),(25,[0,2,5]),(26,[0,2,5,69]),(27,[0,2,5]),(28,[0,2,5]),(29,[0,2,5]),(30,[0,2,5]),(31,[2,5]),(32,[2]),(2006007,[]),(2013005,[]),(2017005,[]),(2026009,[]),(3000011,[])]
def Qrs (h0_0:(List Qai)) (x3:Qab×Int×Bool) (x5:(List Qab)×Int×Bool) (o6:Int×Bool×(List Qab)):St:=⟨[(0,.ptr 0 0),(2,.ptr 1 0),(3,.ptr 2 0)],⟨[[.p (.sl false (h0_0.map Qag)),.p (iV o6.1),.p (bV o6.2.1)],[.p (iV 0),.p (sV []),.p (sV []),.p (iV 0),.p (.sl true []),.p (.sl true []),.p (.sl true [])],[.p (iV 10),.p (sV []),.p (sV []),.p (iV 0),.p (.sl true ([x3.1].map Qaa)),.p (.sl false (x5.1.map Qaa)),.p (.sl false (o6.2.2.map Qaa))]],[]⟩⟩
def Qrt (h0_0:(List Qai)) (h0_1:Int) (h0_2:Bool) (o11:Bool):St:=⟨[(0,.ptr 0 0),(2,.ptr 1 0),(34,.p (bV o11))],⟨[[.p (.sl false (h0_0.map Qag)),.p (iV h0_1),.p (bV h0_2)],[.p (iV 0),.p (sV []),.p (sV []),.p (iV 0),.p (.sl true []),.p (.sl true []),.p (.sl true [])]],[]⟩⟩
def Qru (h0_0:(List Qai)) (h0_1:Int) (h0_2:Bool) (o14:Int):St:=⟨[(0,.ptr 0 0),(2,.ptr 1 0),(4,.ptr 2 0)],⟨[[.p (.sl false (h0_0.map Qag)),.p (iV h0_1),.p (bV h0_2)],[.p (iV 0),.p (sV []),.p (sV []),.p (iV 0),.p (.sl true []),.p (.sl true []),.p (.sl true [])],[.p (iV o14),.p (sV []),.p (sV []),.p (iV 0),.p (.sl true []),.p (.sl true []),.p (.sl true [])]],[]⟩⟩
def Qrv (h0_0:(List Qai)) (o14:Int) (x17:(List UInt8)×Int×Bool) (o18:Int×Bool):St:=⟨[(0,.ptr 0 0),(2,.ptr 1 0),(4,.ptr 2 0)],⟨[[.p (.sl false (h0_0.map Qag)),.p (iV o18.1),.p (bV o18.2)],[.p (iV 0),.p (sV []),.p (sV []),.p (iV 0),.p (.sl true []),.p (.sl true []),.p (.sl true [])],[.p (iV o14),.p (sV x17.1),.p (sV []),.p (iV 0),.p (.sl true []),.p (.sl true []),.p (.sl true [])]],[]⟩⟩
def Qrw (h0_0:(List Qai)) (o27:Int×Bool×Int×(List UInt8)):St:=⟨[(0,.ptr 0 0),(2,.ptr 1 0),(5,.ptr 2 0)],⟨[[.p (.sl false (h0_0.map Qag)),.p (iV o27.1),.p (bV o27.2.1)],[.p (iV 0),.p (sV []),.p (sV []),.p (iV 0),.p (.sl true []),.p (.sl true []),.p (.sl true [])],[.p (iV o27.2.2.1),.p (sV o27.2.2.2),.p (sV []),.p (iV 0),.p (.sl true []),.p (.sl true []),.p (.sl true [])]],[]⟩⟩
def Qoc (_:Int×Bool):D :=.tup []
def Qwr:List (Nat×List Nat):=[(0,[])]
def Qrj (_:Int×Bool):D :=.tup []
def Qy1:List (Nat×List Nat):=[(0,[0,1]),(1,[0]),(2,[])]
def Qbs (y:Qab×Int×Bool):D :=.p (.agg [iV y.1.Kind,sV y.1.Name,sV y.1.Text,iV y.1.N,.sl false (y.1.L.map Qaa),.sl false (y.1.Then.map Qaa),.sl false (y.1.Else.map Qaa)])
def Qnl:List (Nat×List Nat):=[(0,[0,2]),(1,[0,2,7]),(2,[2]),(3,[0,2,13]),(4,[2]),(5,[0,2,19]),(6,[2]),(7,[2]),(8,[0,2,24]),(9,[2]),(10,[2]),(11,[0,2,29]),(12,[0,2]),(13,[0,2]),(14,[0,2,3]),(15,[2,3]),(16,[2]),(17,[0,2,4]),(18,[0,2,4,66]),(19,[2]),(20,[0,2,4]),(21,[0,2,4]),(22,[0,2,4,72]),(23,[2,4]),(24,[2]),(25,[0,2,4,5]),(26,[0,2,4,5,84]),(27,[0,2,4,5]),(28,[0,2,4,5]),(29,[0,2,4,5,95]),(30,[0,2,4,5,97]),(31,[0,2,4,5]),(32,[2,4]),(33,[2]),(1000026,[0,2,4,5]),(3000014,[]),(3000026,[]),(5000014,[17]),(5000028,[3,1001,1007]),(8000028,[2])]
def Qti (h0_0:(List Qai)) (o13:Int×Bool×Int×(List UInt8)×Int×Int×Int):St:=⟨[(0,.ptr 0 0),(2,.ptr 1 0),(3,.ptr 2 0)],⟨[[.p (.sl false (h0_0.map Qag)),.p (iV o13.1),.p (bV o13.2.1)],[.p (iV 0),.p (sV []),.p (sV []),.p (iV 0),.p (.sl true []),.p (.sl true []),.p (.sl true [])],[.p (iV o13.2.2.1),.p (sV o13.2.2.2.1),.p (iV o13.2.2.2.2.1),.p (iV o13.2.2.2.2.2.1),.p (iV o13.2.2.2.2.2.2)]],[]⟩⟩
def Qtj (h0_0:(List Qai)) (x21:(List UInt8)×Int×Bool) (v5:Int) (h0_1_:Int) (h0_2_:Bool) (h2_4:(List Qab)) (o27:Bool):St:=⟨[(0,.ptr 0 0),(2,.ptr 1 0),(4,.ptr 2 0),(5,.p (iV v5)),(84,.p (bV o27))],⟨[[.p (.sl false (h0_0.map Qag)),.p (iV h0_1_),.p (bV h0_2_)],[.p (iV 0),.p (sV []),.p (sV []),.p (iV 0),.p (.sl true []),.p (.sl true []),.p (.sl true [])],[.p (iV 6),.p (sV x21.1),.p (sV []),.p (iV 0),.own 0 38 7 (h2_4.map Qaa),.p (.sl true []),.p (.sl true [])]],[(h2_4.map Qaa).length]⟩⟩
def Qd3 (h0_0:(List Qai)) (x21:(List UInt8)×Int×Bool) (v5:Int) (h0_1_:Int) (h0_2_:Bool) (h2_4:(List Qab)):St:=⟨[(0,.ptr 0 0),(2,.ptr 1 0),(4,.ptr 2 0),(5,.p (iV v5))],⟨[[.p (.sl false (h0_0.map Qag)),.p (iV h0_1_),.p (bV h0_2_)],[.p (iV 0),.p (sV []),.p (sV []),.p (iV 0),.p (.sl true []),.p (.sl true []),.p (.sl true [])],[.p (iV 6),.p (sV x21.1),.p (sV []),.p (iV 0),.own 0 38 7 (h2_4.map Qaa),.p (.sl true []),.p (.sl true [])]],[(h2_4.map Qaa).length]⟩⟩
def Qj3 (h0_0:(List Qai)) (x21:(List UInt8)×Int×Bool) (o26:Int×Bool×(List Qab)):St:=⟨[(0,.ptr 0 0),(2,.ptr 1 0),(4,.ptr 2 0)],⟨[[.p (.sl false (h0_0.map Qag)),.p (iV o26.1),.p (bV o26.2.1)],[.p (iV 0),.p (sV []),.p (sV []),.p (iV 0),.p (.sl true []),.p (.sl true []),.p (.sl true [])],[.p (iV 6),.p (sV x21.1),.p (sV []),.p (iV 0),.own 0 38 7 (o26.2.2.map Qaa),.p (.sl true []),.p (.sl true [])]],[(o26.2.2.map Qaa).length]⟩⟩
def Qtk:Code:=((Qav (Tryz.f173.body.getD .skip)).getD 0 .skip)
def Qdy (y:Bool):D :=.p (bV y)
def Q0i:List (Nat×List Nat):=[(0,[0,1]),(1,[4]),(3000001,[])]
def Qxz (h0_0:(List Qai)) (h0_1:Int) (h0_2:Bool) (o1:Bool):St:=⟨[(4,.p (bV o1))],⟨[[.p (.sl false (h0_0.map Qag)),.p (iV h0_1),.p (bV h0_2)]],[]⟩⟩
def Qps (y:(List UInt8)×Int×Bool):D :=.p (sV y.1)
def Qx0:List (Nat×List Nat):=[(0,[0]),(1,[2]),(3000001,[]),(5000001,[17])]
def Quz (h0_0:(List Qai)) (o1:(List UInt8)×Int×Bool):St:=⟨[(2,.p (sV o1.1))],⟨[[.p (.sl false (h0_0.map Qag)),.p (iV o1.2.1),.p (bV o1.2.2)]],[]⟩⟩
def Qko (y:Qai×Int×Bool):D :=.p (.agg [iV y.1.Kind,sV y.1.Text,iV y.1.N,iV y.1.From,iV y.1.To])
def Qx1:List (Nat×List Nat):=[(0,[0,1,4]),(1,[0,4,12]),(2,[4]),(3,[4]),(4,[0,4]),(5,[4]),(3000001,[])]
def Qu0 (h0_0:(List Qai)) (h0_1:Int) (h0_2:Bool) (o1:Bool):St:=⟨[(0,.ptr 0 0),(4,.ptr 1 0),(12,.p (bV o1))],⟨[[.p (.sl false (h0_0.map Qag)),.p (iV h0_1),.p (bV h0_2)],[.p (iV 0),.p (sV []),.p (iV 0),.p (iV 0),.p (iV 0)]],[]⟩⟩
def Qpt (y:Bool):D :=.p (bV y)
def Qx2:List (Nat×List Nat):=[(0,[0,1]),(1,[4]),(3000001,[])]
def Qu1 (h0_0:(List Qai)) (h0_1:Int) (h0_2:Bool) (o1:Bool):St:=⟨[(4,.p (bV o1))],⟨[[.p (.sl false (h0_0.map Qag)),.p (iV h0_1),.p (bV h0_2)]],[]⟩⟩
def Qig (y:Int):D :=.p (iV y)
def Qzw:List (Nat×List Nat):=[(0,[0,1,2]),(1,[0,1,2,7]),(2,[0,1,2,7,8]),(3,[0,1,2,7,8,19]),(4,[0,1,2,7,8]),(5,[0,1,2,7,8]),(6,[0,1,2,7,8,56]),(7,[0,1,2,7,8,9]),(8,[0,1,2,7,8]),(9,[6]),(1000003,[0,1,2,7,8]),(3000003,[]),(3000006,[])]
def Q5l (p0:(List Qae)) (p1:(List Qab)) (p2:Int) (v7:Int) (v8:Int) (o2:Bool):St:=⟨[(0,.p (.sl false (p0.map Qaf))),(1,.p (.sl false (p1.map Qaa))),(2,.p (iV p2)),(7,.p (iV v7)),(8,.p (iV v8)),(19,.p (bV o2))],⟨[],[]⟩⟩
def Q5m (p0:(List Qae)) (p1:(List Qab)) (p2:Int) (v7:Int) (v8:Int) (x4:Int) (x6:Int) (o7:Bool):St:=⟨[(0,.p (.sl false (p0.map Qaf))),(1,.p (.sl false (p1.map Qaa))),(2,.p (iV p2)),(7,.p (iV (wr ((wr ((wr (v7+1))+x4))+x6)))),(8,.p (iV v8)),(56,.p (bV o7))],⟨[],[]⟩⟩
def Qjj (p0:(List Qae)) (p1:(List Qab)) (p2:Int) (v7:Int) (v8:Int):St:=⟨[(0,.p (.sl false (p0.map Qaf))),(1,.p (.sl false (p1.map Qaa))),(2,.p (iV p2)),(7,.p (iV v7)),(8,.p (iV v8))],⟨[],[]⟩⟩
def Qtl (p0:(List Qae)) (p1:(List Qab)) (p2:Int) (o1:Int):St:=⟨[(7,.p (iV o1))],⟨[],[]⟩⟩
def Q5n:Code:=((Qav (Tryz.f60.body.getD .skip)).getD 0 .skip)
def Qff (y:(List Qae)×Bool):D :=.tup [.p (.sl false (y.1.map Qaf)),.p (bV y.2)]
def Qu2:List (Nat×List Nat):=[(0,[0,1]),(1,[0,1]),(2,[0,1,7]),(3,[0,1,18]),(4,[4,5]),(5,[0,8]),(6,[4,5])]
def Qcv (y:(List Qaj)):D :=.x 0 1 (.sl 46 3 (y.map Qat))
def Qjk:List (Nat×List Nat):=[(0,[0]),(1,[0,4]),(2,[2]),(3,[2]),(9000001,[1,0,0,0]),(9000003,[2,0,0,0])]
def Quf (p0:(List UInt8)):Option (Int×Bool) :=
 need (p0.length<=9223372036854775807)>>=λ_ =>
 some (Q2a p0)
theorem Q99:∀ (p0:(List UInt8)) (o:Int×Bool),Quf p0=some o->PCall Tryz.prog 160 [sV p0] (Qzv o):=by
 intro p0 o h;unfold Quf at h;obtain⟨h1,h⟩:=Qacu h;cases h;exact Qajo _ h1
def Qx3 (p0:Int):Option (Bool) :=
 ( if(p0==32) then
   some true
  else
   if(p0==9) then
    some true
   else
    if(p0==10) then
     some true
    else
     some (p0==13):Option (Bool))>>=λo1 =>
 some o1
theorem Qad6:∀ (p0:Int) (o:Bool),Qx3 p0=some o->PCall Tryz.prog 158 [nV .u8 p0] (Qwp o):=by
 intro p0 o h;unfold Qx3 at h;refine PCall.ofY Qady Tryz.func158 ?_;refine Qah h (λo1 ho hk=>?_);refine Exists.intro (JP1 _ _ o1 .normal (Q5k )) (And.intro ?_ (Qaz ?_))
 .have h:=ho;refine Qac h (λhb h=>?_) (λhb h=>?_)
  .refine bT ?_;refine bT ?_;exact JP1.a h (Le.ty 0 0)
  .refine Qac h (λhb h=>?_) (λhb h=>?_)
   .refine bT ?_;exact JP1.a h (Le.ty 0 0)
   .refine Qac h (λhb h=>?_) (λhb h=>?_)
    .exact JP1.a h (Le.ty 0 0)
    .exact JP1.a h (Le.ty 0 0)
 .have h:=hk;refine Qak (t:=Qwp) h ?_;exact .refl _
def Qfg (p0:(List UInt8)) (v1:Int):Option (Int) :=
 ( if(decide (v1<(p0.length:Int))) then
   idx p0 v1>>=λx3 =>
   Qx3 (x3.toNat:Int)>>=λx4 =>
   some x4
  else
   some false:Option (Bool))>>=λo2 =>
 if o2 then
  Qfg p0 (wr (v1+1))
 else
  some v1
 partial_fixpoint
theorem Qaj1:∀ (p0:(List UInt8)),(∀ (v1:Int) (o1:Int),Qfg p0 v1=some o1->TL (0,0) Tryz.prog 18 Q3g (JP1 (0,0) 18 o1 (.exit 0) (Qrg p0)) (Qlz p0 v1)):=by
 intro p0;refine Qfg.partial_correctness p0 _ ?_;intro Qfg' iQfg v1 o1 h;refine TL.round (Qan mixed tbOk (lv:=Qxt) _ _ _ ?_);refine Qah h (λo2 ho hk=>?_);refine Exists.intro (JP1 _ _ o2 .normal (Q3f p0 v1)) (And.intro ?_ (Qaz ?_))
 .have h:=ho;refine vrfl ?_;refine Qac h (λhb h=>?_) (λhb h=>?_)
  .refine Qda h (λx3 hi h=>?_);refine Qam [nV .u8 (x3.toNat:Int)] Qwp h (λx4 hy=>(Qad6 (x3.toNat:Int) x4 hy)) (λx4 hy h=>?_);exact JP1.a h (Le.ty 0 0)
  .exact JP1.a h (Le.ty 0 0)
 .have h:=hk;refine Qac h (λhb h=>?_) (λhb h=>?_)
  .refine TL.le (τ := Qlz p0 (wr (v1+1))) ?_ ((iQfg (wr (v1+1)) _ h));exact Le.ty 0 0
  .exact JP1.a h (Le.ty 0 0)
def Qkp (p0:(List UInt8)) (p1:Int):Option (Int) :=
 (Qfg p0 p1)>>=λo1 =>
 some o1
theorem Qx4:∀ (p0:(List UInt8)) (p1:Int) (o:Int),Qkp p0 p1=some o->PCall Tryz.prog 140 [sV p0,iV p1] (Qn8 o):=by
 intro p0 p1 o h;unfold Qkp at h;refine PCall.ofY Qxt Tryz.func140 ?_;refine Qah h (λo1 ho hk=>?_);refine Exists.intro (JP1 _ _ o1 (.exit 0) (Qrg p0)) (And.intro (Qf5 (τ := Qlz p0 p1) ?_ (TL.loop (Qaj1 p0 p1 o1 ho))) (Qaz ?_))
 .exact Le.ty 0 0
 have h:=hk;refine Qak (t:=Qn8) h ?_;exact .refl _
def Qkq (p0:(List UInt8)) (p1:Int) (x1:UInt8) (v9:Int):Option (Unit⊕(Int×Int)) :=
 if(decide (v9<([46,40,41,44,61].length:Int))) then
  idx ([46,40,41,44,61]:List UInt8) v9>>=λx6 =>
  if((x6.toNat:Int)==(x1.toNat:Int)) then
   idx ([7,8,9,10,11]:List Int) v9>>=λx7 =>
   some (.inr (x7,x7))
  else
   Qkq p0 p1 x1 (wr (v9+1))
 else
  some (.inl ())
 partial_fixpoint
theorem Qanv:∀ (p0:(List UInt8)) (p1:Int) (x1:UInt8),(∀ (v9:Int) (o3:Unit⊕(Int×Int)),Qkq p0 p1 x1 v9=some o3->TL (0,0) Tryz.prog 133 Qadz (JP2 (0,0) 133 o3 (.exit 0) (Qxu p0 p1 x1) .ret (Qxv p0 p1 x1)) (Qqo p0 p1 x1 v9)):=by
 intro p0 p1 x1;refine Qkq.partial_correctness p0 p1 x1 _ ?_;intro Qkq' iQkq v9 o3 h;refine TL.round (Qan mixed tbOk (lv:=Que) _ _ _ ?_);refine vrfl ?_;refine Qac h (λhb h=>?_) (λhb h=>?_)
 .refine Qda h (λx6 hi h=>?_);refine Qac h (λhb h=>?_) (λhb h=>?_)
  .refine Qay (l:=[7,8,9,10,11]) (c:=cInt) (c' := cInt) h (λ_=>rfl) (λ_=>rfl) (by decide) (λx7 hi h=>?_);exact JP2.b h (Le.ty 2 0)
  .refine TL.le (τ := Qqo p0 p1 x1 (wr (v9+1))) ?_ ((iQkq (wr (v9+1)) _ h));exact Le.ty 2 0
 .exact JP2.a h (Le.ty 2 0)
def Qkr (p0:(List UInt8)) (p1:Int) (v12:Int):Option (Int) :=
 ( if(decide (v12<(p0.length:Int))) then
   idx p0 v12>>=λx12 =>
   Qfr (x12.toNat:Int)>>=λx13 =>
   if x13 then
    some true
   else
    idx p0 v12>>=λx14 =>
    Qfq (x14.toNat:Int)>>=λx15 =>
    if x15 then
     some true
    else
     idx p0 v12>>=λx16 =>
     some ((x16.toNat:Int)==95)
  else
   some false:Option (Bool))>>=λo11 =>
 if o11 then
  Qkr p0 p1 (wr (v12+1))
 else
  some v12
 partial_fixpoint
theorem Qanw:∀ (p0:(List UInt8)) (p1:Int),(∀ (v12:Int) (o10:Int),Qkr p0 p1 v12=some o10->TL (0,0) Tryz.prog 133 Qad1 (JP1 (0,0) 133 o10 (.exit 2) (Qxw p0 p1)) (Qqp p0 p1 v12)):=by
 intro p0 p1;refine Qkr.partial_correctness p0 p1 _ ?_;intro Qkr' iQkr v12 o10 h;refine TL.round (Qan mixed tbOk (lv:=Que) _ _ _ ?_);refine Qah h (λo11 ho hk=>?_);refine Exists.intro (JP1 _ _ o11 .normal (Qad0 p0 p1 v12)) (And.intro ?_ (Qaz ?_))
 .have h:=ho;refine vrfl ?_;refine Qac h (λhb h=>?_) (λhb h=>?_)
  .refine Qda h (λx12 hi h=>?_);refine Qam [nV .u8 (x12.toNat:Int)] Qkd h (λx13 hy=>(Qn5 (x12.toNat:Int) x13 hy)) (λx13 hy h=>?_);refine Qac h (λhb h=>?_) (λhb h=>?_)
   .refine bT ?_;exact JP1.a h (Le.ty 2 0)
   .refine Qda h (λx14 hi h=>?_);refine Qam [nV .u8 (x14.toNat:Int)] Qkc h (λx15 hy=>(Qn4 (x14.toNat:Int) x15 hy)) (λx15 hy h=>?_);refine Qac h (λhb h=>?_) (λhb h=>?_)
    .exact JP1.a h (Le.ty 2 0)
    .refine Qda h (λx16 hi h=>?_);exact JP1.a h (Le.ty 2 0)
  .exact JP1.a h (Le.ty 2 0)
 .have h:=hk;refine Qac h (λhb h=>?_) (λhb h=>?_)
  .refine TL.le (τ := Qqp p0 p1 (wr (v12+1))) ?_ ((iQkr (wr (v12+1)) _ h));exact Le.ty 2 0
  .exact JP1.a h (Le.ty 2 0)
def Qks (p0:(List UInt8)) (p1:Int) (v12:Int):Option (Int) :=
 ( if(decide (v12<(p0.length:Int))) then
   idx p0 v12>>=λx24 =>
   Qfq (x24.toNat:Int)>>=λx25 =>
   some x25
  else
   some false:Option (Bool))>>=λo23 =>
 if o23 then
  Qks p0 p1 (wr (v12+1))
 else
  some v12
 partial_fixpoint
theorem Qanx:∀ (p0:(List UInt8)) (p1:Int),(∀ (v12:Int) (o22:Int),Qks p0 p1 v12=some o22->TL (0,0) Tryz.prog 133 Qad4 (JP1 (0,0) 133 o22 (.exit 4) (Qxx p0 p1)) (Qqq p0 p1 v12)):=by
 intro p0 p1;refine Qks.partial_correctness p0 p1 _ ?_;intro Qks' iQks v12 o22 h;refine TL.round (Qan mixed tbOk (lv:=Que) _ _ _ ?_);refine Qah h (λo23 ho hk=>?_);refine Exists.intro (JP1 _ _ o23 .normal (Qad3 p0 p1 v12)) (And.intro ?_ (Qaz ?_))
 .have h:=ho;refine vrfl ?_;refine Qac h (λhb h=>?_) (λhb h=>?_)
  .refine Qda h (λx24 hi h=>?_);refine Qam [nV .u8 (x24.toNat:Int)] Qkc h (λx25 hy=>(Qn4 (x24.toNat:Int) x25 hy)) (λx25 hy h=>?_);exact JP1.a h (Le.ty 2 0)
  .exact JP1.a h (Le.ty 2 0)
 .have h:=hk;refine Qac h (λhb h=>?_) (λhb h=>?_)
  .refine TL.le (τ := Qqq p0 p1 (wr (v12+1))) ?_ ((iQks (wr (v12+1)) _ h));exact Le.ty 2 0
  .exact JP1.a h (Le.ty 2 0)
def Qc9 (p0:(List UInt8)) (v1:Int) (v6:(List UInt8)):Option (Unit⊕((List UInt8)×Int)) :=
 if(decide (v1<(p0.length:Int))) then
  idx p0 v1>>=λx4 =>
  if((x4.toNat:Int)==34) then
   some (.inr (v6,(wr (v1+1))))
  else
   idx p0 v1>>=λx5 =>
   if((x5.toNat:Int)==92) then
    if((wr (v1+1))==(p0.length:Int)) then
     some (.inr ([],(-1)))
    else
     ( idx p0 (wr (v1+1))>>=λx7 =>
      some (x7.toNat:Int):Option (Int))>>=λo6 =>
     if(o6==110) then
      need (v6.length+[10].length<=9223372036854775807)>>=λ_ =>
      Qc9 p0 (wr (v1+2)) (v6++[10])
     else
      if(o6==116) then
       need (v6.length+[9].length<=9223372036854775807)>>=λ_ =>
       Qc9 p0 (wr (v1+2)) (v6++[9])
      else
       ( if(o6==34) then
         some true
        else
         some (o6==92):Option (Bool))>>=λo8 =>
       if o8 then
        cutL p0 (wr (v1+1)) (wr (v1+2))>>=λx9 =>
        need (v6.length+x9.length<=9223372036854775807)>>=λ_ =>
        Qc9 p0 (wr (v1+2)) (v6++x9)
       else
        some (.inr ([],(-1)))
   else
    Qmc p0 v1>>=λx10 =>
    ( if(x10.1==10) then
      some true
     else
      if(x10.1==13) then
       some true
      else
       if(x10.1==65533) then
        some (x10.2==1)
       else
        some false:Option (Bool))>>=λo11 =>
    if o11 then
     some (.inr ([],(-1)))
    else
     cutL p0 v1 (wr (v1+x10.2))>>=λx12 =>
     need (v6.length+x12.length<=9223372036854775807)>>=λ_ =>
     Qc9 p0 (wr (v1+x10.2)) (v6++x12)
 else
  some (.inl ())
 partial_fixpoint
theorem Qaj2:∀ (p0:(List UInt8)),(∀ (v1:Int) (v6:(List UInt8)) (o1:Unit⊕((List UInt8)×Int)),Qc9 p0 v1 v6=some o1->TL (0,0) Tryz.prog 91 Q3l (JP2 (0,0) 91 o1 (.exit 0) (Qrh p0) .ret (Qri p0)) (Qd6 p0 v1 v6)):=by
 intro p0;refine Qc9.partial_correctness p0 _ ?_;intro Qc9' iQc9 v1 v6 o1 h;refine TL.round (Qan mixed tbOk (lv:=Qxy) _ _ _ ?_);refine vrfl ?_;refine Qac h (λhb h=>?_) (λhb h=>?_)
 .refine Qda h (λx4 hi h=>?_);refine Qac h (λhb h=>?_) (λhb h=>?_)
  .exact JP2.b h (Le.ty 0 0)
  .refine Qda h (λx5 hi h=>?_);refine Qac h (λhb h=>?_) (λhb h=>?_)
   .refine vrfl ?_;refine Qac h (λhb h=>?_) (λhb h=>?_)
    .exact JP2.b h (Le.ty 0 0)
    .refine Qah h (λo6 ho hk=>?_);refine Exists.intro (JP1 _ _ o6 .normal (Q3i p0 v1 v6)) (And.intro ?_ (Qaz ?_))
     .have h:=ho;refine Qda h (λx7 hi h=>?_);exact JP1.a h (Le.ty 0 0)
     .have h:=hk;refine Qac h (λhb h=>?_) (λhb h=>?_)
      .refine Qr9 h (λh=>?_);refine TL.le (τ := Qd6 p0 (wr (v1+2)) (v6++[10])) ?_ ((iQc9 (wr (v1+2)) (v6++[10]) _ h));exact Le.ty 0 0
      .refine Qac h (λhb h=>?_) (λhb h=>?_)
       .refine Qr9 h (λh=>?_);refine TL.le (τ := Qd6 p0 (wr (v1+2)) (v6++[9])) ?_ ((iQc9 (wr (v1+2)) (v6++[9]) _ h));exact Le.ty 0 0
       .refine Qah h (λo8 ho hk=>?_);refine Exists.intro (JP1 _ _ o8 .normal (Q3j p0 v1 v6)) (And.intro ?_ (Qaz ?_))
        .have h:=ho;refine Qac h (λhb h=>?_) (λhb h=>?_)
         .exact JP1.a h (Le.ty 0 0)
         .exact JP1.a h (Le.ty 0 0)
        .have h:=hk;refine Qac h (λhb h=>?_) (λhb h=>?_)
         .refine Qi4 (some (wr (v1+1))) (some (wr (v1+2))) h (λx9 hi h=>?_);refine Qr9 h (λh=>?_);refine TL.le (τ := Qd6 p0 (wr (v1+2)) (v6++x9)) ?_ ((iQc9 (wr (v1+2)) (v6++x9) _ h));exact Le.ty 0 0
         .exact JP2.b h (Le.ty 0 0)
   .refine Qam [sV p0,iV v1] Qmi h (λx10 hy=>(Q2x p0 v1 x10 hy)) (λx10 hy h=>?_);refine Qah h (λo11 ho hk=>?_);refine Exists.intro (JP1 _ _ o11 .normal (Q3k p0 v1 v6 x10)) (And.intro ?_ (Qaz ?_))
    .have h:=ho;refine Qac h (λhb h=>?_) (λhb h=>?_)
     .refine bT ?_;exact JP1.a h (Le.ty 0 0)
     .refine Qac h (λhb h=>?_) (λhb h=>?_)
      .exact JP1.a h (Le.ty 0 0)
      .refine Qac h (λhb h=>?_) (λhb h=>?_)
       .exact JP1.a h (Le.ty 0 0)
       .exact JP1.a h (Le.ty 0 0)
    .have h:=hk;refine Qac h (λhb h=>?_) (λhb h=>?_)
     .exact JP2.b h (Le.ty 0 0)
     .refine Qi4 (some v1) (some (wr (v1+x10.2))) h (λx12 hi h=>?_);refine Qr9 h (λh=>?_);refine TL.le (τ := Qd6 p0 (wr (v1+x10.2)) (v6++x12)) ?_ ((iQc9 (wr (v1+x10.2)) (v6++x12) _ h));exact Le.ty 0 0
 .exact JP2.a h (Le.ty 0 0)
def Qml (p0:(List UInt8)) (p1:Int):Option ((List UInt8)×Int) :=
 (Qc9 p0 (wr (p1+1)) [])>>=λo1 =>
 match o1 with
 | .inl y2 =>
  some ([],(-1))
 | .inr y3 =>
  some (y3.1,y3.2)
theorem Qaaa:∀ (p0:(List UInt8)) (p1:Int) (o:(List UInt8)×Int),Qml p0 p1=some o->PCall Tryz.prog 159 [sV p0,iV p1] (Qn9 o):=by
 intro p0 p1 o h;unfold Qml at h;refine PCall.ofY Qxy Tryz.func159 ?_;refine Qah h (λo1 ho hk=>?_);refine Exists.intro (JP2 _ _ o1 (.exit 0) (Qrh p0) .ret (Qri p0)) (And.intro (Qf5 (τ := Qd6 p0 (wr (p1+1)) []) ?_ (TL.loop (Qaj2 p0 (wr (p1+1)) [] o1 ho))) (Qer (λy2 hy=>?_) (λy3 hy=>?_)))
 .exact Le.ty 0 0
 .have h:=(by rw[hy] at hk; exact hk);refine Qak (t:=Qn9) h ?_;exact .refl _
 .have h:=(by rw[hy] at hk; exact hk);refine Qak (t:=Qn9) h ?_;exact .refl _
def Qy2 (p0:(List UInt8)) (p1:Int):Option (Qai×Bool) :=
 idx p0 p1>>=λx1 =>
 Qeu p0 [125,125] p1>>=λx2 =>
 if x2 then
  some ((Qai.mk 3 [] 0 p1 (wr (p1+2))),true)
 else
  (Qkq p0 p1 x1 0)>>=λo3 =>
  match o3 with
  | .inl y4 =>
   if((x1.toNat:Int)==34) then
    Qml p0 p1>>=λx8 =>
    some ((Qai.mk 5 x8.1 0 p1 x8.2),(decide (x8.2>0)))
   else
    Qfr (x1.toNat:Int)>>=λx9 =>
    if x9 then
     (Qkr p0 p1 (wr (p1+1)))>>=λo10 =>
     cutL p0 p1 o10>>=λx17 =>
     cutL p0 p1 o10>>=λx18 =>
     Qh2 x18>>=λx19 =>
     some ((Qai.mk 4 x17 0 p1 o10),x19)
    else
     ( if((x1.toNat:Int)==45) then
       some true
      else
       Qfq (x1.toNat:Int)>>=λx21 =>
       some x21:Option (Bool))>>=λo20 =>
     if o20 then
      (Qks p0 p1 (wr (p1+1)))>>=λo22 =>
      cutL p0 p1 o22>>=λx26 =>
      Quf x26>>=λx27 =>
      some ((Qai.mk 6 [] x27.1 p1 o22),x27.2)
     else
      some ((Qai.mk 0 [] 0 p1 (wr (p1+1))),false)
  | .inr y5 =>
   some ((Qai.mk y5.1 [] 0 p1 (wr (p1+1))),true)
theorem Qaj3:∀ (p0:(List UInt8)) (p1:Int) (o:Qai×Bool),Qy2 p0 p1=some o->PCall Tryz.prog 142 [sV p0,iV p1] (Qlg o):=by
 intro p0 p1 o h;unfold Qy2 at h;refine PCall.ofY Que Tryz.func142 ?_;refine Qda h (λx1 hi h=>?_);refine Qam [sV p0,sV [125,125],iV p1] Qir h (λx2 hy=>(Qmb p0 [125,125] p1 x2 hy)) (λx2 hy h=>?_);refine Qac h (λhb h=>?_) (λhb h=>?_)
 .refine Qak (t:=Qlg) h ?_;exact .refl _
 .refine Qah h (λo3 ho hk=>?_);refine Exists.intro (JP2 _ _ o3 (.exit 0) (Qxu p0 p1 x1) .ret (Qxv p0 p1 x1)) (And.intro (Qf5 (τ := Qqo p0 p1 x1 0) ?_ (TL.loop (Qanv p0 p1 x1 0 o3 ho))) (Qer (λy4 hy=>?_) (λy5 hy=>?_)))
  .exact Le.ty 2 0
  .have h:=(by rw[hy] at hk; exact hk);refine Qac h (λhb h=>?_) (λhb h=>?_)
   .refine Qam [sV p0,iV p1] Qn9 h (λx8 hy=>(Qaaa p0 p1 x8 hy)) (λx8 hy h=>?_);refine Qak (t:=Qlg) h ?_;exact .refl _
   .refine Qam [nV .u8 (x1.toNat:Int)] Qkd h (λx9 hy=>(Qn5 (x1.toNat:Int) x9 hy)) (λx9 hy h=>?_);refine Qac h (λhb h=>?_) (λhb h=>?_)
    .refine Qah h (λo10 ho hk=>?_);refine Exists.intro (JP1 _ _ o10 (.exit 2) (Qxw p0 p1)) (And.intro (Qf5 (τ := Qqp p0 p1 (wr (p1+1))) ?_ (TL.loop (Qanw p0 p1 (wr (p1+1)) o10 ho))) (Qaz ?_))
     .exact Le.ty 2 0
     have h:=hk;refine And.intro (by decide +kernel) (And.intro rfl ?_);refine Qi4 (some p1) (some o10) h (λx17 hi h=>?_);refine Qi4 (some p1) (some o10) h (λx18 hi h=>?_);refine Qcf [sV x18] Qhd h (λx19 hy=>(Qnf x18 x19 hy)) (λx19 hy h=>?_);refine Qak (t:=Qlg) h ?_;exact .refl _
    .refine Qah h (λo20 ho hk=>?_);refine Exists.intro (JP1 _ _ o20 .normal (Qad2 p0 p1)) (And.intro ?_ (Qaz ?_))
     .have h:=ho;refine Qac h (λhb h=>?_) (λhb h=>?_)
      .exact JP1.a h (Le.ty 2 0)
      .refine Qam [nV .u8 (x1.toNat:Int)] Qkc h (λx21 hy=>(Qn4 (x1.toNat:Int) x21 hy)) (λx21 hy h=>?_);exact JP1.a h (Le.ty 2 0)
     .have h:=hk;refine Qac h (λhb h=>?_) (λhb h=>?_)
      .refine Qah h (λo22 ho hk=>?_);refine Exists.intro (JP1 _ _ o22 (.exit 4) (Qxx p0 p1)) (And.intro (Qf5 (τ := Qqq p0 p1 (wr (p1+1))) ?_ (TL.loop (Qanx p0 p1 (wr (p1+1)) o22 ho))) (Qaz ?_))
       .exact Le.ty 2 0
       have h:=hk;refine Qi4 (some p1) (some o22) h (λx26 hi h=>?_);refine Qam [sV x26] Qzv h (λx27 hy=>(Q99 x26 x27 hy)) (λx27 hy h=>?_);refine Qak (t:=Qlg) h ?_;exact .refl _
      .refine Qak (t:=Qlg) h ?_;exact .refl _
  .have h:=(by rw[hy] at hk; exact hk);refine Qak (t:=Qlg) h ?_;exact .refl _
def Qfh (p0:(List UInt8)) (v5_:(List Qai)) (v6_:Int):Option (((List Qai)×Int)⊕Int) :=
 Qkp p0 v6_>>=λx16 =>
 if(x16==(p0.length:Int)) then
  some (.inr x16)
 else
  Qy2 p0 x16>>=λx17 =>
  if(!x17.2) then
   some (.inr x16)
  else
   appL 48 v5_ [x17.1]>>=λx18 =>
   if(x17.1.Kind==3) then
    some (.inl (x18,x17.1.To))
   else
    Qfh p0 x18 x17.1.To
 partial_fixpoint
theorem Qaj4:∀ (p0:(List UInt8)),(∀ (v5_:(List Qai)) (v6_:Int) (o13:((List Qai)×Int)⊕Int),Qfh p0 v5_ v6_=some o13->TL (0,0) Tryz.prog 83 Q3d (JP2 (0,0) 83 o13 (.exit 2) (Qrc p0) .ret (Qrd p0)) (Qlx p0 v5_ v6_)):=by
 intro p0;refine Qfh.partial_correctness p0 _ ?_;intro Qfh' iQfh v5_ v6_ o13 h;refine TL.round (Qan mixed tbOk (lv:=Qqn) _ _ _ ?_);refine Qam [sV p0,iV v6_] Qn8 h (λx16 hy=>(Qx4 p0 v6_ x16 hy)) (λx16 hy h=>?_);refine vrfl ?_;refine Qac h (λhb h=>?_) (λhb h=>?_)
 .exact JP2.b h (Le.ty 0 0)
 .refine Qam [sV p0,iV x16] Qlg h (λx17 hy=>(Qaj3 p0 x16 x17 hy)) (λx17 hy h=>?_);refine Qac h (λhb h=>?_) (λhb h=>?_)
  .exact JP2.b h (Le.ty 0 0)
  .refine Qhp (a:=v5_) (b:=[x17.1]) (c:=Qag) h (.refl _) (λ_=>rfl) rfl (λx18 hi h=>?_);refine Qac h (λhb h=>?_) (λhb h=>?_)
   .exact JP2.a h (Le.ty 0 1)
   .refine TL.le (τ := Qlx p0 x18 x17.1.To) ?_ ((iQfh x18 x17.1.To _ h));exact Le.ty 0 1
def Qih (p0:(List UInt8)) (p1:(List UInt8)) (v2:Int):Option (Int) :=
 ( if(decide (v2<(p0.length:Int))) then
   Qeu p0 p1 v2>>=λx3 =>
   some (!x3)
  else
   some false:Option (Bool))>>=λo2 =>
 if o2 then
  Qih p0 p1 (wr (v2+1))
 else
  some v2
 partial_fixpoint
theorem Qand:∀ (p0:(List UInt8)) (p1:(List UInt8)),(∀ (v2:Int) (o1:Int),Qih p0 p1 v2=some o1->TL (0,0) Tryz.prog 21 Q98 (JP1 (0,0) 21 o1 (.exit 0) (Qvw p0 p1)) (Qoy p0 p1 v2)):=by
 intro p0 p1;refine Qih.partial_correctness p0 p1 _ ?_;intro Qih' iQih v2 o1 h;refine TL.round (Qan mixed tbOk (lv:=Q3h) _ _ _ ?_);refine Qah h (λo2 ho hk=>?_);refine Exists.intro (JP1 _ _ o2 .normal (Q97 p0 p1 v2)) (And.intro ?_ (Qaz ?_))
 .have h:=ho;refine vrfl ?_;refine Qac h (λhb h=>?_) (λhb h=>?_)
  .refine Qam [sV p0,sV p1,iV v2] Qir h (λx3 hy=>(Qmb p0 p1 v2 x3 hy)) (λx3 hy h=>?_);exact JP1.a h (Le.ty 0 0)
  .exact JP1.a h (Le.ty 0 0)
 .have h:=hk;refine Qac h (λhb h=>?_) (λhb h=>?_)
  .refine TL.le (τ := Qoy p0 p1 (wr (v2+1))) ?_ ((iQih (wr (v2+1)) _ h));exact Le.ty 0 0
  .exact JP1.a h (Le.ty 0 0)
def Qqr (p0:(List UInt8)) (p1:(List UInt8)) (p2:Int):Option (Int) :=
 (Qih p0 p1 p2)>>=λo1 =>
 some o1
theorem Q3m:∀ (p0:(List UInt8)) (p1:(List UInt8)) (p2:Int) (o:Int),Qqr p0 p1 p2=some o->PCall Tryz.prog 139 [sV p0,sV p1,iV p2] (Qud o):=by
 intro p0 p1 p2 o h;unfold Qqr at h;refine PCall.ofY Q3h Tryz.func139 ?_;refine Qah h (λo1 ho hk=>?_);refine Exists.intro (JP1 _ _ o1 (.exit 0) (Qvw p0 p1)) (And.intro (Qf5 (τ := Qoy p0 p1 p2) ?_ (TL.loop (Qand p0 p1 p2 o1 ho))) (Qaz ?_))
 .exact Le.ty 0 0
 have h:=hk;refine Qak (t:=Qud) h ?_;exact .refl _
def Qfi (p0:(List UInt8)) (v5:(List Qai)) (v6:Int):Option ((List Qai)⊕((List Qai)×Int×Int)) :=
 if(decide (v6<(p0.length:Int))) then
  Qqr p0 [123,123] v6>>=λx4 =>
  ( if(decide (x4>v6)) then
    cutL p0 v6 x4>>=λx6 =>
    appL 48 v5 [(Qai.mk 1 x6 0 v6 x4)]>>=λx7 =>
    some x7
   else
    some v5:Option ((List Qai)))>>=λo5 =>
  if(x4==(p0.length:Int)) then
   some (.inr (o5,0,0))
  else
   appL 48 o5 ([(Qai.mk 2 [] 0 x4 (wr (x4+2)))])>>=λx8 =>
   Qkp p0 (wr (x4+2))>>=λx9 =>
   ( Qeu p0 [35] x9>>=λx11 =>
    if x11 then
     Qqr p0 [125,125] x9>>=λx12 =>
     some x12
    else
     some x9:Option (Int))>>=λo10 =>
   (Qfh p0 x8 o10)>>=λo13 =>
   match o13 with
   | .inl y14 =>
    Qfi p0 y14.1 y14.2
   | .inr y15 =>
    some (.inr ([],y15,7))
 else
  some (.inl v5)
 partial_fixpoint
theorem Qaj5:∀ (p0:(List UInt8)),(∀ (v5:(List Qai)) (v6:Int) (o1:(List Qai)⊕((List Qai)×Int×Int)),Qfi p0 v5 v6=some o1->TL (0,0) Tryz.prog 83 Q3e (JP2 (0,0) 83 o1 (.exit 0) (Qre p0) .ret (Qrf p0)) (Qly p0 v5 v6)):=by
 intro p0;refine Qfi.partial_correctness p0 _ ?_;intro Qfi' iQfi v5 v6 o1 h;refine TL.round (Qan mixed tbOk (lv:=Qqn) _ _ _ ?_);refine vrfl ?_;refine Qac h (λhb h=>?_) (λhb h=>?_)
 .refine Qam [sV p0,sV [123,123],iV v6] Qud h (λx4 hy=>(Q3m p0 [123,123] v6 x4 hy)) (λx4 hy h=>?_);refine Qah h (λo5 ho hk=>?_);refine Exists.intro (JP1 _ _ o5 .normal (Q3b p0 x4)) (And.intro ?_ (Qaz ?_))
  .have h:=ho;refine Qac h (λhb h=>?_) (λhb h=>?_)
   .refine Qi4 (some v6) (some x4) h (λx6 hi h=>?_);refine Qhp (a:=v5) (b:=[(Qai.mk 1 x6 0 v6 x4)]) (c:=Qag) h (.refl _) (λ_=>rfl) rfl (λx7 hi h=>?_);exact JP1.a h (Le.ty 0 1)
   .exact JP1.a h (Le.ty 0 1)
  .have h:=hk;refine vrfl ?_;refine Qac h (λhb h=>?_) (λhb h=>?_)
   .exact JP2.b h (Le.ty 0 0)
   .refine Qhp (a:=o5) (b:=[(Qai.mk 2 [] 0 x4 (wr (x4+2)))]) (c:=Qag) h (.refl _) (λ_=>rfl) rfl (λx8 hi h=>?_);refine Qam [sV p0,iV (wr (x4+2))] Qn8 h (λx9 hy=>(Qx4 p0 (wr (x4+2)) x9 hy)) (λx9 hy h=>?_);refine Qah h (λo10 ho hk=>?_);refine Exists.intro (JP1 _ _ o10 .normal (Q3c p0 x8)) (And.intro ?_ (Qaz ?_))
    .have h:=ho;refine Qam [sV p0,sV [35],iV x9] Qir h (λx11 hy=>(Qmb p0 [35] x9 x11 hy)) (λx11 hy h=>?_);refine Qac h (λhb h=>?_) (λhb h=>?_)
     .refine Qam [sV p0,sV [125,125],iV x9] Qud h (λx12 hy=>(Q3m p0 [125,125] x9 x12 hy)) (λx12 hy h=>?_);exact JP1.a h (Le.ty 0 1)
     .exact JP1.a h (Le.ty 0 1)
    .have h:=hk;refine Qah h (λo13 ho hk=>?_);refine Exists.intro (JP2 _ _ o13 (.exit 2) (Qrc p0) .ret (Qrd p0)) (And.intro (Qf5 (τ := Qlx p0 x8 o10) ?_ (TL.loop (Qaj4 p0 x8 o10 o13 ho))) (Qer (λy14 hy=>?_) (λy15 hy=>?_)))
     .exact Le.ty 0 1
     .have h:=(by rw[hy] at hk; exact hk);refine TL.le (τ := Qly p0 y14.1 y14.2) ?_ ((iQfi y14.1 y14.2 _ h));exact Le.ty 0 1
     .have h:=(by rw[hy] at hk; exact hk);exact JP2.b h (Le.tow 0 0 rfl (.cons rfl (.p (.not)) (.cons rfl (.refl _) (.cons rfl (.refl _) (.nil)))) (.refl _) rfl)
 .exact JP2.a h (Le.ty 0 1)
def Qmm (p0:(List UInt8)):Option ((List Qai)×Int×Int) :=
 if(decide ((p0.length:Int)>65536)) then
  some ([],0,6)
 else
  (Qfi p0 [] 0)>>=λo1 =>
  match o1 with
  | .inl y2 =>
   some (y2,0,0)
  | .inr y3 =>
   some (y3.1,y3.2.1,y3.2.2)
theorem Qaab:∀ (p0:(List UInt8)) (o:(List Qai)×Int×Int),Qmm p0=some o->PCall Tryz.prog 115 [sV p0] (Qlf o):=by
 intro p0 o h;unfold Qmm at h;refine PCall.ofY Qqn Tryz.func115 ?_;refine vrfl ?_;refine Qac h (λhb h=>?_) (λhb h=>?_)
 .refine Qak (t:=Qlf) h ?_;exact .tup (xs:=[.sl true [],iV 0,iV 6]) (ys:=[.sl false [],iV 0,iV 6]) (.cons (.not) (.cons (.refl _) (.cons (.refl _) (.nil))))
 .refine Qah h (λo1 ho hk=>?_);refine Exists.intro (JP2 _ _ o1 (.exit 0) (Qre p0) .ret (Qrf p0)) (And.intro (Qf5 (τ := Qly p0 [] 0) ?_ (TL.loop (Qaj5 p0 [] 0 o1 ho))) (Qer (λy2 hy=>?_) (λy3 hy=>?_)))
  .exact Le.trans (τ := ⟨[(0,.p (sV p0)),(5,.p (.sl true [])),(6,.p (iV 0))],⟨[],[]⟩⟩) (Le.ty 0 0) ((Le.own 5 147 5 rfl Qv8).trans (Le.ty 0 1))
  .have h:=(by rw[hy] at hk; exact hk);refine Qak (t:=Qlf) h ?_;exact .refl _
  .have h:=(by rw[hy] at hk; exact hk);refine Qak (t:=Qlf) h ?_;exact .refl _
def Qas (p1:Int) (h0_0:(List Qai)) (h0_1:Int) (h0_2:Bool):Option (Bool) :=
 ( if(!h0_2) then
   if(decide (h0_1<(h0_0.length:Int))) then
    idx h0_0 h0_1>>=λx2 =>
    some (x2.Kind==p1)
   else
    some false
  else
   some false:Option (Bool))>>=λo1 =>
 some o1
theorem Qa0:∀ (p1:Int) (h0_0:(List Qai)) (h0_1:Int) (h0_2:Bool) (o:Bool),Qas p1 h0_0 h0_1 h0_2=some o->CallOK Tryz.prog 143 [.ptr 0 0,.p (iV p1)] ⟨[[.p (.sl false (h0_0.map Qag)),.p (iV h0_1),.p (bV h0_2)]],[]⟩ (Qdy o) ⟨[[.p (.sl false (h0_0.map Qag)),.p (iV h0_1),.p (bV h0_2)]],[]⟩:=by
 intro p1 h0_0 h0_1 h0_2 o h;unfold Qas at h;refine CallOK.ofB mixed tbOk Q0i Tryz.func143 rfl (by kernel_rfl) (Nat.le_of_ble_eq_true rfl) rfl rfl rfl ?_;refine Qah h (λo1 ho hk=>?_);refine Exists.intro (JP1 _ _ o1 .normal (Qxz h0_0 h0_1 h0_2)) (And.intro ?_ (Qaz ?_))
 .have h:=ho;refine And.intro (by decide +kernel) (And.intro rfl ?_);refine Qac h (λhb h=>?_) (λhb h=>?_)
  .refine view (Qau _ _) rfl ?_;refine Qac h (λhb h=>?_) (λhb h=>?_)
   .refine Qay (l:=h0_0) (c:=Qag) (c' := Qag) h (λ_=>rfl) (λ_=>rfl) (by decide) (λx2 hi h=>?_);exact JP1.a h (Le.ty 1 0)
   .exact JP1.a h (Le.ty 1 0)
  .refine bF ?_;exact JP1.a h (Le.ty 1 0)
 .have h:=hk;refine Exists.intro _ (And.intro (Le.refl _ _ _) ?_);exact Qb3 (t:=Qdy) (ss:=λo=>⟨[[.p (.sl false (h0_0.map Qag)),.p (iV h0_1),.p (bV h0_2)]],[]⟩) h ⟨[],rfl,.refl _,.refl _,rfl⟩
def Qb1 (p1:(List UInt8)) (h0_0:(List Qai)) (h0_1:Int) (h0_2:Bool):Option (Bool) :=
 ( Qas 2 h0_0 h0_1 h0_2>>=λx2 =>
  if x2 then
   if(decide ((wr (h0_1+1))<(h0_0.length:Int))) then
    idx h0_0 (wr (h0_1+1))>>=λx3 =>
    if(x3.Kind==4) then
     idx h0_0 (wr (h0_1+1))>>=λx4 =>
     some (x4.Text==p1)
    else
     some false
   else
    some false
  else
   some false:Option (Bool))>>=λo1 =>
 some o1
theorem Qfj:∀ (p1:(List UInt8)) (h0_0:(List Qai)) (h0_1:Int) (h0_2:Bool) (o:Bool),Qb1 p1 h0_0 h0_1 h0_2=some o->CallOK Tryz.prog 145 [.ptr 0 0,.p (sV p1)] ⟨[[.p (.sl false (h0_0.map Qag)),.p (iV h0_1),.p (bV h0_2)]],[]⟩ (Qoa o) ⟨[[.p (.sl false (h0_0.map Qag)),.p (iV h0_1),.p (bV h0_2)]],[]⟩:=by
 intro p1 h0_0 h0_1 h0_2 o h;unfold Qb1 at h;refine CallOK.ofB mixed tbOk Qwq Tryz.func145 rfl (by kernel_rfl) (Nat.le_of_ble_eq_true rfl) rfl rfl rfl ?_;refine Qah h (λo1 ho hk=>?_);refine Exists.intro (JP1 _ _ o1 .normal (Qtd h0_0 h0_1 h0_2)) (And.intro ?_ (Qaz ?_))
 .have h:=ho;refine And.intro (by decide +kernel) (And.intro rfl ?_);refine Qqb (λx2=>(Qdy x2).ren [0] []) h (λx2 hy=>(Qa0 2 h0_0 h0_1 h0_2 x2 hy).fd rfl rfl [0] rfl rfl) (λx2 hy h=>?_);refine Qac h (λhb h=>?_) (λhb h=>?_)
  .refine view (Qau _ _) rfl ?_;refine Qac h (λhb h=>?_) (λhb h=>?_)
   .refine Qay (l:=h0_0) (c:=Qag) (c' := Qag) h (λ_=>rfl) (λ_=>rfl) (by decide) (λx3 hi h=>?_);refine Qac h (λhb h=>?_) (λhb h=>?_)
    .refine Qay (l:=h0_0) (c:=Qag) (c' := Qag) h (λ_=>rfl) (λ_=>rfl) (by decide) (λx4 hi h=>?_);exact JP1.a h (Le.ty 1 0)
    .exact JP1.a h (Le.ty 1 0)
   .refine bF ?_;exact JP1.a h (Le.ty 1 0)
  .refine bF ?_;refine bF ?_;exact JP1.a h (Le.ty 1 0)
 .have h:=hk;refine Exists.intro _ (And.intro (Le.refl _ _ _) ?_);exact Qb3 (t:=Qoa) (ss:=λo=>⟨[[.p (.sl false (h0_0.map Qag)),.p (iV h0_1),.p (bV h0_2)]],[]⟩) h ⟨[],rfl,.refl _,.refl _,rfl⟩
def Qal (p1:Bool) (h0_0:(List Qai)) (h0_1:Int) (h0_2:Bool):Option (Qai×Int×Bool) :=
 ( if(!p1) then
   some true
  else
   some h0_2:Option (Bool))>>=λo1 =>
 if o1 then
  some ((Qai.mk 0 [] 0 0 0),h0_1,true)
 else
  idx h0_0 (wr ((wr (h0_1+1))-1))>>=λx2 =>
  some (x2,(wr (h0_1+1)),h0_2)
theorem Qar:∀ (p1:Bool) (h0_0:(List Qai)) (h0_1:Int) (h0_2:Bool) (o:Qai×Int×Bool),Qal p1 h0_0 h0_1 h0_2=some o->CallOK Tryz.prog 144 [.ptr 0 0,.p (bV p1)] ⟨[[.p (.sl false (h0_0.map Qag)),.p (iV h0_1),.p (bV h0_2)]],[]⟩ (Qko o) ⟨[[.p (.sl false (h0_0.map Qag)),.p (iV o.2.1),.p (bV o.2.2)]],[]⟩:=by
 intro p1 h0_0 h0_1 h0_2 o h;unfold Qal at h;refine CallOK.ofB mixed tbOk Qx1 Tryz.func144 rfl (by kernel_rfl) (Nat.le_of_ble_eq_true rfl) rfl rfl rfl ?_;refine Qah h (λo1 ho hk=>?_);refine Exists.intro (JP1 _ _ o1 .normal (Qu0 h0_0 h0_1 h0_2)) (And.intro ?_ (Qaz ?_))
 .have h:=ho;refine Qac h (λhb h=>?_) (λhb h=>?_)
  .exact JP1.a h (Le.ty 2 0)
  .exact JP1.a h (Le.ty 2 0)
 .have h:=hk;refine Qac h (λhb h=>?_) (λhb h=>?_)
  .refine Exists.intro _ (And.intro (Le.refl _ _ _) ?_);exact Qb3 (t:=Qko) (ss:=λo=>⟨[[.p (.sl false (h0_0.map Qag)),.p (iV o.2.1),.p (bV o.2.2)]],[]⟩) h ⟨[],rfl,.refl _,.refl _,rfl⟩
  .refine And.intro (by decide +kernel) (And.intro rfl ?_);refine Qay (l:=h0_0) (c:=Qag) (c' := Qag) h (λ_=>rfl) (λ_=>rfl) (by decide) (λx2 hi h=>?_);refine Exists.intro _ (And.intro (Le.refl _ _ _) ?_);exact Qb3 (t:=Qko) (ss:=λo=>⟨[[.p (.sl false (h0_0.map Qag)),.p (iV o.2.1),.p (bV o.2.2)]],[]⟩) h ⟨[],rfl,.refl _,.refl _,rfl⟩
instance Qaa8:Lean.Order.CCPO ((List Qab)->(List Qab)->(List Qab)->Option ((Int×Bool×Int×(List UInt8)×(List UInt8)×Int×(List Qab)×(List Qab)×(List Qab)))):=inferInstance
instance Qaa9:Lean.Order.CCPO ((List UInt8)->(List UInt8)->Int->(List Qab)->(List Qab)->(List Qab)->Option ((Int×Bool×Int×(List UInt8)×(List UInt8)×Int×(List Qab)×(List Qab)×(List Qab)))):=inferInstance
def Qco (h0_0:(List Qai)) (h0_1_:Int) (h0_2_:Bool) (h2_0:Int) (h2_1:(List UInt8)) (h2_2:(List UInt8)) (h2_3:Int) (h2_4:(List Qab)) (h2_5:(List Qab)) (h2_6:(List Qab)):Option ((Int×Bool×Int×(List UInt8)×(List UInt8)×Int×(List Qab)×(List Qab)×(List Qab))) :=
 Qas 7 h0_0 h0_1_ h0_2_>>=λx3 =>
 if x3 then
  Qal true h0_0 h0_1_ h0_2_>>=λx4 =>
  Qas 4 h0_0 x4.2.1 x4.2.2>>=λx5 =>
  Qal x5 h0_0 x4.2.1 x4.2.2>>=λx6 =>
  Qco h0_0 x6.2.1 x6.2.2 5 x6.1.Text [] 0 [(Qab.mk h2_0 h2_1 h2_2 h2_3 h2_4 h2_5 h2_6)] [] []
 else
  some (h0_1_,h0_2_,h2_0,h2_1,h2_2,h2_3,h2_4,h2_5,h2_6)
 partial_fixpoint
theorem Qaba:∀ (h0_0:(List Qai)),(∀ (h0_1_:Int) (h0_2_:Bool) (h2_0:Int) (h2_1:(List UInt8)) (h2_2:(List UInt8)) (h2_3:Int) (h2_4:(List Qab)) (h2_5:(List Qab)) (h2_6:(List Qab)) (o2:(Int×Bool×Int×(List UInt8)×(List UInt8)×Int×(List Qab)×(List Qab)×(List Qab))),Qco h0_0 h0_1_ h0_2_ h2_0 h2_1 h2_2 h2_3 h2_4 h2_5 h2_6=some o2->TL (1,0) Tryz.prog 19 Qux (JP1 (1,0) 19 o2 (.exit 0) (Qlh h0_0)) (Qgw h0_0 h0_1_ h0_2_ h2_0 h2_1 h2_2 h2_3 h2_4 h2_5 h2_6)):=by
 intro h0_0;refine Qco.partial_correctness h0_0 _ ?_;intro Qco' iQco h0_1_ h0_2_ h2_0 h2_1 h2_2 h2_3 h2_4 h2_5 h2_6 o2 h;refine TL.round (Qan mixed tbOk (lv:=Qob) _ _ _ ?_);refine Qaq _ _ h (λx3 hy=>((Qa0 7 h0_0 h0_1_ h0_2_ x3 hy).fr [0] [] rfl rfl rfl)) (λx3 hy h=>?_);refine Qac h (λhb h=>?_) (λhb h=>?_)
 .refine Qaq _ _ h (λx4 hy=>((Qar true h0_0 h0_1_ h0_2_ x4 hy).fr [0] [] rfl rfl rfl)) (λx4 hy h=>?_);refine And.intro (by decide +kernel) (And.intro rfl ?_);refine Qqb (λx5=>(Qdy x5).ren [0] []) h (λx5 hy=>(Qa0 4 h0_0 x4.2.1 x4.2.2 x5 hy).fd rfl rfl [0] rfl rfl) (λx5 hy h=>?_);refine Qt8 _ _ h (λx6 hy=>((Qar x5 h0_0 x4.2.1 x4.2.2 x6 hy).fg [0] [] rfl rfl rfl (Nat.le_of_ble_eq_true rfl))) (λx6 hy h=>?_);refine TL.le (τ := Qgw h0_0 x6.2.1 x6.2.2 5 x6.1.Text [] 0 [(Qab.mk h2_0 h2_1 h2_2 h2_3 h2_4 h2_5 h2_6)] [] []) ?_ ((iQco x6.2.1 x6.2.2 5 x6.1.Text [] 0 [(Qab.mk h2_0 h2_1 h2_2 h2_3 h2_4 h2_5 h2_6)] [] [] _ h));exact Le.tow 3 0 rfl (.cons rfl (.refl _) (.cons rfl (.refl _) (.cons rfl (.refl _) (.nil)))) (.cons (.refl _) (.cons (.refl _) (.cons (.cons (.refl _) (.cons (.refl _) (.cons (.refl _) (.cons (.refl _) (.cons (.p (.no (.cons (.ceq (Qao _) (.refl _)) (.nil)))) (.cons (.p (.not)) (.cons (.p (.not)) (.nil)))))))) (.nil)))) rfl
 .exact JP1.a h (Le.ty 3 0)
def Qdc (h0_0:(List Qai)) (h0_1:Int) (h0_2:Bool):Option ((List UInt8)×Int×Bool) :=
 ( Qas 4 h0_0 h0_1 h0_2>>=λx2 =>
  if x2 then
   idx h0_0 h0_1>>=λx3 =>
   Qhg x3.Text>>=λx4 =>
   Qal x4 h0_0 h0_1 h0_2>>=λx5 =>
   some (x5.1.Text,x5.2.1,x5.2.2)
  else
   Qal false h0_0 h0_1 h0_2>>=λx6 =>
   some (x6.1.Text,x6.2.1,x6.2.2):Option (((List UInt8)×Int×Bool)))>>=λo1 =>
 some (o1.1,o1.2.1,o1.2.2)
theorem Qjl:∀ (h0_0:(List Qai)) (h0_1:Int) (h0_2:Bool) (o:(List UInt8)×Int×Bool),Qdc h0_0 h0_1 h0_2=some o->CallOK Tryz.prog 165 [.ptr 0 0] ⟨[[.p (.sl false (h0_0.map Qag)),.p (iV h0_1),.p (bV h0_2)]],[]⟩ (Qps o) ⟨[[.p (.sl false (h0_0.map Qag)),.p (iV o.2.1),.p (bV o.2.2)]],[]⟩:=by
 intro h0_0 h0_1 h0_2 o h;unfold Qdc at h;refine CallOK.ofB mixed tbOk Qx0 Tryz.func165 rfl (by kernel_rfl) (Nat.le_of_ble_eq_true rfl) rfl rfl rfl ?_;refine Qah h (λo1 ho hk=>?_);refine Exists.intro (JP1 _ _ o1 .normal (Quz h0_0)) (And.intro ?_ (Qaz ?_))
 .have h:=ho;refine And.intro (by decide +kernel) (And.intro rfl ?_);refine Qqb (λx2=>(Qdy x2).ren [0] []) h (λx2 hy=>(Qa0 4 h0_0 h0_1 h0_2 x2 hy).fd rfl rfl [0] rfl rfl) (λx2 hy h=>?_);refine Qac h (λhb h=>?_) (λhb h=>?_)
  .refine Qay (l:=h0_0) (c:=Qag) (c' := Qag) h (λ_=>rfl) (λ_=>rfl) (by decide) (λx3 hi h=>?_);refine Qcf [sV x3.Text] Qhe h (λx4 hy=>(Qkl x3.Text x4 hy)) (λx4 hy h=>?_);refine Qt8 _ _ h (λx5 hy=>((Qar x4 h0_0 h0_1 h0_2 x5 hy).fg [0] [] rfl rfl rfl (Nat.le_of_ble_eq_true rfl))) (λx5 hy h=>?_);exact JP1.a h (Le.ty 1 0)
  .refine Qt8 _ _ h (λx6 hy=>((Qar false h0_0 h0_1 h0_2 x6 hy).fg [0] [] rfl rfl rfl (Nat.le_of_ble_eq_true rfl))) (λx6 hy h=>?_);exact JP1.a h (Le.ty 1 0)
 .have h:=hk;refine Exists.intro _ (And.intro (Le.refl _ _ _) ?_);exact Qb3 (t:=Qps) (ss:=λo=>⟨[[.p (.sl false (h0_0.map Qag)),.p (iV o.2.1),.p (bV o.2.2)]],[]⟩) h ⟨[],rfl,.refl _,.refl _,rfl⟩
def Qa2 (p1:(List UInt8)) (h0_0:(List Qai)) (h0_1:Int) (h0_2:Bool):Option (Bool) :=
 ( Qas 4 h0_0 h0_1 h0_2>>=λx2 =>
  if x2 then
   idx h0_0 h0_1>>=λx3 =>
   some (x3.Text==p1)
  else
   some false:Option (Bool))>>=λo1 =>
 some o1
theorem Qbn:∀ (p1:(List UInt8)) (h0_0:(List Qai)) (h0_1:Int) (h0_2:Bool) (o:Bool),Qa2 p1 h0_0 h0_1 h0_2=some o->CallOK Tryz.prog 161 [.ptr 0 0,.p (sV p1)] ⟨[[.p (.sl false (h0_0.map Qag)),.p (iV h0_1),.p (bV h0_2)]],[]⟩ (Qpt o) ⟨[[.p (.sl false (h0_0.map Qag)),.p (iV h0_1),.p (bV h0_2)]],[]⟩:=by
 intro p1 h0_0 h0_1 h0_2 o h;unfold Qa2 at h;refine CallOK.ofB mixed tbOk Qx2 Tryz.func161 rfl (by kernel_rfl) (Nat.le_of_ble_eq_true rfl) rfl rfl rfl ?_;refine Qah h (λo1 ho hk=>?_);refine Exists.intro (JP1 _ _ o1 .normal (Qu1 h0_0 h0_1 h0_2)) (And.intro ?_ (Qaz ?_))
 .have h:=ho;refine And.intro (by decide +kernel) (And.intro rfl ?_);refine Qqb (λx2=>(Qdy x2).ren [0] []) h (λx2 hy=>(Qa0 4 h0_0 h0_1 h0_2 x2 hy).fd rfl rfl [0] rfl rfl) (λx2 hy h=>?_);refine Qac h (λhb h=>?_) (λhb h=>?_)
  .refine Qay (l:=h0_0) (c:=Qag) (c' := Qag) h (λ_=>rfl) (λ_=>rfl) (by decide) (λx3 hi h=>?_);exact JP1.a h (Le.ty 1 0)
  .exact JP1.a h (Le.ty 1 0)
 .have h:=hk;refine Exists.intro _ (And.intro (Le.refl _ _ _) ?_);exact Qb3 (t:=Qpt) (ss:=λo=>⟨[[.p (.sl false (h0_0.map Qag)),.p (iV h0_1),.p (bV h0_2)]],[]⟩) h ⟨[],rfl,.refl _,.refl _,rfl⟩
mutual
def Qcc (h0_0:(List Qai)) (h0_1:Int) (h0_2:Bool):Option (Qab×Int×Bool) :=
 Qh5 h0_0 h0_1 h0_2>>=λx1 =>
 (Qco h0_0 x1.2.1 x1.2.2 x1.1.Kind x1.1.Name x1.1.Text x1.1.N x1.1.L x1.1.Then x1.1.Else)>>=λo2 =>
 some ((Qab.mk o2.2.2.1 o2.2.2.2.1 o2.2.2.2.2.1 o2.2.2.2.2.2.1 o2.2.2.2.2.2.2.1 o2.2.2.2.2.2.2.2.1 o2.2.2.2.2.2.2.2.2),o2.1,o2.2.1)
 partial_fixpoint
def Qh5 (h0_0:(List Qai)) (h0_1:Int) (h0_2:Bool):Option (Qab×Int×Bool) :=
 Qas 5 h0_0 h0_1 h0_2>>=λx1 =>
 if x1 then
  Qal true h0_0 h0_1 h0_2>>=λx2 =>
  some ((Qab.mk 1 [] x2.1.Text 0 [] [] []),x2.2.1,x2.2.2)
 else
  Qas 6 h0_0 h0_1 h0_2>>=λx3 =>
  if x3 then
   Qal true h0_0 h0_1 h0_2>>=λx4 =>
   some ((Qab.mk 2 [] [] x4.1.N [] [] []),x4.2.1,x4.2.2)
  else
   Qa2 [116,114,117,101] h0_0 h0_1 h0_2>>=λx5 =>
   if x5 then
    Qal true h0_0 h0_1 h0_2>>=λx6 =>
    some ((Qab.mk 3 [] [] 1 [] [] []),x6.2.1,x6.2.2)
   else
    Qa2 [102,97,108,115,101] h0_0 h0_1 h0_2>>=λx7 =>
    if x7 then
     Qal true h0_0 h0_1 h0_2>>=λx8 =>
     some ((Qab.mk 3 [] [] 0 [] [] []),x8.2.1,x8.2.2)
    else
     Qa2 [115,101,99,114,101,116] h0_0 h0_1 h0_2>>=λx9 =>
     if x9 then
      Qal true h0_0 h0_1 h0_2>>=λx10 =>
      Qas 8 h0_0 x10.2.1 x10.2.2>>=λx11 =>
      Qal x11 h0_0 x10.2.1 x10.2.2>>=λx12 =>
      ( Qas 5 h0_0 x12.2.1 x12.2.2>>=λx14 =>
       if x14 then
        idx h0_0 x12.2.1>>=λx15 =>
        Qh2 x15.Text>>=λx16 =>
        Qal x16 h0_0 x12.2.1 x12.2.2>>=λx17 =>
        some (x17.2.1,x17.2.2,x17.1.Kind,x17.1.Text,x17.1.N,x17.1.From,x17.1.To)
       else
        Qal false h0_0 x12.2.1 x12.2.2>>=λx18 =>
        some (x18.2.1,x18.2.2,x18.1.Kind,x18.1.Text,x18.1.N,x18.1.From,x18.1.To):Option ((Int×Bool×Int×(List UInt8)×Int×Int×Int)))>>=λo13 =>
      Qas 9 h0_0 o13.1 o13.2.1>>=λx19 =>
      Qal x19 h0_0 o13.1 o13.2.1>>=λx20 =>
      some ((Qab.mk 7 o13.2.2.2.1 [] 0 [] [] []),x20.2.1,x20.2.2)
     else
      Qdc h0_0 h0_1 h0_2>>=λx21 =>
      Qas 8 h0_0 x21.2.1 x21.2.2>>=λx22 =>
      if(!x22) then
       some ((Qab.mk 4 x21.1 [] 0 [] [] []),x21.2.1,x21.2.2)
      else
       Qal true h0_0 x21.2.1 x21.2.2>>=λx23 =>
       Qas 9 h0_0 x23.2.1 x23.2.2>>=λx24 =>
       if x24 then
        Qal true h0_0 x23.2.1 x23.2.2>>=λx25 =>
        some ((Qab.mk 6 x21.1 [] 0 [] [] []),x25.2.1,x25.2.2)
       else
        (Qc6 h0_0 x21 0 x23.2.1 x23.2.2 [])>>=λo26 =>
        Qas 9 h0_0 o26.1 o26.2.1>>=λx33 =>
        Qal x33 h0_0 o26.1 o26.2.1>>=λx34 =>
        some ((Qab.mk 6 x21.1 [] 0 o26.2.2 [] []),x34.2.1,x34.2.2)
 partial_fixpoint
def Qc6 (h0_0:(List Qai)) (x21:(List UInt8)×Int×Bool) (v5:Int) (h0_1_:Int) (h0_2_:Bool) (h2_4:(List Qab)):Option ((Int×Bool×(List Qab))) :=
 ( if(decide (v5<3)) then
   some (!h0_2_)
  else
   some false:Option (Bool))>>=λo27 =>
 if o27 then
  Qcc h0_0 h0_1_ h0_2_>>=λx28 =>
  appL 120 h2_4 [x28.1]>>=λx29 =>
  Qas 9 h0_0 x28.2.1 x28.2.2>>=λx30 =>
  if x30 then
   some (x28.2.1,x28.2.2,x29)
  else
   if(decide (v5<2)) then
    Qas 10 h0_0 x28.2.1 x28.2.2>>=λx31 =>
    Qal x31 h0_0 x28.2.1 x28.2.2>>=λx32 =>
    Qc6 h0_0 x21 (wr (v5+1)) x32.2.1 x32.2.2 x29
   else
    Qc6 h0_0 x21 (wr (v5+1)) x28.2.1 x28.2.2 x29
 else
  some (h0_1_,h0_2_,h2_4)
 partial_fixpoint
end
theorem Qws:∀ (h0_0:(List Qai)),(∀ (h0_1:Int) (h0_2:Bool) (o:Qab×Int×Bool),Qcc h0_0 h0_1 h0_2=some o->CallOK Tryz.prog 162 [.ptr 0 0] ⟨[[.p (.sl false (h0_0.map Qag)),.p (iV h0_1),.p (bV h0_2)]],[]⟩ (Qkn o) ⟨[[.p (.sl false (h0_0.map Qag)),.p (iV o.2.1),.p (bV o.2.2)]],[]⟩)/\(∀ (h0_1:Int) (h0_2:Bool) (o:Qab×Int×Bool),Qh5 h0_0 h0_1 h0_2=some o->CallOK Tryz.prog 173 [.ptr 0 0] ⟨[[.p (.sl false (h0_0.map Qag)),.p (iV h0_1),.p (bV h0_2)]],[]⟩ (Qbs o) ⟨[[.p (.sl false (h0_0.map Qag)),.p (iV o.2.1),.p (bV o.2.2)]],[]⟩)/\(∀ (x21:(List UInt8)×Int×Bool) (v5:Int) (h0_1_:Int) (h0_2_:Bool) (h2_4:(List Qab)) (o26:(Int×Bool×(List Qab))),Qc6 h0_0 x21 v5 h0_1_ h0_2_ h2_4=some o26->TL (1,0) Tryz.prog 107 Qtk (JP1 (1,0) 107 o26 (.exit 0) (Qj3 h0_0 x21)) (Qd3 h0_0 x21 v5 h0_1_ h0_2_ h2_4)):=by
 intro h0_0;refine Qcc.mutual_partial_correctness h0_0 _ _ _ ?_ ?_ ?_
 .intro Qh5' iQh5 h0_1 h0_2 o h;refine CallOK.ofB mixed tbOk Qob Tryz.func162 rfl (by kernel_rfl) (Nat.le_of_ble_eq_true rfl) rfl rfl rfl ?_;refine Qaq _ _ h (λx1 hy=>((iQh5 h0_1 h0_2 x1 hy).fr [0] [] rfl rfl rfl)) (λx1 hy h=>?_);refine Qah h (λo2 ho hk=>?_);refine Exists.intro (JP1 _ _ o2 (.exit 0) (Qlh h0_0)) (And.intro (Qf5 (τ := Qgw h0_0 x1.2.1 x1.2.2 x1.1.Kind x1.1.Name x1.1.Text x1.1.N x1.1.L x1.1.Then x1.1.Else) ?_ (TL.loop (Qaba h0_0 x1.2.1 x1.2.2 x1.1.Kind x1.1.Name x1.1.Text x1.1.N x1.1.L x1.1.Then x1.1.Else o2 ho))) (Qaz ?_))
  .exact Le.ty 3 0
  have h:=hk;refine Exists.intro _ (And.intro (Le.refl _ _ _) ?_);exact Qb3 (t:=Qkn) (ss:=λo=>⟨[[.p (.sl false (h0_0.map Qag)),.p (iV o.2.1),.p (bV o.2.2)]],[]⟩) h ⟨[],rfl,.refl _,.refl _,rfl⟩
 .intro Qc6' iQc6 h0_1 h0_2 o h;refine CallOK.ofB mixed tbOk Qnl Tryz.func173 rfl (by kernel_rfl) (Nat.le_of_ble_eq_true rfl) rfl rfl rfl ?_;refine Qaq _ _ h (λx1 hy=>((Qa0 5 h0_0 h0_1 h0_2 x1 hy).fr [0] [] rfl rfl rfl)) (λx1 hy h=>?_);refine Qac h (λhb h=>?_) (λhb h=>?_)
  .refine Qaq _ _ h (λx2 hy=>((Qar true h0_0 h0_1 h0_2 x2 hy).fr [0] [] rfl rfl rfl)) (λx2 hy h=>?_);refine Exists.intro _ (And.intro (Le.refl _ _ _) ?_);exact Qb3 (t:=Qbs) (ss:=λo=>⟨[[.p (.sl false (h0_0.map Qag)),.p (iV o.2.1),.p (bV o.2.2)]],[]⟩) h ⟨[],rfl,.p (.agg' (.cons (.refl _) (.cons (.refl _) (.cons (.refl _) (.cons (.refl _) (.cons (.not) (.cons (.not) (.cons (.not) (.nil))))))))),.refl _,rfl⟩
  .refine Qaq _ _ h (λx3 hy=>((Qa0 6 h0_0 h0_1 h0_2 x3 hy).fr [0] [] rfl rfl rfl)) (λx3 hy h=>?_);refine Qac h (λhb h=>?_) (λhb h=>?_)
   .refine Qaq _ _ h (λx4 hy=>((Qar true h0_0 h0_1 h0_2 x4 hy).fr [0] [] rfl rfl rfl)) (λx4 hy h=>?_);refine Exists.intro _ (And.intro (Le.refl _ _ _) ?_);exact Qb3 (t:=Qbs) (ss:=λo=>⟨[[.p (.sl false (h0_0.map Qag)),.p (iV o.2.1),.p (bV o.2.2)]],[]⟩) h ⟨[],rfl,.p (.agg' (.cons (.refl _) (.cons (.refl _) (.cons (.refl _) (.cons (.refl _) (.cons (.not) (.cons (.not) (.cons (.not) (.nil))))))))),.refl _,rfl⟩
   .refine Qaq _ _ h (λx5 hy=>((Qbn [116,114,117,101] h0_0 h0_1 h0_2 x5 hy).fr [0] [] rfl rfl rfl)) (λx5 hy h=>?_);refine Qac h (λhb h=>?_) (λhb h=>?_)
    .refine Qaq _ _ h (λx6 hy=>((Qar true h0_0 h0_1 h0_2 x6 hy).fr [0] [] rfl rfl rfl)) (λx6 hy h=>?_);refine Exists.intro _ (And.intro (Le.refl _ _ _) ?_);exact Qb3 (t:=Qbs) (ss:=λo=>⟨[[.p (.sl false (h0_0.map Qag)),.p (iV o.2.1),.p (bV o.2.2)]],[]⟩) h ⟨[],rfl,.p (.agg' (.cons (.refl _) (.cons (.refl _) (.cons (.refl _) (.cons (.refl _) (.cons (.not) (.cons (.not) (.cons (.not) (.nil))))))))),.refl _,rfl⟩
    .refine Qaq _ _ h (λx7 hy=>((Qbn [102,97,108,115,101] h0_0 h0_1 h0_2 x7 hy).fr [0] [] rfl rfl rfl)) (λx7 hy h=>?_);refine Qac h (λhb h=>?_) (λhb h=>?_)
     .refine Qaq _ _ h (λx8 hy=>((Qar true h0_0 h0_1 h0_2 x8 hy).fr [0] [] rfl rfl rfl)) (λx8 hy h=>?_);refine Exists.intro _ (And.intro (Le.refl _ _ _) ?_);exact Qb3 (t:=Qbs) (ss:=λo=>⟨[[.p (.sl false (h0_0.map Qag)),.p (iV o.2.1),.p (bV o.2.2)]],[]⟩) h ⟨[],rfl,.p (.agg' (.cons (.refl _) (.cons (.refl _) (.cons (.refl _) (.cons (.refl _) (.cons (.not) (.cons (.not) (.cons (.not) (.nil))))))))),.refl _,rfl⟩
     .refine Qaq _ _ h (λx9 hy=>((Qbn [115,101,99,114,101,116] h0_0 h0_1 h0_2 x9 hy).fr [0] [] rfl rfl rfl)) (λx9 hy h=>?_);refine Qac h (λhb h=>?_) (λhb h=>?_)
      .refine Qaq _ _ h (λx10 hy=>((Qar true h0_0 h0_1 h0_2 x10 hy).fr [0] [] rfl rfl rfl)) (λx10 hy h=>?_);refine Qaq _ _ h (λx11 hy=>((Qa0 8 h0_0 x10.2.1 x10.2.2 x11 hy).fr [0] [] rfl rfl rfl)) (λx11 hy h=>?_);refine Qaq _ _ h (λx12 hy=>((Qar x11 h0_0 x10.2.1 x10.2.2 x12 hy).fr [0] [] rfl rfl rfl)) (λx12 hy h=>?_);refine Qah h (λo13 ho hk=>?_);refine Exists.intro (JP1 _ _ o13 .normal (Qti h0_0)) (And.intro ?_ (Qaz ?_))
       .have h:=ho;refine And.intro (by decide +kernel) (And.intro rfl ?_);refine Qqb (λx14=>(Qdy x14).ren [0] []) h (λx14 hy=>(Qa0 5 h0_0 x12.2.1 x12.2.2 x14 hy).fd rfl rfl [0] rfl rfl) (λx14 hy h=>?_);refine Qac h (λhb h=>?_) (λhb h=>?_)
        .refine Qay (l:=h0_0) (c:=Qag) (c' := Qag) h (λ_=>rfl) (λ_=>rfl) (by decide) (λx15 hi h=>?_);refine Qcf [sV x15.Text] Qhd h (λx16 hy=>(Qnf x15.Text x16 hy)) (λx16 hy h=>?_);refine Qt8 _ _ h (λx17 hy=>((Qar x16 h0_0 x12.2.1 x12.2.2 x17 hy).fg [0] [] rfl rfl rfl (Nat.le_of_ble_eq_true rfl))) (λx17 hy h=>?_);exact JP1.a h (Le.ty 3 0)
        .refine Qt8 _ _ h (λx18 hy=>((Qar false h0_0 x12.2.1 x12.2.2 x18 hy).fg [0] [] rfl rfl rfl (Nat.le_of_ble_eq_true rfl))) (λx18 hy h=>?_);exact JP1.a h (Le.ty 3 0)
       .have h:=hk;refine Qaq _ _ h (λx19 hy=>((Qa0 9 h0_0 o13.1 o13.2.1 x19 hy).fr [0] [] rfl rfl rfl)) (λx19 hy h=>?_);refine Qaq _ _ h (λx20 hy=>((Qar x19 h0_0 o13.1 o13.2.1 x20 hy).fr [0] [] rfl rfl rfl)) (λx20 hy h=>?_);refine Exists.intro _ (And.intro (Le.refl _ _ _) ?_);exact Qb3 (t:=Qbs) (ss:=λo=>⟨[[.p (.sl false (h0_0.map Qag)),.p (iV o.2.1),.p (bV o.2.2)]],[]⟩) h ⟨[],rfl,.p (.agg' (.cons (.refl _) (.cons (.refl _) (.cons (.refl _) (.cons (.refl _) (.cons (.not) (.cons (.not) (.cons (.not) (.nil))))))))),.refl _,rfl⟩
      .refine Qaq _ _ h (λx21 hy=>((Qjl h0_0 h0_1 h0_2 x21 hy).fr [0] [] rfl rfl rfl)) (λx21 hy h=>?_);refine Qaq _ _ h (λx22 hy=>((Qa0 8 h0_0 x21.2.1 x21.2.2 x22 hy).fr [0] [] rfl rfl rfl)) (λx22 hy h=>?_);refine Qac h (λhb h=>?_) (λhb h=>?_)
       .refine Exists.intro _ (And.intro (Le.refl _ _ _) ?_);exact Qb3 (t:=Qbs) (ss:=λo=>⟨[[.p (.sl false (h0_0.map Qag)),.p (iV o.2.1),.p (bV o.2.2)]],[]⟩) h ⟨[],rfl,.p (.agg' (.cons (.refl _) (.cons (.refl _) (.cons (.refl _) (.cons (.refl _) (.cons (.not) (.cons (.not) (.cons (.not) (.nil))))))))),.refl _,rfl⟩
       .refine Qaq _ _ h (λx23 hy=>((Qar true h0_0 x21.2.1 x21.2.2 x23 hy).fr [0] [] rfl rfl rfl)) (λx23 hy h=>?_);refine Qaq _ _ h (λx24 hy=>((Qa0 9 h0_0 x23.2.1 x23.2.2 x24 hy).fr [0] [] rfl rfl rfl)) (λx24 hy h=>?_);refine Qac h (λhb h=>?_) (λhb h=>?_)
        .refine Qaq _ _ h (λx25 hy=>((Qar true h0_0 x23.2.1 x23.2.2 x25 hy).fr [0] [] rfl rfl rfl)) (λx25 hy h=>?_);refine Exists.intro _ (And.intro (Le.refl _ _ _) ?_);exact Qb3 (t:=Qbs) (ss:=λo=>⟨[[.p (.sl false (h0_0.map Qag)),.p (iV o.2.1),.p (bV o.2.2)]],[]⟩) h ⟨[],rfl,.p (.agg' (.cons (.refl _) (.cons (.refl _) (.cons (.refl _) (.cons (.refl _) (.cons (.not) (.cons (.not) (.cons (.not) (.nil))))))))),.refl _,rfl⟩
        .refine Qah h (λo26 ho hk=>?_);refine Exists.intro (JP1 _ _ o26 (.exit 0) (Qj3 h0_0 x21)) (And.intro (Qf5 (τ := Qd3 h0_0 x21 0 x23.2.1 x23.2.2 []) ?_ (TL.loop (iQc6 x21 0 x23.2.1 x23.2.2 [] o26 ho))) (Qaz ?_))
         .exact(Le.ownH 2 4 38 7 rfl rfl Qv8).trans (Le.ty 3 1)
         have h:=hk;refine Qaq _ _ h (λx33 hy=>((Qa0 9 h0_0 o26.1 o26.2.1 x33 hy).fr [0] [] rfl rfl rfl)) (λx33 hy h=>?_);refine Qaq _ _ h (λx34 hy=>((Qar x33 h0_0 o26.1 o26.2.1 x34 hy).fr [0] [] rfl rfl rfl)) (λx34 hy h=>?_);refine Exists.intro _ (And.intro (Le.refl _ _ _) ?_);exact Qb3 (t:=Qbs) (ss:=λo=>⟨[[.p (.sl false (h0_0.map Qag)),.p (iV o.2.1),.p (bV o.2.2)]],[]⟩) h ⟨[],rfl,.p (.agg' (.cons (.refl _) (.cons (.refl _) (.cons (.refl _) (.cons (.refl _) (.cons (.refl _) (.cons (.not) (.cons (.not) (.nil))))))))),.refl _,rfl⟩
 .intro Qcc' Qc6' iQcc iQc6 x21 v5 h0_1_ h0_2_ h2_4 o26 h;refine TL.round (Qan mixed tbOk (lv:=Qnl) _ _ _ ?_);refine Qah h (λo27 ho hk=>?_);refine Exists.intro (JP1 _ _ o27 .normal (Qtj h0_0 x21 v5 h0_1_ h0_2_ h2_4)) (And.intro ?_ (Qaz ?_))
  .have h:=ho;refine Qac h (λhb h=>?_) (λhb h=>?_)
   .exact JP1.a h (Le.ty 3 1)
   .exact JP1.a h (Le.ty 3 1)
  .have h:=hk;refine Qac h (λhb h=>?_) (λhb h=>?_)
   .refine And.intro (by decide +kernel) (And.intro rfl ?_);refine Qt8 _ _ h (λx28 hy=>((iQcc h0_1_ h0_2_ x28 hy).fg [0] [] rfl rfl rfl (Nat.le_of_ble_eq_true rfl))) (λx28 hy h=>?_);refine Qhp (a:=h2_4) (b:=[x28.1]) (c:=Qaa) h (.cons (.ceq (Qao _) (.refl _)) (.nil)) (λx=>by rw[Qao]; rfl) rfl (λx29 hi h=>?_);refine Qaq _ _ h (λx30 hy=>((Qa0 9 h0_0 x28.2.1 x28.2.2 x30 hy).fr [0] [] rfl rfl rfl)) (λx30 hy h=>?_);refine Qac h (λhb h=>?_) (λhb h=>?_)
    .exact JP1.a h (Le.ty 3 1)
    .refine Qac h (λhb h=>?_) (λhb h=>?_)
     .refine Qaq _ _ h (λx31 hy=>((Qa0 10 h0_0 x28.2.1 x28.2.2 x31 hy).fr [0] [] rfl rfl rfl)) (λx31 hy h=>?_);refine Qaq _ _ h (λx32 hy=>((Qar x31 h0_0 x28.2.1 x28.2.2 x32 hy).fr [0] [] rfl rfl rfl)) (λx32 hy h=>?_);refine TL.le (τ := Qd3 h0_0 x21 (wr (v5+1)) x32.2.1 x32.2.2 x29) ?_ ((iQc6 x21 (wr (v5+1)) x32.2.1 x32.2.2 x29 _ h));exact Le.ty 3 1
     .refine TL.le (τ := Qd3 h0_0 x21 (wr (v5+1)) x28.2.1 x28.2.2 x29) ?_ ((iQc6 x21 (wr (v5+1)) x28.2.1 x28.2.2 x29 _ h));exact Le.ty 3 1
   .exact JP1.a h (Le.ty 3 1)
theorem Qjm:∀ (h0_0:(List Qai)) (h0_1:Int) (h0_2:Bool) (o:Qab×Int×Bool),Qcc h0_0 h0_1 h0_2=some o->CallOK Tryz.prog 162 [.ptr 0 0] ⟨[[.p (.sl false (h0_0.map Qag)),.p (iV h0_1),.p (bV h0_2)]],[]⟩ (Qkn o) ⟨[[.p (.sl false (h0_0.map Qag)),.p (iV o.2.1),.p (bV o.2.2)]],[]⟩:=λh0_0 h0_1 h0_2=>(Qws h0_0).1 h0_1 h0_2
def Qch (h0_0:(List Qai)) (h0_1:Int) (h0_2:Bool):Option (Int×Bool) :=
 Qas 3 h0_0 h0_1 h0_2>>=λx1 =>
 Qal x1 h0_0 h0_1 h0_2>>=λx2 =>
 some (x2.2.1,x2.2.2)
theorem Qfk:∀ (h0_0:(List Qai)) (h0_1:Int) (h0_2:Bool) (o:Int×Bool),Qch h0_0 h0_1 h0_2=some o->CallOK Tryz.prog 163 [.ptr 0 0] ⟨[[.p (.sl false (h0_0.map Qag)),.p (iV h0_1),.p (bV h0_2)]],[]⟩ (Qoc o) ⟨[[.p (.sl false (h0_0.map Qag)),.p (iV o.1),.p (bV o.2)]],[]⟩:=by
 intro h0_0 h0_1 h0_2 o h;unfold Qch at h;refine CallOK.ofB mixed tbOk Qwr Tryz.func163 rfl (by kernel_rfl) (Nat.le_of_ble_eq_true rfl) rfl rfl rfl ?_;refine Qaq _ _ h (λx1 hy=>((Qa0 3 h0_0 h0_1 h0_2 x1 hy).fr [0] [] rfl rfl rfl)) (λx1 hy h=>?_);refine Qaq _ _ h (λx2 hy=>((Qar x1 h0_0 h0_1 h0_2 x2 hy).fr [0] [] rfl rfl rfl)) (λx2 hy h=>?_);refine Exists.intro _ (And.intro (Le.refl _ _ _) ?_);exact Qb3 (t:=Qoc) (ss:=λo=>⟨[[.p (.sl false (h0_0.map Qag)),.p (iV o.1),.p (bV o.2)]],[]⟩) h ⟨[],rfl,.refl _,.refl _,rfl⟩
def Qdm (p1:(List UInt8)) (h0_0:(List Qai)) (h0_1:Int) (h0_2:Bool):Option (Int×Bool) :=
 Qas 2 h0_0 h0_1 h0_2>>=λx1 =>
 Qal x1 h0_0 h0_1 h0_2>>=λx2 =>
 Qa2 p1 h0_0 x2.2.1 x2.2.2>>=λx3 =>
 Qal x3 h0_0 x2.2.1 x2.2.2>>=λx4 =>
 Qch h0_0 x4.2.1 x4.2.2>>=λx5 =>
 some (x5.1,x5.2)
theorem Qkt:∀ (p1:(List UInt8)) (h0_0:(List Qai)) (h0_1:Int) (h0_2:Bool) (o:Int×Bool),Qdm p1 h0_0 h0_1 h0_2=some o->CallOK Tryz.prog 164 [.ptr 0 0,.p (sV p1)] ⟨[[.p (.sl false (h0_0.map Qag)),.p (iV h0_1),.p (bV h0_2)]],[]⟩ (Qrj o) ⟨[[.p (.sl false (h0_0.map Qag)),.p (iV o.1),.p (bV o.2)]],[]⟩:=by
 intro p1 h0_0 h0_1 h0_2 o h;unfold Qdm at h;refine CallOK.ofB mixed tbOk Qy1 Tryz.func164 rfl (by kernel_rfl) (Nat.le_of_ble_eq_true rfl) rfl rfl rfl ?_;refine Qaq _ _ h (λx1 hy=>((Qa0 2 h0_0 h0_1 h0_2 x1 hy).fr [0] [] rfl rfl rfl)) (λx1 hy h=>?_);refine Qaq _ _ h (λx2 hy=>((Qar x1 h0_0 h0_1 h0_2 x2 hy).fr [0] [] rfl rfl rfl)) (λx2 hy h=>?_);refine Qaq _ _ h (λx3 hy=>((Qbn p1 h0_0 x2.2.1 x2.2.2 x3 hy).fr [0] [] rfl rfl rfl)) (λx3 hy h=>?_);refine Qaq _ _ h (λx4 hy=>((Qar x3 h0_0 x2.2.1 x2.2.2 x4 hy).fr [0] [] rfl rfl rfl)) (λx4 hy h=>?_);refine Qaq _ _ h (λx5 hy=>((Qfk h0_0 x4.2.1 x4.2.2 x5 hy).fr [0] [] rfl rfl rfl)) (λx5 hy h=>?_);refine Exists.intro _ (And.intro (Le.refl _ _ _) ?_);exact Qb3 (t:=Qrj) (ss:=λo=>⟨[[.p (.sl false (h0_0.map Qag)),.p (iV o.1),.p (bV o.2)]],[]⟩) h ⟨[],rfl,.refl _,.refl _,rfl⟩
mutual
def Qb2 (p1:Bool) (p2:Bool) (h0_0:(List Qai)) (h0_1:Int) (h0_2:Bool):Option ((List Qab)×Int×Bool) :=
 (Qbz p1 p2 h0_0 [] h0_1 h0_2)>>=λo1 =>
 match o1 with
 | .inl y2 =>
  some (y2.1,y2.2.1,y2.2.2)
 | .inr y3 =>
  some (y3.1,y3.2.1,y3.2.2)
 partial_fixpoint
def Qbz (p1:Bool) (p2:Bool) (h0_0:(List Qai)) (v7:(List Qab)) (h0_1_:Int) (h0_2_:Bool):Option (((List Qab)×Int×Bool)⊕((List Qab)×Int×Bool)) :=
 ( if(!h0_2_) then
   some (decide (h0_1_<(h0_0.length:Int)))
  else
   some false:Option (Bool))>>=λo4 =>
 if o4 then
  Qas 1 h0_0 h0_1_ h0_2_>>=λx5 =>
  if x5 then
   Qal true h0_0 h0_1_ h0_2_>>=λx6 =>
   ( if(decide ((wr ((v7.length:Int)-1)) >= 0)) then
     idx v7 (wr ((v7.length:Int)-1))>>=λx8 =>
     some (x8.Kind==8)
    else
     some false:Option (Bool))>>=λo7 =>
   if o7 then
    idx v7 (wr ((v7.length:Int)-1))>>=λx9 =>
    need (x9.Text.length+x6.1.Text.length<=9223372036854775807)>>=λ_ =>
    idx v7 (wr ((v7.length:Int)-1))>>=λx10 =>
    Qbz p1 p2 h0_0 (v7.set ((wr ((v7.length:Int)-1)).toNat) (Qab.mk x10.Kind x10.Name (x9.Text++x6.1.Text) x10.N x10.L x10.Then x10.Else)) x6.2.1 x6.2.2
   else
    appL 120 v7 ([(Qab.mk 8 [] x6.1.Text 0 [] [] [])])>>=λx11 =>
    Qbz p1 p2 h0_0 x11 x6.2.1 x6.2.2
  else
   ( if p1 then
     Qb1 [101,110,100] h0_0 h0_1_ h0_2_>>=λx13 =>
     if x13 then
      some true
     else
      if p2 then
       Qb1 [101,108,115,101] h0_0 h0_1_ h0_2_>>=λx14 =>
       some x14
      else
       some false
    else
     if p2 then
      Qb1 [101,108,115,101] h0_0 h0_1_ h0_2_>>=λx15 =>
      some x15
     else
      some false:Option (Bool))>>=λo12 =>
   if o12 then
    some (.inr (v7,h0_1_,h0_2_))
   else
    Qas 2 h0_0 h0_1_ h0_2_>>=λx16 =>
    Qal x16 h0_0 h0_1_ h0_2_>>=λx17 =>
    Qas 3 h0_0 x17.2.1 x17.2.2>>=λx18 =>
    if x18 then
     Qal true h0_0 x17.2.1 x17.2.2>>=λx19 =>
     Qbz p1 p2 h0_0 v7 x19.2.1 x19.2.2
    else
     Qhj h0_0 x17.2.1 x17.2.2>>=λx20 =>
     appL 120 v7 [x20.1]>>=λx21 =>
     Qbz p1 p2 h0_0 x21 x20.2.1 x20.2.2
 else
  some (.inl (v7,h0_1_,h0_2_))
 partial_fixpoint
def Qhj (h0_0:(List Qai)) (h0_1:Int) (h0_2:Bool):Option (Qab×Int×Bool) :=
 Qa2 [105,102] h0_0 h0_1 h0_2>>=λx1 =>
 if x1 then
  Qal true h0_0 h0_1 h0_2>>=λx2 =>
  Qcc h0_0 x2.2.1 x2.2.2>>=λx3 =>
  Qch h0_0 x3.2.1 x3.2.2>>=λx4 =>
  Qb2 true true h0_0 x4.1 x4.2>>=λx5 =>
  ( Qb1 [101,108,115,101] h0_0 x5.2.1 x5.2.2>>=λx7 =>
   if x7 then
    Qdm [101,108,115,101] h0_0 x5.2.1 x5.2.2>>=λx8 =>
    Qb2 true false h0_0 x8.1 x8.2>>=λx9 =>
    some (x9.2.1,x9.2.2,x9.1)
   else
    some (x5.2.1,x5.2.2,[]):Option ((Int×Bool×(List Qab))))>>=λo6 =>
  Qdm [101,110,100] h0_0 o6.1 o6.2.1>>=λx10 =>
  some ((Qab.mk 10 [] [] 0 [x3.1] x5.1 o6.2.2),x10.1,x10.2)
 else
  ( Qa2 [101,97,99,104] h0_0 h0_1 h0_2>>=λx12 =>
   if x12 then
    some true
   else
    Qa2 [108,101,116] h0_0 h0_1 h0_2>>=λx13 =>
    some x13:Option (Bool))>>=λo11 =>
  if o11 then
   ( Qa2 [108,101,116] h0_0 h0_1 h0_2>>=λx15 =>
    if x15 then
     some 12
    else
     some 11:Option (Int))>>=λo14 =>
   Qal true h0_0 h0_1 h0_2>>=λx16 =>
   Qdc h0_0 x16.2.1 x16.2.2>>=λx17 =>
   ( if(o14==11) then
     Qa2 [105,110] h0_0 x17.2.1 x17.2.2>>=λx19 =>
     Qal x19 h0_0 x17.2.1 x17.2.2>>=λx20 =>
     some (x20.2.1,x20.2.2)
    else
     Qas 11 h0_0 x17.2.1 x17.2.2>>=λx21 =>
     Qal x21 h0_0 x17.2.1 x17.2.2>>=λx22 =>
     some (x22.2.1,x22.2.2):Option ((Int×Bool)))>>=λo18 =>
   Qcc h0_0 o18.1 o18.2>>=λx23 =>
   Qch h0_0 x23.2.1 x23.2.2>>=λx24 =>
   Qb2 true false h0_0 x24.1 x24.2>>=λx25 =>
   Qdm [101,110,100] h0_0 x25.2.1 x25.2.2>>=λx26 =>
   some ((Qab.mk o14 x17.1 [] 0 [x23.1] x25.1 []),x26.1,x26.2)
  else
   ( Qa2 [117,115,101] h0_0 h0_1 h0_2>>=λx28 =>
    if x28 then
     Qal true h0_0 h0_1 h0_2>>=λx29 =>
     Qdc h0_0 x29.2.1 x29.2.2>>=λx30 =>
     some (x30.2.1,x30.2.2,13,x30.1)
    else
     some (h0_1,h0_2,9,[]):Option ((Int×Bool×Int×(List UInt8))))>>=λo27 =>
   Qcc h0_0 o27.1 o27.2.1>>=λx31 =>
   Qch h0_0 x31.2.1 x31.2.2>>=λx32 =>
   some ((Qab.mk o27.2.2.1 o27.2.2.2 [] 0 [x31.1] [] []),x32.1,x32.2)
 partial_fixpoint
end
theorem Qu3:∀ (h0_0:(List Qai)),(∀ (p1:Bool) (p2:Bool) (h0_1:Int) (h0_2:Bool) (o:(List Qab)×Int×Bool),Qb2 p1 p2 h0_0 h0_1 h0_2=some o->CallOK Tryz.prog 116 [.ptr 0 0,.p (bV p1),.p (bV p2)] ⟨[[.p (.sl false (h0_0.map Qag)),.p (iV h0_1),.p (bV h0_2)]],[]⟩ (Qf4 o) ⟨[[.p (.sl false (h0_0.map Qag)),.p (iV o.2.1),.p (bV o.2.2)]],[]⟩)/\(∀ (p1:Bool) (p2:Bool) (v7:(List Qab)) (h0_1_:Int) (h0_2_:Bool) (o1:((List Qab)×Int×Bool)⊕((List Qab)×Int×Bool)),Qbz p1 p2 h0_0 v7 h0_1_ h0_2_=some o1->TL (1,0) Tryz.prog 89 Qth (JP2 (1,0) 89 o1 (.exit 0) (Qj1 p1 p2 h0_0) .ret (Qj2 p1 p2 h0_0)) (Qca p1 p2 h0_0 v7 h0_1_ h0_2_))/\(∀ (h0_1:Int) (h0_2:Bool) (o:Qab×Int×Bool),Qhj h0_0 h0_1 h0_2=some o->CallOK Tryz.prog 146 [.ptr 0 0] ⟨[[.p (.sl false (h0_0.map Qag)),.p (iV h0_1),.p (bV h0_2)]],[]⟩ (Qfe o) ⟨[[.p (.sl false (h0_0.map Qag)),.p (iV o.2.1),.p (bV o.2.2)]],[]⟩):=by
 intro h0_0;refine Qb2.mutual_partial_correctness h0_0 _ _ _ ?_ ?_ ?_
 .intro Qbz' iQbz p1 p2 h0_1 h0_2 o h;refine CallOK.ofB mixed tbOk Qnk Tryz.func116 rfl (by kernel_rfl) (Nat.le_of_ble_eq_true rfl) rfl rfl rfl ?_;refine Qah h (λo1 ho hk=>?_);refine Exists.intro (JP2 _ _ o1 (.exit 0) (Qj1 p1 p2 h0_0) .ret (Qj2 p1 p2 h0_0)) (And.intro (Qf5 (τ := Qca p1 p2 h0_0 [] h0_1 h0_2) ?_ (TL.loop (iQbz p1 p2 [] h0_1 h0_2 o1 ho))) (Qer (λy2 hy=>?_) (λy3 hy=>?_)))
  .exact Le.trans (τ := ⟨[(0,.ptr 0 0),(1,.p (bV p1)),(2,.p (bV p2)),(7,.p (.sl true []))],⟨[[.p (.sl false (h0_0.map Qag)),.p (iV h0_1),.p (bV h0_2)]],[]⟩⟩) (Le.ty 1 0) ((Le.xnil (.s 7) 38 7 rfl).trans (Le.ty 1 1))
  .have h:=(by rw[hy] at hk; exact hk);refine Exists.intro _ (And.intro (Le.trans (τ := ⟨[(6,.x 0 1 (.sl 38 7 (y2.1.map Qaa)))],⟨[[.p (.sl false (h0_0.map Qag)),.p (iV y2.2.1),.p (bV y2.2.2)]],[1]⟩⟩) (Le.ty 1 1) ((Le.frzv (.s 6) 0 1 rfl rfl rfl rfl).trans (Le.refl _ _ _))) ?_);exact Qb3 (t:=Qf4) (ss:=λo=>⟨[[.p (.sl false (h0_0.map Qag)),.p (iV o.2.1),.p (bV o.2.2)]],[]⟩) h ⟨[],rfl,.refl _,.refl _,rfl⟩
  .have h:=(by rw[hy] at hk; exact hk);refine Exists.intro _ (And.intro (Le.trans (τ := ⟨[(6,.x 0 1 (.sl 38 7 (y3.1.map Qaa)))],⟨[[.p (.sl false (h0_0.map Qag)),.p (iV y3.2.1),.p (bV y3.2.2)]],[1]⟩⟩) (Le.ty 1 1) ((Le.frzv (.s 6) 0 1 rfl rfl rfl rfl).trans (Le.refl _ _ _))) ?_);exact Qb3 (t:=Qf4) (ss:=λo=>⟨[[.p (.sl false (h0_0.map Qag)),.p (iV o.2.1),.p (bV o.2.2)]],[]⟩) h ⟨[],rfl,.refl _,.refl _,rfl⟩
 .intro Qbz' Qhj' iQbz iQhj p1 p2 v7 h0_1_ h0_2_ o1 h;refine TL.round (Qan mixed tbOk (lv:=Qnk) _ _ _ ?_);refine Qah h (λo4 ho hk=>?_);refine Exists.intro (JP1 _ _ o4 .normal (Qte p1 p2 h0_0 v7 h0_1_ h0_2_)) (And.intro ?_ (Qaz ?_))
  .have h:=ho;refine And.intro (by decide +kernel) (And.intro rfl ?_);refine Qac h (λhb h=>?_) (λhb h=>?_)
   .refine view (Qau _ _) rfl ?_;exact JP1.a h (Le.ty 1 1)
   .exact JP1.a h (Le.ty 1 1)
  .have h:=hk;refine Qac h (λhb h=>?_) (λhb h=>?_)
   .refine Qaq _ _ h (λx5 hy=>((Qa0 1 h0_0 h0_1_ h0_2_ x5 hy).fr [0] [] rfl rfl rfl)) (λx5 hy h=>?_);refine Qac h (λhb h=>?_) (λhb h=>?_)
    .refine Qaq _ _ h (λx6 hy=>((Qar true h0_0 h0_1_ h0_2_ x6 hy).fr [0] [] rfl rfl rfl)) (λx6 hy h=>?_);refine And.intro rfl (Exists.intro _ (And.intro (List.length_map _) ?_));refine Qah h (λo7 ho hk=>?_);refine Exists.intro (JP1 _ _ o7 .normal (Qtf p1 p2 h0_0 v7 x6)) (And.intro ?_ (Qaz ?_))
     .have h:=ho;refine Qac h (λhb h=>?_) (λhb h=>?_)
      .refine Q16 (l:=v7) (c:=Qaa) (c' := Qa1) h rfl Qao (λ_=>rfl) (by decide) (λx8 hi h=>?_);refine And.intro rfl ?_;refine And.intro rfl (And.intro (Nat.le_of_ble_eq_true rfl) ?_);exact JP1.a h (Le.ty 1 1)
      .exact JP1.a h (Le.ty 1 1)
     .have h:=hk;refine Qac h (λhb h=>?_) (λhb h=>?_)
      .refine Q16 (l:=v7) (c:=Qaa) (c' := Qa1) h rfl Qao (λ_=>rfl) (by decide) (λx9 hi h=>?_);refine And.intro rfl ?_;refine And.intro rfl (And.intro (Nat.le_of_ble_eq_true rfl) ?_);refine Qr9 h (λh=>?_);refine Q16 (l:=v7) (c:=Qaa) (c' := Qa1) h rfl Qao (λ_=>rfl) (by decide) (λx10 hi h=>?_);refine And.intro rfl ?_;refine And.intro rfl (And.intro (Nat.le_of_ble_eq_true rfl) (And.intro rfl (And.intro rfl (Exists.intro ((v7.set ((wr ((v7.length:Int)-1)).toNat) (Qab.mk x10.Kind x10.Name (x9.Text++x6.1.Text) x10.N x10.L x10.Then x10.Else)).map Qaa) (And.intro (Qasu (.ceq (Qao _) (.refl _))) ?_)))));refine TL.le (τ := Qca p1 p2 h0_0 (v7.set ((wr ((v7.length:Int)-1)).toNat) (Qab.mk x10.Kind x10.Name (x9.Text++x6.1.Text) x10.N x10.L x10.Then x10.Else)) x6.2.1 x6.2.2) ?_ ((iQbz p1 p2 (v7.set ((wr ((v7.length:Int)-1)).toNat) (Qab.mk x10.Kind x10.Name (x9.Text++x6.1.Text) x10.N x10.L x10.Then x10.Else)) x6.2.1 x6.2.2 _ h));exact Le.trans (τ := ⟨[(0,.ptr 0 0),(1,.p (bV p1)),(2,.p (bV p2)),(7,.x 0 2 (.sl 38 7 ((v7.set ((wr ((v7.length:Int)-1)).toNat) (Qab.mk x10.Kind x10.Name (x9.Text++x6.1.Text) x10.N x10.L x10.Then x10.Else)).map Qaa)))],⟨[[.p (.sl false (h0_0.map Qag)),.p (iV x6.2.1),.p (bV x6.2.2)]],[2]⟩⟩) (Le.ty 1 1) ((Le.ver (.s 7) 0 2 1 rfl rfl rfl rfl).trans (Le.ty 1 1))
      .refine Q17 (a:=v7) (b:=[(Qab.mk 8 [] x6.1.Text 0 [] [] [])]) (c:=Qaa) h (.cons (.ceq (Qao _) (.cons (.refl _) (.cons (.refl _) (.cons (.refl _) (.cons (.refl _) (.cons (.not) (.cons (.not) (.cons (.not) (.nil))))))))) (.nil)) (λx=>by rw[Qao]; rfl) rfl (λx11 hi h=>?_);refine TL.le (τ := Qca p1 p2 h0_0 x11 x6.2.1 x6.2.2) ?_ ((iQbz p1 p2 x11 x6.2.1 x6.2.2 _ h));exact Le.trans (τ := ⟨[(0,.ptr 0 0),(1,.p (bV p1)),(2,.p (bV p2)),(7,.x 0 2 (.sl 38 7 (x11.map Qaa)))],⟨[[.p (.sl false (h0_0.map Qag)),.p (iV x6.2.1),.p (bV x6.2.2)]],[2]⟩⟩) (Le.ty 1 1) ((Le.ver (.s 7) 0 2 1 rfl rfl rfl rfl).trans (Le.ty 1 1))
    .refine Qah h (λo12 ho hk=>?_);refine Exists.intro (JP1 _ _ o12 .normal (Qtg p1 p2 h0_0 v7 h0_1_ h0_2_)) (And.intro ?_ (Qaz ?_))
     .have h:=ho;refine Qac h (λhb h=>?_) (λhb h=>?_)
      .refine Qaq _ _ h (λx13 hy=>((Qfj [101,110,100] h0_0 h0_1_ h0_2_ x13 hy).fr [0] [] rfl rfl rfl)) (λx13 hy h=>?_);refine Qac h (λhb h=>?_) (λhb h=>?_)
       .exact JP1.a h (Le.ty 1 1)
       .refine Qac h (λhb h=>?_) (λhb h=>?_)
        .refine Qaq _ _ h (λx14 hy=>((Qfj [101,108,115,101] h0_0 h0_1_ h0_2_ x14 hy).fr [0] [] rfl rfl rfl)) (λx14 hy h=>?_);exact JP1.a h (Le.ty 1 1)
        .exact JP1.a h (Le.ty 1 1)
      .refine bF ?_;refine Qac h (λhb h=>?_) (λhb h=>?_)
       .refine Qaq _ _ h (λx15 hy=>((Qfj [101,108,115,101] h0_0 h0_1_ h0_2_ x15 hy).fr [0] [] rfl rfl rfl)) (λx15 hy h=>?_);exact JP1.a h (Le.ty 1 1)
       .exact JP1.a h (Le.ty 1 1)
     .have h:=hk;refine Qac h (λhb h=>?_) (λhb h=>?_)
      .exact JP2.b h (Le.ty 1 1)
      .refine Qaq _ _ h (λx16 hy=>((Qa0 2 h0_0 h0_1_ h0_2_ x16 hy).fr [0] [] rfl rfl rfl)) (λx16 hy h=>?_);refine Qaq _ _ h (λx17 hy=>((Qar x16 h0_0 h0_1_ h0_2_ x17 hy).fr [0] [] rfl rfl rfl)) (λx17 hy h=>?_);refine Qaq _ _ h (λx18 hy=>((Qa0 3 h0_0 x17.2.1 x17.2.2 x18 hy).fr [0] [] rfl rfl rfl)) (λx18 hy h=>?_);refine Qac h (λhb h=>?_) (λhb h=>?_)
       .refine Qaq _ _ h (λx19 hy=>((Qar true h0_0 x17.2.1 x17.2.2 x19 hy).fr [0] [] rfl rfl rfl)) (λx19 hy h=>?_);refine TL.le (τ := Qca p1 p2 h0_0 v7 x19.2.1 x19.2.2) ?_ ((iQbz p1 p2 v7 x19.2.1 x19.2.2 _ h));exact Le.ty 1 1
       .refine Qaq _ _ h (λx20 hy=>((iQhj x17.2.1 x17.2.2 x20 hy).fr [0] [] rfl rfl rfl)) (λx20 hy h=>?_);refine Q17 (a:=v7) (b:=[x20.1]) (c:=Qaa) h (.cons (.ceq (Qao _) (.refl _)) (.nil)) (λx=>by rw[Qao]; rfl) rfl (λx21 hi h=>?_);refine TL.le (τ := Qca p1 p2 h0_0 x21 x20.2.1 x20.2.2) ?_ ((iQbz p1 p2 x21 x20.2.1 x20.2.2 _ h));exact Le.trans (τ := ⟨[(0,.ptr 0 0),(1,.p (bV p1)),(2,.p (bV p2)),(7,.x 0 2 (.sl 38 7 (x21.map Qaa)))],⟨[[.p (.sl false (h0_0.map Qag)),.p (iV x20.2.1),.p (bV x20.2.2)]],[2]⟩⟩) (Le.ty 1 1) ((Le.ver (.s 7) 0 2 1 rfl rfl rfl rfl).trans (Le.ty 1 1))
   .exact JP2.a h (Le.ty 1 1)
 .intro Qb2' iQb2 h0_1 h0_2 o h;refine CallOK.ofB mixed tbOk Quy Tryz.func146 rfl (by kernel_rfl) (Nat.le_of_ble_eq_true rfl) rfl rfl rfl ?_;refine Qaq _ _ h (λx1 hy=>((Qbn [105,102] h0_0 h0_1 h0_2 x1 hy).fr [0] [] rfl rfl rfl)) (λx1 hy h=>?_);refine Qac h (λhb h=>?_) (λhb h=>?_)
  .refine Qaq _ _ h (λx2 hy=>((Qar true h0_0 h0_1 h0_2 x2 hy).fr [0] [] rfl rfl rfl)) (λx2 hy h=>?_);refine Qaq _ _ h (λx3 hy=>((Qjm h0_0 x2.2.1 x2.2.2 x3 hy).fr [0] [] rfl rfl rfl)) (λx3 hy h=>?_);refine Qaq _ _ h (λx4 hy=>((Qfk h0_0 x3.2.1 x3.2.2 x4 hy).fr [0] [] rfl rfl rfl)) (λx4 hy h=>?_);refine Qaq _ _ h (λx5 hy=>((iQb2 true true x4.1 x4.2 x5 hy).fr [0] [] rfl rfl rfl)) (λx5 hy h=>?_);refine Qah h (λo6 ho hk=>?_);refine Exists.intro (JP1 _ _ o6 .normal (Qrs h0_0 x3 x5)) (And.intro ?_ (Qaz ?_))
   .have h:=ho;refine Qaq _ _ h (λx7 hy=>((Qfj [101,108,115,101] h0_0 x5.2.1 x5.2.2 x7 hy).fr [0] [] rfl rfl rfl)) (λx7 hy h=>?_);refine Qac h (λhb h=>?_) (λhb h=>?_)
    .refine Qaq _ _ h (λx8 hy=>((Qkt [101,108,115,101] h0_0 x5.2.1 x5.2.2 x8 hy).fr [0] [] rfl rfl rfl)) (λx8 hy h=>?_);refine Qaq _ _ h (λx9 hy=>((iQb2 true false x8.1 x8.2 x9 hy).fr [0] [] rfl rfl rfl)) (λx9 hy h=>?_);refine JP1.a h ?_;exact Le.tow 3 0 rfl (.cons rfl (.refl _) (.cons rfl (.refl _) (.cons rfl (.refl _) (.nil)))) (.cons (.refl _) (.cons (.refl _) (.cons (.cons (.refl _) (.cons (.refl _) (.cons (.refl _) (.cons (.refl _) (.cons (.p (.sl' (λh=>h) (.cons (.ceq (Qao _) (.refl _)) (.nil)))) (.cons (.refl _) (.cons (.refl _) (.nil)))))))) (.nil)))) rfl
    .refine JP1.a h ?_;exact Le.tow 3 0 rfl (.cons rfl (.refl _) (.cons rfl (.refl _) (.cons rfl (.refl _) (.nil)))) (.cons (.refl _) (.cons (.refl _) (.cons (.cons (.refl _) (.cons (.refl _) (.cons (.refl _) (.cons (.refl _) (.cons (.p (.sl' (λh=>h) (.cons (.ceq (Qao _) (.refl _)) (.nil)))) (.cons (.refl _) (.cons (.p (.not)) (.nil)))))))) (.nil)))) rfl
   .have h:=hk;refine Qaq _ _ h (λx10 hy=>((Qkt [101,110,100] h0_0 o6.1 o6.2.1 x10 hy).fr [0] [] rfl rfl rfl)) (λx10 hy h=>?_);refine Exists.intro _ (And.intro (Le.refl _ _ _) ?_);exact Qb3 (t:=Qfe) (ss:=λo=>⟨[[.p (.sl false (h0_0.map Qag)),.p (iV o.2.1),.p (bV o.2.2)]],[]⟩) h ⟨[],rfl,.p (.agg' (.cons (.refl _) (.cons (.refl _) (.cons (.refl _) (.cons (.refl _) (.cons (.not) (.cons (.refl _) (.cons (.refl _) (.nil))))))))),.refl _,rfl⟩
  .refine Qah h (λo11 ho hk=>?_);refine Exists.intro (JP1 _ _ o11 .normal (Qrt h0_0 h0_1 h0_2)) (And.intro ?_ (Qaz ?_))
   .have h:=ho;refine Qaq _ _ h (λx12 hy=>((Qbn [101,97,99,104] h0_0 h0_1 h0_2 x12 hy).fr [0] [] rfl rfl rfl)) (λx12 hy h=>?_);refine Qac h (λhb h=>?_) (λhb h=>?_)
    .exact JP1.a h (Le.ty 2 0)
    .refine Qaq _ _ h (λx13 hy=>((Qbn [108,101,116] h0_0 h0_1 h0_2 x13 hy).fr [0] [] rfl rfl rfl)) (λx13 hy h=>?_);exact JP1.a h (Le.ty 2 0)
   .have h:=hk;refine Qac h (λhb h=>?_) (λhb h=>?_)
    .refine Qah h (λo14 ho hk=>?_);refine Exists.intro (JP1 _ _ o14 .normal (Qru h0_0 h0_1 h0_2)) (And.intro ?_ (Qaz ?_))
     .have h:=ho;refine Qaq _ _ h (λx15 hy=>((Qbn [108,101,116] h0_0 h0_1 h0_2 x15 hy).fr [0] [] rfl rfl rfl)) (λx15 hy h=>?_);refine Qac h (λhb h=>?_) (λhb h=>?_)
      .exact JP1.a h (Le.ty 3 0)
      .exact JP1.a h (Le.ty 3 0)
     .have h:=hk;refine Qaq _ _ h (λx16 hy=>((Qar true h0_0 h0_1 h0_2 x16 hy).fr [0] [] rfl rfl rfl)) (λx16 hy h=>?_);refine Qaq _ _ h (λx17 hy=>((Qjl h0_0 x16.2.1 x16.2.2 x17 hy).fr [0] [] rfl rfl rfl)) (λx17 hy h=>?_);refine Qah h (λo18 ho hk=>?_);refine Exists.intro (JP1 _ _ o18 .normal (Qrv h0_0 o14 x17)) (And.intro ?_ (Qaz ?_))
      .have h:=ho;refine Qac h (λhb h=>?_) (λhb h=>?_)
       .refine Qaq _ _ h (λx19 hy=>((Qbn [105,110] h0_0 x17.2.1 x17.2.2 x19 hy).fr [0] [] rfl rfl rfl)) (λx19 hy h=>?_);refine Qaq _ _ h (λx20 hy=>((Qar x19 h0_0 x17.2.1 x17.2.2 x20 hy).fr [0] [] rfl rfl rfl)) (λx20 hy h=>?_);exact JP1.a h (Le.ty 3 0)
       .refine Qaq _ _ h (λx21 hy=>((Qa0 11 h0_0 x17.2.1 x17.2.2 x21 hy).fr [0] [] rfl rfl rfl)) (λx21 hy h=>?_);refine Qaq _ _ h (λx22 hy=>((Qar x21 h0_0 x17.2.1 x17.2.2 x22 hy).fr [0] [] rfl rfl rfl)) (λx22 hy h=>?_);exact JP1.a h (Le.ty 3 0)
      .have h:=hk;refine Qaq _ _ h (λx23 hy=>((Qjm h0_0 o18.1 o18.2 x23 hy).fr [0] [] rfl rfl rfl)) (λx23 hy h=>?_);refine Qaq _ _ h (λx24 hy=>((Qfk h0_0 x23.2.1 x23.2.2 x24 hy).fr [0] [] rfl rfl rfl)) (λx24 hy h=>?_);refine Qaq _ _ h (λx25 hy=>((iQb2 true false x24.1 x24.2 x25 hy).fr [0] [] rfl rfl rfl)) (λx25 hy h=>?_);refine Qaq _ _ h (λx26 hy=>((Qkt [101,110,100] h0_0 x25.2.1 x25.2.2 x26 hy).fr [0] [] rfl rfl rfl)) (λx26 hy h=>?_);refine Exists.intro _ (And.intro (Le.refl _ _ _) ?_);exact Qb3 (t:=Qfe) (ss:=λo=>⟨[[.p (.sl false (h0_0.map Qag)),.p (iV o.2.1),.p (bV o.2.2)]],[]⟩) h ⟨[],rfl,.p (.agg' (.cons (.refl _) (.cons (.refl _) (.cons (.refl _) (.cons (.refl _) (.cons (.no (.cons (.ceq (Qao _) (.refl _)) (.nil))) (.cons (.refl _) (.cons (.not) (.nil))))))))),.refl _,rfl⟩
    .refine Qah h (λo27 ho hk=>?_);refine Exists.intro (JP1 _ _ o27 .normal (Qrw h0_0)) (And.intro ?_ (Qaz ?_))
     .have h:=ho;refine Qaq _ _ h (λx28 hy=>((Qbn [117,115,101] h0_0 h0_1 h0_2 x28 hy).fr [0] [] rfl rfl rfl)) (λx28 hy h=>?_);refine Qac h (λhb h=>?_) (λhb h=>?_)
      .refine Qaq _ _ h (λx29 hy=>((Qar true h0_0 h0_1 h0_2 x29 hy).fr [0] [] rfl rfl rfl)) (λx29 hy h=>?_);refine Qaq _ _ h (λx30 hy=>((Qjl h0_0 x29.2.1 x29.2.2 x30 hy).fr [0] [] rfl rfl rfl)) (λx30 hy h=>?_);exact JP1.a h (Le.ty 3 0)
      .exact JP1.a h (Le.ty 3 0)
     .have h:=hk;refine Qaq _ _ h (λx31 hy=>((Qjm h0_0 o27.1 o27.2.1 x31 hy).fr [0] [] rfl rfl rfl)) (λx31 hy h=>?_);refine Qaq _ _ h (λx32 hy=>((Qfk h0_0 x31.2.1 x31.2.2 x32 hy).fr [0] [] rfl rfl rfl)) (λx32 hy h=>?_);refine Exists.intro _ (And.intro (Le.refl _ _ _) ?_);exact Qb3 (t:=Qfe) (ss:=λo=>⟨[[.p (.sl false (h0_0.map Qag)),.p (iV o.2.1),.p (bV o.2.2)]],[]⟩) h ⟨[],rfl,.p (.agg' (.cons (.refl _) (.cons (.refl _) (.cons (.refl _) (.cons (.refl _) (.cons (.no (.cons (.ceq (Qao _) (.refl _)) (.nil))) (.cons (.not) (.cons (.not) (.nil))))))))),.refl _,rfl⟩
theorem Qwt:∀ (p1:Bool) (p2:Bool) (h0_0:(List Qai)) (h0_1:Int) (h0_2:Bool) (o:(List Qab)×Int×Bool),Qb2 p1 p2 h0_0 h0_1 h0_2=some o->CallOK Tryz.prog 116 [.ptr 0 0,.p (bV p1),.p (bV p2)] ⟨[[.p (.sl false (h0_0.map Qag)),.p (iV h0_1),.p (bV h0_2)]],[]⟩ (Qf4 o) ⟨[[.p (.sl false (h0_0.map Qag)),.p (iV o.2.1),.p (bV o.2.2)]],[]⟩:=λp1 p2 h0_0 h0_1 h0_2=>(Qu3 h0_0).1 p1 p2 h0_1 h0_2
def Qpu (p0:(List UInt8)):Option ((List Qab)×Int×Int) :=
 Qmm p0>>=λx1 =>
 if(x1.2.2 != 0) then
  some ([],x1.2.1,x1.2.2)
 else
  Qb2 false false x1.1 0 false>>=λx2 =>
  if x2.2.2 then
   if(decide (x2.2.1<(x1.1.length:Int))) then
    idx x1.1 x2.2.1>>=λx3 =>
    some ([],x3.From,7)
   else
    some ([],(p0.length:Int),7)
  else
   Qdv x2.1>>=λx4 =>
   if(decide (x4>1024)) then
    some ([],0,5)
   else
    Qe6 x2.1>>=λx5 =>
    if(decide (x5>12)) then
     some ([],0,8)
    else
     some (x2.1,0,0)
theorem Qad7:∀ (p0:(List UInt8)) (o:(List Qab)×Int×Int),Qpu p0=some o->PCall Tryz.prog 84 [sV p0] (Qgv o):=by
 intro p0 o h;unfold Qpu at h;refine PCall.ofY Qad5 Tryz.func84 ?_;refine Qam [sV p0] Qlf h (λx1 hy=>(Qaab p0 x1 hy)) (λx1 hy h=>?_);refine Qac h (λhb h=>?_) (λhb h=>?_)
 .refine Qak (t:=Qgv) h ?_;exact .tup (xs:=[.sl true [],iV x1.2.1,iV x1.2.2]) (ys:=[.sl false [],iV x1.2.1,iV x1.2.2]) (.cons (.not) (.cons (.refl _) (.cons (.refl _) (.nil))))
 .refine Qaq _ _ h (λx2 hy=>((Qwt false false x1.1 0 false x2 hy).fr [0] [] rfl rfl rfl)) (λx2 hy h=>?_);refine Qac h (λhb h=>?_) (λhb h=>?_)
  .refine view (Qau _ _) rfl ?_;refine Qac h (λhb h=>?_) (λhb h=>?_)
   .refine And.intro (by decide +kernel) (And.intro rfl ?_);refine Qay (l:=x1.1) (c:=Qag) (c' := Qag) h (λ_=>rfl) (λ_=>rfl) (by decide) (λx3 hi h=>?_);refine Qak (t:=Qgv) h ?_;exact .tup (xs:=[.sl true [],iV x3.From,iV 7]) (ys:=[.sl false [],iV x3.From,iV 7]) (.cons (.not) (.cons (.refl _) (.cons (.refl _) (.nil))))
   .refine vrfl ?_;refine Qak (t:=Qgv) h ?_;exact .tup (xs:=[.sl true [],iV (p0.length:Int),iV 7]) (ys:=[.sl false [],iV (p0.length:Int),iV 7]) (.cons (.not) (.cons (.refl _) (.cons (.refl _) (.nil))))
  .refine Qam [.sl false (x2.1.map Qaa)] Qga h (λx4 hy=>(Qzp x2.1 x4 hy)) (λx4 hy h=>?_);refine Qac h (λhb h=>?_) (λhb h=>?_)
   .refine Qak (t:=Qgv) h ?_;exact .tup (xs:=[.sl true [],iV 0,iV 5]) (ys:=[.sl false [],iV 0,iV 5]) (.cons (.not) (.cons (.refl _) (.cons (.refl _) (.nil))))
   .refine Qam [.sl false (x2.1.map Qaa)] Qis h (λx5 hy=>(Q2y x2.1 x5 hy)) (λx5 hy h=>?_);refine Qac h (λhb h=>?_) (λhb h=>?_)
    .refine Qak (t:=Qgv) h ?_;exact .tup (xs:=[.sl true [],iV 0,iV 8]) (ys:=[.sl false [],iV 0,iV 8]) (.cons (.not) (.cons (.refl _) (.cons (.refl _) (.nil))))
    .refine Qak (t:=Qgv) h ?_;exact .refl _
mutual
def Qfw (p0:(List Qae)) (p1:(List Qab)) (p2:Int):Option (Int) :=
 (Qe2 p0 p1 p2 0 0)>>=λo1 =>
 some o1
 partial_fixpoint
def Qe2 (p0:(List Qae)) (p1:(List Qab)) (p2:Int) (v7:Int) (v8:Int):Option (Int) :=
 ( if(decide (v8<(p1.length:Int))) then
   some (decide (v7<p2))
  else
   some false:Option (Bool))>>=λo2 =>
 if o2 then
  idx p1 v8>>=λx3 =>
  Qfw p0 x3.Then (wr (p2-v7))>>=λx4 =>
  idx p1 v8>>=λx5 =>
  Qfw p0 x5.Else (wr (p2-v7))>>=λx6 =>
  ( idx p1 v8>>=λx8 =>
   if(x8.Kind==13) then
    some (decide ((wr ((wr ((wr (v7+1))+x4))+x6))<p2))
   else
    some false:Option (Bool))>>=λo7 =>
  if o7 then
   idx p1 v8>>=λx9 =>
   Qh3 p0 x9.Name>>=λx10 =>
   Qfw p0 x10.1 (wr (p2-(wr ((wr ((wr (v7+1))+x4))+x6))))>>=λx11 =>
   Qe2 p0 p1 p2 (wr ((wr ((wr ((wr (v7+1))+x4))+x6))+x11)) (wr (v8+1))
  else
   Qe2 p0 p1 p2 (wr ((wr ((wr (v7+1))+x4))+x6)) (wr (v8+1))
 else
  some v7
 partial_fixpoint
end
theorem Qaac:∀ (p0:(List Qae)),(∀ (p1:(List Qab)) (p2:Int) (o:Int),Qfw p0 p1 p2=some o->PCall Tryz.prog 60 [.sl false (p0.map Qaf),.sl false (p1.map Qaa),iV p2] (Qig o))/\(∀ (p1:(List Qab)) (p2:Int) (v7:Int) (v8:Int) (o1:Int),Qe2 p0 p1 p2 v7 v8=some o1->TL (0,0) Tryz.prog 76 Q5n (JP1 (0,0) 76 o1 (.exit 0) (Qtl p0 p1 p2)) (Qjj p0 p1 p2 v7 v8)):=by
 intro p0;refine Qfw.mutual_partial_correctness p0 _ _ ?_ ?_
 .intro Qe2' iQe2 p1 p2 o h;refine PCall.ofY Qzw Tryz.func60 ?_;refine Qah h (λo1 ho hk=>?_);refine Exists.intro (JP1 _ _ o1 (.exit 0) (Qtl p0 p1 p2)) (And.intro (Qf5 (τ := Qjj p0 p1 p2 0 0) ?_ (TL.loop (iQe2 p1 p2 0 0 o1 ho))) (Qaz ?_))
  .exact Le.ty 0 0
  have h:=hk;refine Qak (t:=Qig) h ?_;exact .refl _
 .intro Qfw' Qe2' iQfw iQe2 p1 p2 v7 v8 o1 h;refine TL.round (Qan mixed tbOk (lv:=Qzw) _ _ _ ?_);refine Qah h (λo2 ho hk=>?_);refine Exists.intro (JP1 _ _ o2 .normal (Q5l p0 p1 p2 v7 v8)) (And.intro ?_ (Qaz ?_))
  .have h:=ho;refine view (Qau _ _) rfl ?_;refine Qac h (λhb h=>?_) (λhb h=>?_)
   .exact JP1.a h (Le.ty 0 0)
   .exact JP1.a h (Le.ty 0 0)
  .have h:=hk;refine Qac h (λhb h=>?_) (λhb h=>?_)
   .refine And.intro (by decide +kernel) (And.intro rfl ?_);refine Qay (l:=p1) (c:=Qaa) (c' := Qa1) h Qao (λ_=>rfl) (by decide) (λx3 hi h=>?_);refine Qcf [.sl false (p0.map Qaf),.sl false (x3.Then.map Qaa),iV (wr (p2-v7))] Qig h (λx4 hy=>(iQfw x3.Then (wr (p2-v7)) x4 hy)) (λx4 hy h=>?_);refine Qay (l:=p1) (c:=Qaa) (c' := Qa1) h Qao (λ_=>rfl) (by decide) (λx5 hi h=>?_);refine Qcf [.sl false (p0.map Qaf),.sl false (x5.Else.map Qaa),iV (wr (p2-v7))] Qig h (λx6 hy=>(iQfw x5.Else (wr (p2-v7)) x6 hy)) (λx6 hy h=>?_);refine Qah h (λo7 ho hk=>?_);refine Exists.intro (JP1 _ _ o7 .normal (Q5m p0 p1 p2 v7 v8 x4 x6)) (And.intro ?_ (Qaz ?_))
    .have h:=ho;refine Qay (l:=p1) (c:=Qaa) (c' := Qa1) h Qao (λ_=>rfl) (by decide) (λx8 hi h=>?_);refine Qac h (λhb h=>?_) (λhb h=>?_)
     .exact JP1.a h (Le.ty 0 0)
     .exact JP1.a h (Le.ty 0 0)
    .have h:=hk;refine Qac h (λhb h=>?_) (λhb h=>?_)
     .refine Qay (l:=p1) (c:=Qaa) (c' := Qa1) h Qao (λ_=>rfl) (by decide) (λx9 hi h=>?_);refine Qam [.sl false (p0.map Qaf),sV x9.Name] Qes h (λx10 hy=>(Qgh p0 x9.Name x10 hy)) (λx10 hy h=>?_);refine Qam [.sl false (p0.map Qaf),.sl false (x10.1.map Qaa),iV (wr (p2-(wr ((wr ((wr (v7+1))+x4))+x6))))] Qig h (λx11 hy=>(iQfw x10.1 (wr (p2-(wr ((wr ((wr (v7+1))+x4))+x6)))) x11 hy)) (λx11 hy h=>?_);refine TL.le (τ := Qjj p0 p1 p2 (wr ((wr ((wr ((wr (v7+1))+x4))+x6))+x11)) (wr (v8+1))) ?_ ((iQe2 p1 p2 (wr ((wr ((wr ((wr (v7+1))+x4))+x6))+x11)) (wr (v8+1)) _ h));exact Le.ty 0 0
     .refine TL.le (τ := Qjj p0 p1 p2 (wr ((wr ((wr (v7+1))+x4))+x6)) (wr (v8+1))) ?_ ((iQe2 p1 p2 (wr ((wr ((wr (v7+1))+x4))+x6)) (wr (v8+1)) _ h));exact Le.ty 0 0
   .exact JP1.a h (Le.ty 0 0)
theorem Qad8:∀ (p0:(List Qae)) (p1:(List Qab)) (p2:Int) (o:Int),Qfw p0 p1 p2=some o->PCall Tryz.prog 60 [.sl false (p0.map Qaf),.sl false (p1.map Qaa),iV p2] (Qig o):=λp0 p1 p2=>(Qaac p0).1 p1 p2
def Qew (p0:(List Qae)) (p1:(List UInt8)):Option ((List Qae)×Bool) :=
 Qgs p0 8>>=λx1 =>
 Qpl x1>>=λx2 =>
 if(x2.2 != 0) then
  some (x1,true)
 else
  Qh3 x1 p1>>=λx3 =>
  Qfw x1 x3.1 3000>>=λx4 =>
  some (x1,(decide (x4<3000)))
theorem Qu4:∀ (p0:(List Qae)) (p1:(List UInt8)) (o:(List Qae)×Bool),Qew p0 p1=some o->PCall Tryz.prog 26 [.sl false (p0.map Qaf),sV p1] (Qff o):=by
 intro p0 p1 o h;unfold Qew at h;refine PCall.ofY Qu2 Tryz.func26 ?_;refine Qam [.sl false (p0.map Qaf),iV 8] Qki h (λx1 hy=>(Qxp p0 8 x1 hy)) (λx1 hy h=>?_);refine Qam [.sl false (x1.map Qaf)] Qgc h (λx2 hy=>(Qzq x1 x2 hy)) (λx2 hy h=>?_);refine Qac h (λhb h=>?_) (λhb h=>?_)
 .refine Qak (t:=Qff) h ?_;exact .refl _
 .refine Qam [.sl false (x1.map Qaf),sV p1] Qes h (λx3 hy=>(Qgh x1 p1 x3 hy)) (λx3 hy h=>?_);refine Qam [.sl false (x1.map Qaf),.sl false (x3.1.map Qaa),iV 3000] Qig h (λx4 hy=>(Qad8 x1 x3.1 3000 x4 hy)) (λx4 hy h=>?_);refine Qak (t:=Qff) h ?_;exact .refl _
def Qb9 (p0:(List Qaj)):Option ((List Qaj)) :=
 appL 32 [] p0
theorem Qjn:∀ (p0:(List Qaj)) (o:(List Qaj)),Qb9 p0=some o->CallOK Tryz.prog 88 [.p (.sl false (p0.map Qat))] ⟨[],[]⟩ (Qcv o) ⟨[],[1]⟩:=by
 intro p0 o h;unfold Qb9 at h;have h:(appL 32 ([]:List Qaj) p0>>=λr=>some r)=some o:=by rw[h]; rfl
 refine CallOK.ofB mixed tbOk Qjk Tryz.func88 rfl (by kernel_rfl) (Nat.le_of_ble_eq_true rfl) rfl rfl rfl ?_;refine⟨rfl,rfl,rfl,λb hb=>?_⟩;cases b with
 | true =>
  refine bT ?_;obtain rfl:=List.map_eq_nil_iff.1 (hb rfl);have h:some ([]:List Qaj)=some o:=h;refine Exists.intro _ (And.intro (Le.xnil (.s 2) 46 3 rfl) ?_);exact Qb3 (t:=Qcv) (ss:=λo=>⟨[],[1]⟩) h ⟨[0],rfl,.refl _,.refl _,rfl⟩
 | false =>
  refine bF ?_;refine Qah5 (a:=([]:List Qaj)) (b:=p0) (c:=Qat) h (.refl _) (.refl _) (λ_=>rfl) (.inl rfl) (λr hi h=>?_);refine Exists.intro _ (And.intro (Le.refl _ _ _) ?_);exact Qb3 (t:=Qcv) (ss:=λo=>⟨[],[1]⟩) h ⟨[0],rfl,.refl _,.refl _,rfl⟩
instance Q3n:Lean.Order.CCPO ((List UInt8)->Bool->(List (Qbf×Int))->Option (((List UInt8)×Bool×(List (Qbf×Int)))⊕((List UInt8)×Bool×(List (Qbf×Int))))):=inferInstance
instance Q3o:Lean.Order.CCPO ((List Qab)->(List Qaj)->Int->(List UInt8)->Bool->(List (Qbf×Int))->Option (((List UInt8)×Bool×(List (Qbf×Int)))⊕((List UInt8)×Bool×(List (Qbf×Int))))):=inferInstance
instance Q34:Lean.Order.CCPO (Bool->(List (Qbf×Int))->Int->Option ((List UInt8)×Bool×(List (Qbf×Int))×Int)):=inferInstance
instance Q35:Lean.Order.CCPO ((List Qab)->(List Qaj)->(List UInt8)->Bool->(List (Qbf×Int))->Int->Option ((List UInt8)×Bool×(List (Qbf×Int))×Int)):=inferInstance
instance Q0j:Lean.Order.CCPO (Bool->(List (Qbf×Int))->Int->Option (((List UInt8)×Bool×(List (Qbf×Int))×Int)⊕((List UInt8)×Bool×(List (Qbf×Int))×Int))):=inferInstance
instance Q0k:Lean.Order.CCPO ((List Qaj)->Int->(List UInt8)->Bool->(List (Qbf×Int))->Int->Option (((List UInt8)×Bool×(List (Qbf×Int))×Int)⊕((List UInt8)×Bool×(List (Qbf×Int))×Int))):=inferInstance
end Go.Proofs.YtfgegilhjlnohaaGreat
end

noncomputable section
namespace Go.Proofs.YtfgegilhjlnohaaGreat
open Go.RowKit
set_option linter.unusedSimpArgs false
set_option linter.unusedVariables false
def bndP(l:List Qaj)(s:Nm):Bool:=match l.reverse.find? (·.Name==s) with | none=>false | some b=>b.Secret
mutual
def secN:Qab->List Qaj->Bool
 | ⟨k,s,_,_,a,_,_⟩,l=>if k==7 then true else if k==4 then bndP l s else if k==5||k==6 then secL a l else false
def secL:List Qab->List Qaj->Bool
 | [],_=>false
 | x::r,l=>secN x l||secL r l
end
theorem Qars(x:Qab)(l:List Qaj):secN x l=if x.Kind==7 then true else if x.Kind==4 then bndP l x.Name else if x.Kind==5||x.Kind==6 then secL x.L l else false:=by cases x; rw[secN]
theorem Qain{α : Type}(l:List α)(k:Nat)(hk:k<l.length):(l.take (k+1)).reverse=l[k]::(l.take k).reverse:=by
 rw[List.take_succ_eq_append_getElem hk,List.reverse_append]; rfl
def Qad9(k:Int)(nm:Nm)(s:Bool)(bs:List Qaj):List Qaj:=if k==11 then bs++[⟨nm,0,false⟩] else if k==12 then bs++[⟨nm,0,s⟩] else bs
def hdS(a:List Qab)(bs:List Qaj):Bool:=match a with | []=>false | y::_=>secN y bs
abbrev Qu5:Qfv:=⟨[],false,false⟩
mutual
def stS(U:Nm->Bool->Qfv)(w:Nm):Qab->List Qaj->Qfv
 | ⟨k,nm,_,_,a,t,e⟩,bs =>
  if k==8 then Qu5 else
  if hdS a bs&&(k==10||k==11) then⟨w,true,false⟩ else
  if(blS U w t (Qad9 k nm (hdS a bs) bs)).Bad then blS U w t (Qad9 k nm (hdS a bs) bs) else
  if(blS U w e bs).Bad then blS U w e bs else
  if(if k==13 then U nm (hdS a bs) else Qu5).Bad then U nm (hdS a bs) else
  ⟨[],false,(k==9&&hdS a bs)||((blS U w t (Qad9 k nm (hdS a bs) bs)).Tells||((blS U w e bs).Tells||(if k==13 then U nm (hdS a bs) else Qu5).Tells))⟩
def blS(U:Nm->Bool->Qfv)(w:Nm):List Qab->List Qaj->Qfv
 | [],_=>Qu5
 | x::r,bs=>if(stS U w x bs).Bad then stS U w x bs else if(blS U w r bs).Bad then blS U w r bs else⟨[],false,(stS U w x bs).Tells||(blS U w r bs).Tells⟩
end
theorem Qane(U:Nm->Bool->Qfv)(w:Nm)(x:Qab)(bs:List Qaj):stS U w x bs =
  if x.Kind==8 then Qu5 else
  if hdS x.L bs&&(x.Kind==10||x.Kind==11) then⟨w,true,false⟩ else
  if(blS U w x.Then (Qad9 x.Kind x.Name (hdS x.L bs) bs)).Bad then blS U w x.Then (Qad9 x.Kind x.Name (hdS x.L bs) bs) else
  if(blS U w x.Else bs).Bad then blS U w x.Else bs else
  if(if x.Kind==13 then U x.Name (hdS x.L bs) else Qu5).Bad then U x.Name (hdS x.L bs) else
  ⟨[],false,(x.Kind==9&&hdS x.L bs)||((blS U w x.Then (Qad9 x.Kind x.Name (hdS x.L bs) bs)).Tells||((blS U w x.Else bs).Tells||(if x.Kind==13 then U x.Name (hdS x.L bs) else Qu5).Tells))⟩:=by cases x; rw[stS]
theorem Qaio{U V:Nm->Bool->Qfv}(w:Nm):∀ n (l:List Qab) (bs:List Qaj),nns l<=n->(∀ u ∈ usL l,∀ b,U u b=V u b)->blS U w l bs=blS V w l bs:=by
 intro n
 induction n with
 | zero =>
  intro l bs h _;cases l with
  | nil=>rw[blS,blS]
  | cons x r=>rw[nns] at h; have:=Qjh x; omega
 | succ n ih =>
  intro l
  induction l with
  | nil=>intro bs _ _; rw[blS,blS]
  | cons x r ihr =>
   intro bs h hU;rw[nns] at h;have e:=Qie x;have h1:∀ u ∈ usL x.Then,∀ b,U u b=V u b:=λu hu=>hU u (by rw[usL,Qgu]; simp[hu])
   have h2:∀ u ∈ usL x.Else,∀ b,U u b=V u b:=λu hu=>hU u (by rw[usL,Qgu]; simp[hu])
   have h3:∀ b,(if x.Kind==13 then U x.Name b else Qu5)=(if x.Kind==13 then V x.Name b else Qu5):=λb=>by
    split
    .rename_i hk;exact hU x.Name (by rw[usL,Qgu,if_pos hk]; simp) b
    .rfl
   have hs:stS U w x bs=stS V w x bs:=by
    rw[Qane,Qane,ih x.Then _ (by omega) h1,ih x.Else _ (by omega) h2,h3];split
    .rfl
    .split
     .rfl
     .split
      .rfl
      .split
       .rfl
       .by_cases hk:x.Kind==13
        .rw[if_pos hk,hU x.Name (by rw[usL,Qgu,if_pos hk]; simp)]
        .rw[if_neg hk]; rfl
   rw[blS,blS,hs,ihr bs (by omega) λu hu=>hU u (by rw[usL]; simp[hu])]
def itB(b:Bool):List Qaj:=[⟨[103,114,111,117,112],0,false⟩,⟨[105,116],0,b⟩]
def uF(l:List Qae):Nat->Nm->Bool->Qfv
 | 0,_,_=>Qu5
 | n+1,s,b=>blS (uF l n) s (Qif l s).1 (itB b)
def uS(l:List Qae)(s:Nm)(b:Bool):Qfv:=uF l ((reaP l s).length+1) s b
theorem Ql0{l:List Qae}{s u:Nm}(h:u ∈ usL (Qif l s).1):u ∈ suc l s:=by
 rw[<-Qail]; exact Qgt.2 h
theorem Qanf{l:List Qae}(hf:fine l):∀ n m s b,(reaP l s).length<n->(reaP l s).length<m->uF l n s b=uF l m s b
 | 0,_,_,_,h,_=>absurd h (Nat.not_lt_zero _)
 | _+1,0,_,_,_,h=>absurd h (Nat.not_lt_zero _)
 | n+1,m+1,s,b,h1,h2=>by
  rw[uF,uF];refine Qaio s _ _ _ (Nat.le_refl _) λu hu b' => ?_
  have:=Qh4 hf.closed hf.noring (Ql0 hu);exact Qanf hf n m u b' (by omega) (by omega)
theorem Qatv{l:List Qae}(hf:fine l)(s:Nm)(b:Bool):uS l s b=blS (uS l) s (Qif l s).1 (itB b):=by
 rw[uS,uF];refine Qaio s _ _ _ (Nat.le_refl _) λu hu b' => ?_
 have:=Qh4 hf.closed hf.noring (Ql0 hu);exact Qanf hf _ _ u b' (by omega) (by omega)
mutual
def goN:Qab->Prop
 | ⟨k,_,_,_,a,t,e⟩=>(k≠8->a.length=1)/\(k=13\/k=9->t=[]/\e=[])/\goL t/\goL e
def goL:List Qab->Prop
 | []=>True
 | x::r=>goN x/\goL r
end
theorem Qang(x:Qab):goN x↔(x.Kind≠8->x.L.length=1)/\(x.Kind=13\/x.Kind=9->x.Then=[]/\x.Else=[])/\goL x.Then/\goL x.Else:=by cases x; rw[goN]
theorem Qagg:∀ {l:List Qab} {x:Qab},x ∈ l->goL l->goN x
 | y::r,x,h,hg=>by
  rw[goL] at hg;rcases List.mem_cons.1 h with rfl | h
  .exact hg.1
  .exact Qagg h hg.2
theorem Qapa:∀ n (l:List Qab) (b:Bool),nns l<=n->Qbq l b=true->goL l:=by
 intro n
 induction n with
 | zero =>
  intro l b h _;cases l with
  | nil=>rw[goL]; trivial
  | cons x r=>rw[nns] at h; have:=Qjh x; omega
 | succ n ih =>
  intro l
  induction l with
  | nil=>intro _ _ _; rw[goL]; trivial
  | cons x r ihr =>
   intro b h hb;rw[nns] at h;have e:=Qie x;rw[Qbq,Bool.and_eq_true,Bool.and_eq_true] at hb;rw[goL];refine⟨?_,ihr b (by omega) hb.2.2⟩;have hs:=hb.1;rw[Qql] at hs;rw[Qang];have nilg:goL []:=by rw[goL]; trivial
   by_cases h8:x.Kind=8
   .rw[if_pos (by simpa using h8)] at hs;simp only[Bool.and_eq_true] at hs;have hT:=Qxr hs.2.2.2.2.2.1;have hE:=Qxr hs.2.2.2.2.2.2;rw[hT,hE];exact⟨λk=>absurd h8 k,λ_=>⟨rfl,rfl⟩,nilg,nilg⟩
   .rw[if_neg (by simpa using h8)] at hs;by_cases h9:x.Kind=9
    .rw[if_pos (by simpa using h9)] at hs;simp only[Bool.and_eq_true,beq_iff_eq] at hs;have hT:=Qxr hs.2.2.2.2.1;have hE:=Qxr hs.2.2.2.2.2;rw[hT,hE];exact⟨λ_=>hs.1.1,λ_=>⟨rfl,rfl⟩,nilg,nilg⟩
    .rw[if_neg (by simpa using h9)] at hs;by_cases h10:x.Kind=10
     .rw[if_pos (by simpa using h10)] at hs;simp only[Bool.and_eq_true,beq_iff_eq] at hs;exact⟨λ_=>hs.1.1,λk=>by rcases k with k | k<;>(rw[h10] at k; cases k),ih _ true (by omega) hs.2.1.1,ih _ true (by omega) hs.2.1.2⟩
     .rw[if_neg (by simpa using h10)] at hs;by_cases h11:(x.Kind==11||x.Kind==12)=true
      .rw[if_pos h11] at hs;simp only[Bool.and_eq_true,beq_iff_eq] at hs;have hE:=Qxr hs.2.2.2.2.2;rw[hE];exact⟨λ_=>hs.2.1.1,λk=>by
        rw[Bool.or_eq_true,beq_iff_eq,beq_iff_eq] at h11;omega,ih _ true (by omega) hs.2.2.1,nilg⟩
      .rw[if_neg h11] at hs;by_cases h13:x.Kind=13
       .rw[if_pos (by simpa using h13)] at hs;simp only[Bool.and_eq_true,beq_iff_eq] at hs;have hT:=Qxr hs.2.2.2.2.1;have hE:=Qxr hs.2.2.2.2.2;rw[hT,hE];exact⟨λ_=>hs.2.1.1,λ_=>⟨rfl,rfl⟩,nilg,nilg⟩
       .rw[if_neg (by simpa using h13)] at hs;cases hs
theorem Q3p{l:List Qae}(hf:fine l)(s:Nm):goL (Qif l s).1:=by
 unfold Qif;cases hq:fndT l s with
 | none=>show goL []; rw[goL]; trivial
 | some x =>
  have:=hf.fit x (List.mem_of_find?_eq_some hq);unfold fitT isP at this;simp only[Bool.and_eq_true] at this;exact Qapa _ x.L false (Nat.le_refl _) this.2.2.2
theorem Qqs{l:List Qae}(ho:okTs l)(s:Nm):nns (Qif l s).1<=100:=by
 unfold Qif;cases hq:fndT l s with
 | none=>simp[nns]
 | some x=>exact ho.nn x (List.mem_of_find?_eq_some hq)
theorem Qoz:∀ {q:List Qab} {x:Qab},x ∈ q->∀ v ∈ usN x,v ∈ usL q
 | z::q,x,hx,v,hv=>by
  rw[usL,List.mem_append];rcases List.mem_cons.1 hx with rfl | hx
  .exact .inl hv
  .exact .inr (Qoz hx v hv)
section
variable {P:Program} {tb:Tbl}
theorem Qagh{f:FuncId}{fn:Func}{c:Code}{us:Array Value}{G:Gh}{w:World}{B:Nat×Nat}{Q:Exit->St->Prop}{σ0:St}{R:Ending->World->Prop}{z:List UInt8}(hf:P.funcs[f]? = some fn)(hb:fn.body=some c)(h:T B P fn.ntmps c Q σ0)
  (hR:Rel fn.ntmps G σ0 { tmps:=us++Array.replicate (fn.ntmps-us.size) undef,defers:=[] } w)
  (hQ:∀ e G' σ' a' w', Ex B G w G' w' -> Rel fn.ntmps G' σ' a' w' -> Q e σ' -> e = .panic (Qms z)/\R (.panicked (Qms z)) w'):Calls P f us w R:=by
 refine callsIn_wide.1 (callsIn_of_wp_marks (F:=Fence.wide) (n:=0) hf hb trivial (wpIn_mono (h.out none ⟨w.heap.size,[]⟩ G _ w hR (.none rfl)) ?_));rintro e a' w' ⟨G', σ', hE,hR', hF', hq⟩;have key:∀ (Ds:List Nat) (w' : World),Ds.Nodup->Ex B G w G' w' -> Rel fn.ntmps G' σ' a' w' -> (∀ b ∈ Ds,w.heap.size<=b/\w'.heap[b]? = some (.deferred (some []))/\b ∉ G'.name/\∀ T ∈ G'.tok,¬ T.has b)->LeavesInM Fence.wide 0 P fn a'.tmps R (Ds.map Qnw) (.panicking (Qms z)) w' := by
  intro Ds
  induction Ds with
  | nil=>exact λw' _ hE hR' _=>(hQ e G' σ' a' w' hE hR' hq).2
  | cons b Ds ih =>
   intro w' hnd hE hR' hD;obtain⟨d1,d2,d3,d4⟩:=hD b (by simp);have hnb:¬ G'.has b:=λhh=>hh.elim d3 λ⟨T,hT,ht⟩=>d4 T hT ht
   have hk:Kept G'.has G'.com w' (w'.putObj b (.deferred none)):=Qh6 _ d2 (Qv7 d2) hnb;refine⟨by simp,.inl ⟨b,_,rfl,run_takeDeferred d2,ih _ (List.nodup_cons.1 hnd).2 (hE.kept hk λi hi=>World.putObj_heap_other (by omega)) (hR'.kept hk) λi hi=>?_⟩⟩;obtain⟨k1,k2,k3⟩:=hD i (by simp[hi]);refine⟨k1,?_,k3⟩;rw[World.putObj_heap_other (λ(e:i=b)=>(List.nodup_cons.1 hnd).1 (e ▸ hi))];exact k2
 obtain⟨Ds,m1,m2,m3⟩:=hF'.marks;have hl:=key Ds w' m2 hE hR' m3;rw[List.append_nil] at m1;rw[<-m1] at hl;obtain rfl:=(hQ e G' σ' a' w' hE hR' hq).1;exact hl
theorem CallPan.ofT{f:FuncId}{fn:Func}{c:Code}(hf:P.funcs[f]? = some fn)(hb:fn.body=some c)(hn:isFn P f=true){args:List D}(hN:args.length<=fn.ntmps){s s' : S}{z:List UInt8}
  (hs:s'.heap.all (λcs=>cs.all (D.lt s.heap.length s'.live.length))=true)
  (hn' : s'.heap.length=s.heap.length)
  (h:T (s.heap.length,s.live.length) P fn.ntmps c (λe σ => ∃ τ,Le (s.heap.length,s.live.length) fn.ntmps σ τ /\ (e = .panic (Qms z)/\EndR s.heap.length s.live.length s' .undef .undef τ.s)) ⟨Qv5 args 0,s⟩):CallPan P f args s z s' := by
 refine⟨hn,λG w us hI hl hrel=>?_⟩;have hR:Rel fn.ntmps G ⟨Qv5 args 0,s⟩ { tmps:=us++Array.replicate (fn.ntmps-us.size) undef,defers:=[] } w:=by
  refine⟨hI,λt d hd=>?_,by simp; omega⟩;obtain⟨h1,h2⟩:=Qo7 args 0 t d hd;have hlt:t<args.length:=(List.getElem?_eq_some_iff.1 h1).1;have hlt2:t<us.size:=by omega
  refine⟨by simp; omega,?_⟩;refine hrel t d _ h1 ?_;simp only[Array.getD_eq_getD_getElem?,Array.getElem?_append_left hlt2,Array.getElem?_eq_getElem hlt2,Option.getD_some]
 have hln:G.name.length=s.heap.length:=hI.names;have hlt:G.tok.length=s.live.length:=by rw[<-hI.live]; simp
 refine Qagh (z:=z) hf hb (T_up h λe σ' hq=>hq) hR λe G' σ' a' w' hE hR' hq=>?_
 obtain⟨he,⟨J,hJ0,h4,h5,h6⟩⟩:=hq;refine⟨he,?_⟩;unfold Qajm at hJ0;simp only[Bool.and_eq_true] at hJ0;obtain⟨⟨hJ1,hJ2⟩,hJ3⟩:=hJ0;have nJ:=Qc0 J hJ1;have bJ:=Qj8 hJ2;have lT:G'.tok.length = σ'.s.live.length:=by have:=congrArg List.length hR'.inv.live; simpa using this
 have h7:=LeH.app h5 (LeH.refl (σ'.s.heap.drop s.heap.length));rw[List.take_append_drop] at h7;have hinv1:=Inv.le (h := σ'.s.heap) (live := σ'.s.live) hR'.inv h7;have hlen:(s'.heap.map λcs=>cs.map (D.ren (List.range s.heap.length) J)).length=s.heap.length:=by rw[List.length_map]; exact hn'
 have hlJ:J.length=s'.live.length:=by rw[<-h6]; simp
 have hnl:s.heap.length<=G'.name.length:=by rw[hinv1.names]; simp only[List.length_append,hlen]; omega
 have hinv2:Inv (G'.sub (List.range s.heap.length) J) ⟨s'.heap,s'.live⟩ w' := hinv1.sub (I:=List.range s.heap.length) (J:=J) List.nodup_range nJ (λi hi=>by have:=List.mem_range.1 hi; simp only[List.length_append,hlen]; omega) bJ (by
  have:=Q15 (s'.heap.map λcs=>cs.map (D.ren (List.range s.heap.length) J)) (σ'.s.heap.drop s.heap.length) [];rw[hlen] at this;exact this) h6 (by rw[List.length_range,hlJ]; exact hs)
 have hst:Stp G w (G'.sub (List.range s.heap.length) J) w' := Qaly hE hln hlt hnl (λj hj=>by rw[lT]; exact bJ j hj) (by simpa using hJ3);exact⟨undef,_,rfl,hst,hinv2,.undef⟩
def CallS(P:Program)(f:FuncId)(args:List D)(s:S){A C:Type}(t:A->D)(ss:A->S)(zp:C->List UInt8)(sp:C->S):A⊕C->Prop
 | .inl y=>CallOK P f args s (t y) (ss y)
 | .inr y=>CallPan P f args s (zp y) (sp y)
theorem CallS.a{f:FuncId}{args:List D}{s:S}{A C:Type}{t:A->D}{ss:A->S}{zp:C->List UInt8}{sp:C->S}{y:A}(h:CallS P f args s t ss zp sp (.inl y)):CallOK P f args s (t y) (ss y):=h
theorem CallS.b{f:FuncId}{args:List D}{s:S}{A C:Type}{t:A->D}{ss:A->S}{zp:C->List UInt8}{sp:C->S}{y:C}(h:CallS P f args s t ss zp sp (.inr y)):CallPan P f args s (zp y) (sp y):=h
def retS(tb:Tbl)(rs:List ResultVar)(n m:Nat){A C:Type}(t:A->D)(ss:A->S)(zp:C->List UInt8)(sp:C->S)(o:A⊕C)(e:Exit)(τ : St):Prop :=
 match e with
 | .panic ch=>∃ y,o = .inr y/\ch=Qms (zp y)/\EndR n m (sp y) .undef .undef τ.s
 | .normal=>∃ y,o = .inl y/\retR tb rs (EndR n m (ss y) (t y)) .normal τ
 | .ret=>∃ y,o = .inl y/\retR tb rs (EndR n m (ss y) (t y)) .ret τ
 | _=>False
theorem CallS.ofB(hm:P.follows .mixedOrders=true)(hT:TblOk P tb){f:FuncId}{fn:Func}{c:Code}(lv:List (Nat×List Nat))(hf:P.funcs[f]? = some fn)(hb:fn.body=some c)(hn:isFn P f=true){args:List D}(hN:args.length<=fn.ntmps){s:S}{A C:Type}{t:A->D}{ss:A->S}{zp:C->List UInt8}{sp:C->S}{o:A⊕C}
  (hr:∀ y,(t y).lt s.heap.length (ss y).live.length=true) (hs:∀ y,(ss y).heap.all (λcs=>cs.all (D.lt s.heap.length (ss y).live.length))=true) (hn1:∀ y,(ss y).heap.length=s.heap.length)
  (hp:∀ y,(sp y).heap.all (λcs=>cs.all (D.lt s.heap.length (sp y).live.length))=true) (hn2:∀ y,(sp y).heap.length=s.heap.length)
  (h:bwp (s.heap.length,s.live.length) P tb fn.ntmps lv c (λe σ => ∃ τ,Le (s.heap.length,s.live.length) fn.ntmps σ τ /\ retS tb fn.results.toList s.heap.length s.live.length t ss zp sp o e τ) ⟨Qv5 args 0,s⟩):CallS P f args s t ss zp sp o:=by
 have hTT:=Qan hm hT c _ _ h;cases o with
 | inl y =>
  refine CallOK.ofT hT hf hb hn hN (hr y) (hs y) (hn1 y) (T_up hTT λe σ ⟨τ,h1,h2⟩=>⟨τ,h1,τ,Le.refl _ _ _,?_⟩);cases e with
  | normal=>obtain⟨y', e,h3⟩:=h2; cases e; exact h3
  | ret=>obtain⟨y', e,h3⟩:=h2; cases e; exact h3
  | panic ch=>obtain⟨y', e,h3⟩:=h2; cases e
  | _=>exact h2.elim
 | inr y =>
  refine CallPan.ofT hf hb hn hN (hp y) (hn2 y) (T_up hTT λe σ ⟨τ,h1,h2⟩=>⟨τ,h1,τ,Le.refl _ _ _,?_⟩);cases e with
  | normal=>obtain⟨y', e,h3⟩:=h2; cases e
  | ret=>obtain⟨y', e,h3⟩:=h2; cases e
  | panic ch=>obtain⟨y', e,h3,h4⟩:=h2; cases e; exact⟨by rw[h3],h4⟩
  | _=>exact h2.elim
theorem Qagi{A C:Type}{x:A}{y:A⊕C}{d:D}{u:S}{n m:Nat}{t:A->D}{ss:A->S}(h:some (.inl x)=some y)(k:EndR n m (ss x) (t x) d u):∃ z,y = .inl z/\EndR n m (ss z) (t z) d u:=by cases h; exact⟨x,rfl,k⟩
theorem Qanh{A C:Type}{x:C}{y:A⊕C}{u:S}{n m:Nat}{zp:C->List UInt8}{sp:C->S}{v:List UInt8}(h:some (.inr x)=some y)(hv:v=zp x)(k:EndR n m (sp x) .undef .undef u):∃ z,y = .inr z/\Qms v=Qms (zp z)/\EndR n m (sp z) .undef .undef u:=by cases h; exact⟨x,rfl,by rw[hv],k⟩
theorem Qx5{A C R:Type}{x:Option (A⊕C)}{f:A⊕C->Option R}{r:R}{g:FuncId}{args:List D}{s:S}(t:A->D)(ss:A->S)(zp:C->List UInt8)(sp:C->S){K:D->S->Prop}{KP:List UInt8->S->Prop}(h:(x>>=f)=some r)
  (hok:∀ y,x=some (.inl y)->CallOK P g args s (t y) (ss y)) (hpan:∀ y,x=some (.inr y)->CallPan P g args s (zp y) (sp y))
  (k:∀ y,x=some (.inl y)->f (.inl y)=some r->K (t y) (ss y)) (kp:∀ y,x=some (.inr y)->f (.inr y)=some r->KP (zp y) (sp y)) :
  (∃ r s', Qaez true P g args s r s' /\ K r s')\/(∃ z s', CallPan P g args s z s' /\ KP z s'):=by
 cases hx:x with
 | none=>rw[hx] at h; cases h
 | some o =>
  rw[hx] at h;cases o with
  | inl y=>exact .inl ⟨t y,ss y,(hok y hx).g,k y hx h⟩
  | inr y=>exact .inr ⟨zp y,sp y,hpan y hx,kp y hx h⟩
end
section
variable {P:Program} {tb:Tbl}
theorem Qaip(hT:TblOk P tb){fn:Func}{C:Nat->Nat->Prop}{w w' : World}{G' : Gh}{σ' : St}{a' : Act}(hE:Ex (0,0) ⟨λb o=>C b o/\b<w.heap.size,[],[]⟩ w G' w')(hR' : Rel fn.ntmps G' σ' a' w'){r:D}
  (hq:Qhm tb σ' fn.results.toList λds=>match retD ds with | some d=>LeD d r | none=>False) :
  ∃ v,(results fn a'.tmps).run P w' = .ok v w' /\ DRel ⟨λb o=>C b o\/w.heap.size<=b,[],[]⟩ w' r v/\Below w.heap.size w w' := by
 obtain⟨ds,us', h1,h2,h3,h4⟩:=Qf7 hT hR' _ _ hq;split at h4
 .rename_i d hd;obtain⟨k1,k2⟩:=Q7x h2 h3 hd;refine⟨if h:us'.toArray.size=1 then us'.toArray[0] else .tuple us'.toArray,?_,DRel.le ?_ h4,⟨hE.ext.os,hE.ext.tape,hE.ext.output,hE.ext.size,λk hk=>hE.ext.old k hk (by simp) (by simp)⟩⟩
  .unfold results;rw[Sem.run_bind,Array.mapM_eq_mapM_toList,Sem.run_map]
   erw [h1]
   rfl
  .have hcom:∀ b o,G'.com b o->C b o\/w.heap.size<=b:=λb o hc=>by
    rcases hE.ext.new b o hc with h | h | h | ⟨T,h,_⟩
    .exact .inl h.1
    .exact .inr h
    .simp at h
    .simp at h
   rcases k2 with ⟨x,rfl⟩ | ⟨xs,rfl⟩
   .generalize (if h:us'.toArray.size=1 then us'.toArray[0] else Value.tuple us'.toArray)=q at k1;cases k1 with
    | p _ _ k1=>exact .p _ _ (k1.mono (Nat.le_refl _) λb o u h1 h2=>⟨hcom b o h1,h2⟩)
   .generalize (if h:us'.toArray.size=1 then us'.toArray[0] else Value.tuple us'.toArray)=q at k1;cases k1 with
    | tup _ vs l1 l2 =>
     refine .tup _ _ l1 (λj c u hc hu=>?_);have:=l2 j c u hc hu;rw[List.getElem?_map] at hc;obtain⟨x,-,rfl⟩:=Option.map_eq_some_iff.1 hc;cases this with
     | p _ _ k1=>exact .p _ _ (k1.mono (Nat.le_refl _) λb o u h1 h2=>⟨hcom b o h1,h2⟩)
 .exact h4.elim
theorem PCall.ofW{f:FuncId}{fn:Func}{c:Code}(hf:P.funcs[f]? = some fn)(hb:fn.body=some c)(hn:isFn P f=true){args:List V}(hN:args.length<=fn.ntmps){r:D}
  (h:∀ (C:Nat->Nat->Prop) (w:World) (a:Act) (R:Ending->World->Prop),(∀ v w', DRel ⟨λb o=>C b o\/w.heap.size<=b,[],[]⟩ w' r v->Below w.heap.size w w' -> R (.returned v) w') ->
   Rel fn.ntmps ⟨λb o=>C b o/\b<w.heap.size,[],[]⟩ ⟨Qz7 args 0,⟨[],[]⟩⟩ a w->a.defers=[]->c.wpIn Fence.wide 0 P (bodyPostM Fence.wide 0 P fn R) a w):PCall P f args r:=by
 refine⟨hn,λC w us hgl hl hrel=>?_⟩;have hR:Rel fn.ntmps ⟨λb o=>C b o/\b<w.heap.size,[],[]⟩ ⟨Qz7 args 0,⟨[],[]⟩⟩ { tmps:=us++Array.replicate (fn.ntmps-us.size) undef,defers:=[] } w:=by
  refine⟨⟨λb o h=>⟨h.2,by simp,by simp⟩,rfl,by simp,λi b cs h=>by simp at h,rfl,λt T b h=>by simp at h,λT h=>by simp at h,hgl.mono λb o u h1 h2=>⟨⟨h1,Q1c h2⟩,h2⟩⟩,λt d hd=>?_,by simp; omega⟩;obtain⟨x,h1,h2,rfl⟩:=Qt2 args 0 t d hd;have hlt:t<args.length:=(List.getElem?_eq_some_iff.1 h1).1;have hlt2:t<us.size:=by omega
  refine⟨by simp; omega,.p x _ (DRel.lt ?_)⟩;refine hrel t x _ h1 ?_;simp only[Array.getD_eq_getD_getElem?,Array.getElem?_append_left hlt2,Array.getElem?_eq_getElem hlt2,Option.getD_some]
 exact callsIn_wide.1 (callsIn_of_wp_marks (F:=Fence.wide) (n:=0) hf hb trivial (h C w _ _ (λv w' h1 h2=>⟨v,rfl,h1,h2⟩) hR rfl))
theorem Qx6{fn:Func}{a:Act}{G:Gh}{σ : St}{R:Ending->World->Prop}{db:List Deferred}{u:FrameMode}(hu:u ≠ .run){lo:Nat}{B:Nat×Nat}{G0:Gh}{w0:World}
  (h:∀ w', Ex B G0 w0 G w' -> Rel fn.ntmps G σ a w' -> LeavesInM Fence.wide 0 P fn a.tmps R db u w') {w:World} (hF:Fr none ⟨lo,db⟩ G a w) (hlo:w0.heap.size<=lo) (hE:Ex B G0 w0 G w) (hR:Rel fn.ntmps G σ a w):LeavesInM Fence.wide 0 P fn a.tmps R a.defers u w:=by
 have key:∀ (Ds:List Nat) (w' : World),Ds.Nodup->Ex B G0 w0 G w' -> Rel fn.ntmps G σ a w' -> (∀ b ∈ Ds,lo<=b/\w'.heap[b]? = some (.deferred (some []))/\b ∉ G.name/\∀ T ∈ G.tok,¬ T.has b)->LeavesInM Fence.wide 0 P fn a.tmps R (Ds.map Qnw++db) u w' := by
  intro Ds
  induction Ds with
  | nil=>exact λw' _ hE hR' _=>h w' hE hR'
  | cons b Ds ih =>
   intro w' hnd hE hR' hD;obtain⟨d1,d2,d3,d4⟩:=hD b (by simp);have hnb:¬ G.has b:=λhh=>hh.elim d3 λ⟨T,hT,ht⟩=>d4 T hT ht
   have hk:Kept G.has G.com w' (w'.putObj b (.deferred none)):=Qh6 _ d2 (Qv7 d2) hnb;refine⟨hu,.inl ⟨b,_,rfl,run_takeDeferred d2,ih _ (List.nodup_cons.1 hnd).2 (hE.kept hk λi hi=>World.putObj_heap_other (by omega)) (hR'.kept hk) λi hi=>?_⟩⟩;obtain⟨k1,k2,k3⟩:=hD i (by simp[hi]);refine⟨k1,?_,k3⟩;rw[World.putObj_heap_other (λ(e:i=b)=>(List.nodup_cons.1 hnd).1 (e ▸ hi))];exact k2
 obtain⟨Ds,m1,m2,m3⟩:=hF.marks;have hl:=key Ds w m2 hE hR m3;rw[<-m1] at hl;exact hl
def Qart(hid:Nat):Code->Bool
 | .region id _ _=>id==hid
 | _=>false
def bwpH(B:Nat×Nat)(P:Program)(tb:Tbl)(N:Nat)(lv:List (Nat×List Nat))(hid:Nat):Code->(Exit->St->Prop)->(St->Prop)->St->Prop
 | .seq x y,Q,K,σ => match Qart hid x with
  | true=>K σ
  | false=>bwp B P tb N lv x (λe σ' => match e with | .normal=>bwpH B P tb N lv hid y Q K σ' | e=>Q e σ') σ
 | c,Q,_,σ => bwp B P tb N lv c Q σ
def Qagj(hid:Nat):Code->Code
 | .seq x y=>match Qart hid x with
  | true =>.seq x y
  | false=>Qagj hid y
 | c=>c
theorem Qaj6(hm:P.follows .mixedOrders=true)(hT:TblOk P tb){B:Nat×Nat}{N:Nat}{lv:List (Nat×List Nat)}{hid:Nat}{Post:Exit->Act->World->Prop}{rd:Option Nat}{lo:Lo}{G0:Gh}{w0:World}{Q:Exit->St->Prop}{K:St->Prop}
  (hQ:∀ e G' σ' a' w', Ex B G0 w0 G' w' -> Rel N G' σ' a' w' -> Fr rd lo G' a' w' -> Q e σ' -> Post e a' w') :
  ∀ (c:Code) (σ : St) (G:Gh) (a:Act) (w:World),bwpH B P tb N lv hid c Q K σ -> Ex B G0 w0 G w->Rel N G σ a w->Fr rd lo G a w ->
   (∀ G' σ' a' w', Ex B G0 w0 G' w' -> Rel N G' σ' a' w' -> Fr rd lo G' a' w' -> K σ' -> (Qagj hid c).wpIn (FW rd) 0 P Post a' w')->c.wpIn (FW rd) 0 P Post a w:=by
 have base:∀ (c:Code) (σ : St) (G:Gh) (a:Act) (w:World),bwp B P tb N lv c Q σ -> Ex B G0 w0 G w->Rel N G σ a w->Fr rd lo G a w->c.wpIn (FW rd) 0 P Post a w:=λc σ G a w h hE hR hF =>
  wpIn_mono ((Qan hm hT c _ _ h).out rd lo G a w hR hF) λe a' w' ⟨G', σ', e1,r1,f1,q1⟩=>hQ e G' σ' a' w' (hE.trans e1) r1 f1 q1
 intro c
 induction c with
 | seq x y ihx ihy =>
  intro σ G a w h hE hR hF hK;unfold bwpH at h;unfold Qagj at hK;cases hx:Qart hid x with
  | true =>
   rw[hx] at h hK;exact hK G σ a w hE hR hF h
  | false =>
   rw[hx] at h hK;refine wpIn_seq (wpIn_mono ((Qan hm hT x _ _ h).out rd lo G a w hR hF) λe a' w' ⟨G', σ', e1,r1,f1,q1⟩=>?_);cases e with
   | normal=>exact ihy σ' G' a' w' q1 (hE.trans e1) r1 f1 hK
   | exit id=>exact hQ _ G' σ' a' w' (hE.trans e1) r1 f1 q1
   | goto l=>exact hQ _ G' σ' a' w' (hE.trans e1) r1 f1 q1
   | ret=>exact hQ _ G' σ' a' w' (hE.trans e1) r1 f1 q1
   | panic ch=>exact hQ _ G' σ' a' w' (hE.trans e1) r1 f1 q1
   | outgrown=>exact hQ _ G' σ' a' w' (hE.trans e1) r1 f1 q1
 | _=>intro σ G a w h hE hR hF hK; exact base _ σ G a w h hE hR hF
theorem Q7c(hT:TblOk P tb){B:Nat×Nat}{N id:Nat}{ops:Array Oper}{Q:Exit->St->Prop}{σ : St}(h:bwp B P tb N [] (.region id ops false) Q σ){rd:Option Nat}{G:Gh}{a:Act}{w:World}(hR:Rel N G σ a w) :
  (Code.region id ops false).wpIn (FW rd) 0 P (λe a' w' => ∃ G' σ', Ex B G w G' w' /\ Rel N G' σ' a' w' /\ a'.defers=a.defers/\Q e σ') a w:=by
 have h:rwp P tb N [] id ops false (Q .normal) σ := h;unfold rwp at h;rw[Q7w] at h;have h:bOps true P tb N ops.toList (List.range ops.toList.length) σ λσ' => Q .normal (keep none σ'):=h
 have hops:ops.toList.toArray=ops:=by simp
 refine wpIn_region ?_;have:=Qt3 hT (rd:=rd) (ops:=ops.toList) (Q:=λe a' w' => ∃ G' σ', Ex B G w G' w' /\ Rel N G' σ' a' w' /\ a'.defers=a.defers/\Q e σ') (G0:=G) (w0:=w) (ds:=a.defers) (λa' w' G' σ' hE hR' hd hK=>⟨G', _,hE,Qg9 hR' _,hd,hK⟩) _ σ a w G (.refl B G w) hR rfl h;rw[hops] at this;simpa using this
theorem Q7d{G:Gh}{w:World}{a:Act}:EnvRel G w [] a:=λt d h=>by simp at h
theorem Qku{G:Gh}{w:World}{a:Act}{t:Nat}{d:D}{env:List (Nat×D)}(h:t<a.tmps.size/\DRel G w d (a.tmps.getD t undef))(k:EnvRel G w env a):EnvRel G w ((t,d)::env) a:=λt' d' hl=>by
 rw[List.lookup_cons] at hl;split at hl
 .rename_i he;cases hl;have:t' = t:=by simpa using he
  subst this;exact h
 .exact k t' d' hl
end
def sndC:Code->Code
 | .seq _ y=>y
 | c=>c
def fstC:Code->Code
 | .seq x _=>x
 | c=>c
def Qaiq:Code->Array Oper
 | .region _ ops _=>ops
 | _ => #[]
def Qagk:Array Oper:=Qaiq (fstC (sndC (sndC (Tryz.f66.body.getD .skip))))
def infY:Code:=sndC (sndC (sndC (Tryz.f66.body.getD .skip)))
def Qavb:Array Oper:=Qaiq (fstC (fstC infY))
def Qavc:Array Oper:=Qaiq (sndC infY)
theorem Qagl(u0 u1:Value)(w:World){R:Ending->FrameMode->World->Prop}(h:R (.returned (.tuple #[])) .returning w) :
  CallsDIn Fence.wide 0 Tryz.prog 66 #[u0,u1] .returning w R:=by
 refine callsDIn_of_wpSIn Tryz.func66 rfl trivial λc₀ cs hu=>?_
 apply wpSIn_seq;apply wpSIn_region;simp[wpOpsSIn,go_sem,recoverD,hu,Tryz.ntmps66,Exit.thenS];apply wpSIn_seq;apply wpSIn_seq;apply wpSIn_region;simp[wpOpsSIn,go_sem,Exit.thenS];refine wpSIn_cond (t:=true) (by simp[Act.eval,Array.replicate]) ?_;simp only[if_true];refine wpSIn_of_wpIn rfl (wpIn_ret ?_);cases c₀;simp_all [bodyPostS,results,Tryz.results66,Exit.thenS]
theorem Qapb(z:List UInt8)(w:World):(Instr.typeAssert (.iface 88 (.agg #[Qd4 z])) 20 88 true).run Tryz.prog w = .ok (.tuple #[.agg #[Qd4 z],.bool true]) w:=by
 kernel_rfl
theorem Qaj7(u0 u1:Value)(z:List UInt8)(w:World){R:Ending->FrameMode->World->Prop}
  (h5:∀ (Q:Exit->Act->World->Prop) (a:Act),a.tmps.size=18->a.tmps[0]? = some u0->a.tmps[1]? = some u1->a.tmps[11]? = some (.agg #[Qd4 z])->a.tmps[12]? = some (.bool true)->a.defers=[] ->
   (∀ a2 w2,infY.wpIn Fence.wide 0 Tryz.prog (λe a3 w3=>e = .normal/\a3.defers=[]/\R (.returned (.tuple #[])) (.panicking [{ v :=.iface 88 (.agg #[Qd4 z]),recovered:=true }]) w3) a2 w2->Q .normal a2 w2) ->
   wpOpsIn Fence.wide 0 Tryz.prog Qagk Q [5,6,7] a w) :
  CallsDIn Fence.wide 0 Tryz.prog 66 #[u0,u1] (.panicking (Qms z)) w R:=by
 refine callsDIn_of_wpSIn Tryz.func66 rfl trivial λc₀ cs hu=>?_
 apply wpSIn_seq;apply wpSIn_region;simp[wpOpsSIn,go_sem,recoverD,hu,Qms,Tryz.ntmps66,Exit.thenS];apply wpSIn_seq;apply wpSIn_seq;apply wpSIn_region;simp[wpOpsSIn,go_sem,Exit.thenS];refine wpSIn_cond (t:=false) (by simp[Act.eval,Array.replicate]) ?_;simp only[Bool.false_eq_true,if_false];refine wpSIn_of_wpIn rfl (wpIn_skip ?_);simp only[Exit.thenS];refine wpSIn_of_wpIn rfl (wpIn_seq (wpIn_region ?_));obtain⟨L,hL⟩:∃ L,L=[5,6,7]:=⟨_,rfl⟩;show wpOpsIn Fence.wide 0 Tryz.prog Qagk _ (0::1::2::3::4::[5,6,7]) _ _;rw[<-hL];simp[Qagk,Qaiq,fstC,sndC,Tryz.f66,wpOpsIn,go_sem,Qapb];subst hL;refine h5 _ _ ?_ ?_ ?_ ?_ ?_ rfl ?_
 .simp
 .simp
 .simp
 .simp
 .simp
 intro a2 w2 h;refine wpIn_mono h ?_;rintro e a3 w3 ⟨rfl,hd,hr⟩;refine⟨hd,.panicking [{ v :=.iface 88 (.agg #[Qd4 z]),recovered:=true }],rfl,.tuple #[],?_,hr⟩;exact results_none rfl _ _ _
theorem Qagm(a:Act)(w:World)(hs:a.tmps.size=42){Post:Exit->Act->World->Prop} (h:(sndC (Qagj 7 (Tryz.f35.body.getD .skip))).wpIn Fence.wide 0 Tryz.prog Post
  { tmps:=a.tmps.setIfInBounds 30 (.func (.func 66) #[] #[a.tmps.getD 6 undef,a.tmps.getD 7 undef]),defers:={ target :=.fn (.func 66) #[a.tmps.getD 6 undef,a.tmps.getD 7 undef],args := #[] }::a.defers } w) :
  (Qagj 7 (Tryz.f35.body.getD .skip)).wpIn Fence.wide 0 Tryz.prog Post a w:=by
 refine wpIn_seq (wpIn_region ?_);obtain⟨X,hX⟩:∃ X,X=sndC (Qagj 7 (Tryz.f35.body.getD .skip)):=⟨_,rfl⟩;rw[<-hX] at h;simp[hs] at h;rw[hX] at h;simp[wpOpsIn,go_sem,hs];exact h
def infQ (r:D) (e:Exit) (τ : St):Prop:=match e with
 | .ret=>Qhm tb τ Tryz.f35.results.toList λds=>match retD ds with | some d=>LeD d r | none=>False
 | .panic ch=>∃ z,ch=Qms z /\ τ.env.lookup 6=some (.ptr 0 0) /\ τ.env.lookup 7=some (.ptr 1 0) /\ τ.s.heap.length=4 /\ τ.s.live.length=0 /\
  bOps true Tryz.prog tb 18 Qagk.toList [5,6,7] ⟨[(0,.ptr 0 0),(1,.ptr 1 0),(11,.p (.agg [sV z])),(12,.p (bV true))],τ.s⟩ λυ => bwp (4,0) Tryz.prog tb 18 [] (.region 3 Qavb false) (λe χ => e = .normal/\ev χ.env (.tmp 14)=some (.p (bV false)) /\
   bwp (4,0) Tryz.prog tb 18 [] (.region 5 Qavc false) (λe ψ => e = .normal/\Qhm tb ⟨[(6,.ptr 0 0),(7,.ptr 1 0)],ψ.s⟩ Tryz.f35.results.toList λds=>match retD ds with | some d=>LeD d r | none=>False) χ) υ
 | _=>False
def infK (lv:List (Nat×List Nat)) (r:D) (σ : St):Prop :=
 σ.env.lookup 6=some (.ptr 0 0) /\ σ.env.lookup 7=some (.ptr 1 0) /\ σ.env.lookup 30=none /\ σ.s.heap.length=2 /\ σ.s.live.length=0 /\
  bwp (2,0) Tryz.prog tb 42 lv (sndC (Qagj 7 (Tryz.f35.body.getD .skip))) (infQ r) σ
theorem Qani{args:List V}(hargs:args.length=3){r:D}{lv:List (Nat×List Nat)}
  (h:bwpH (0,0) Tryz.prog tb 42 lv 7 (Tryz.f35.body.getD .skip) (retQ tb Tryz.f35.results.toList λd=>LeD d r) (infK lv r) ⟨Qz7 args 0,⟨[],[]⟩⟩):PCall Tryz.prog 35 args r:=by
 refine PCall.ofW Tryz.func35 rfl (by kernel_rfl) (by rw[hargs]; exact Nat.le_of_ble_eq_true rfl) λC w a R hRR hR hd=>?_
 refine Qaj6 (rd:=none) (lo:=⟨w.heap.size,[]⟩) (w0:=w) mixed tbOk (Q:=retQ tb Tryz.f35.results.toList λd=>LeD d r) (K:=infK lv r) (λe G' σ' a' w' hE hR' hF' hq=>?_) _ _ _ a w h (.refl _ _ w) hR (.none hd) ?_
 .have key:∀ (hq:Qhm tb σ' Tryz.f35.results.toList λds=>match retD ds with | some d=>LeD d r | none=>False),LeavesInM Fence.wide 0 Tryz.prog Tryz.f35 a'.tmps R a'.defers .returning w' := λhq =>
   Qx6 (u :=.returning) (by simp) (λw3 hE3 hR3=>by
    obtain⟨v,h1,h2,h3⟩:=Qaip tbOk hE3 hR3 hq;exact⟨v,h1,hRR v w3 h2 h3⟩) hF' (Nat.le_refl _) hE hR'
  cases e with
  | normal=>exact key hq
  | ret=>exact key hq
  | _=>exact hq.elim
 .rintro G1 σ1 a1 w1 hE1 hR1 hF1 ⟨k6,k7,k30,hl,hv,hb⟩;have v6:=hR1.env 6 _ k6;have v7:=hR1.env 7 _ k7;refine Qagm a1 w1 hR1.size ?_;obtain⟨Ds0,m1,m2,m3⟩:=hF1.marks;rw[List.append_nil] at m1;rw[m1];generalize hu6:a1.tmps.getD 6 undef=u6 at v6 ⊢;generalize hu7:a1.tmps.getD 7 undef=u7 at v7 ⊢;have hn1:G1.name.length=2:=hR1.inv.names.trans hl;have ht1:G1.tok.length=0:=by have:=congrArg List.length hR1.inv.live; simp at this; omega
  obtain⟨d,hdd⟩:∃ d:Deferred,d={ target :=.fn (.func 66) #[u6,u7],args := #[] }:=⟨_,rfl⟩;rw[<-hdd];generalize hfv:(Value.func (Fn.func 66) #[] #[u6,u7])=fv;have ek:∀ t,t≠30->(a1.tmps.setIfInBounds 30 fv).getD t undef=a1.tmps.getD t undef:=λt ht=>by
   simp only[Array.getD_eq_getD_getElem?,Array.getElem?_setIfInBounds,if_neg (λe:30=t=>ht e.symm)]
  have es:∀ {t:Nat},t<a1.tmps.size->t<(a1.tmps.setIfInBounds 30 fv).size:=λh=>by simpa using h
  have hRr:Rel Tryz.f35.ntmps G1 σ1 { tmps:=a1.tmps.setIfInBounds 30 fv,defers:=d::Ds0.map Qnw } w1 :=
   ⟨hR1.inv,λt x hx=>by
    have ht:t≠30:=λe=>by rw[e,k30] at hx; cases hx
    have:=hR1.env t x hx;exact⟨es this.1,by rw[ek t ht]; exact this.2⟩,by simpa using hR1.size⟩
  have hFr:Fr none ⟨w1.heap.size,d::Ds0.map Qnw⟩ G1 { tmps:=a1.tmps.setIfInBounds 30 fv,defers:=d::Ds0.map Qnw } w1:=⟨⟨[],rfl,List.nodup_nil,λ_ h=>(nomatch h)⟩,λ_ h=>(nomatch h),Nat.le_refl _⟩;refine wpIn_mono ((Qan mixed tbOk _ _ _ hb).out none ⟨w1.heap.size,d::Ds0.map Qnw⟩ G1 _ w1 hRr hFr) ?_;rintro e a2 w2 ⟨G2,σ2,hE2,hR2,hF2,hq2⟩;have fin:∀ (G4:Gh) (τ : St) (w4:World),Ex (2,0) G1 w1 G4 w4->Rel Tryz.f35.ntmps G4 τ a2 w4->(Qhm tb τ Tryz.f35.results.toList λds=>match retD ds with | some d=>LeD d r | none=>False) ->
    LeavesInM Fence.wide 0 Tryz.prog Tryz.f35 a2.tmps R (Ds0.map Qnw) .returning w4:=λG4 τ w4 hE4 hR4 hq=>by
   refine Qx6 (a:={ a2 with defers:=Ds0.map Qnw }) (lo:=w.heap.size) (db:=[]) (σ := τ) (u :=.returning) (B:=(0,0)) (w0:=w) (by simp) (λw5 hE5 hR5=>?_) ⟨⟨Ds0,(List.append_nil _).symm,m2,λb hb=>⟨(m3 b hb).1,hE4.ext.stays (m3 b hb).2.1 (m3 b hb).2.2.1 (m3 b hb).2.2.2⟩⟩,λ_ h=>(nomatch h),Nat.le_trans hF1.size hE4.ext.size⟩ (Nat.le_refl _) (hE1.trans (hE4.le (Nat.zero_le _) (Nat.zero_le _))) ⟨hR4.inv,hR4.env,hR4.size⟩;obtain⟨v,h1,h2,h3⟩:=Qaip tbOk hE5 hR5 hq;exact⟨v,h1,hRR v w5 h2 h3⟩
  have inv0:∀ w3:World,(invoke d.target d.args).run Tryz.prog w3 = .ok (.enter 66 #[u6,u7]) w3:=λw3=>by subst hdd; simp[go_sem]
  cases e with
  | ret =>
   refine Qx6 (u :=.returning) (B:=(2,0)) (by simp) (λw3 hE3 hR3=>?_) hF2 (Nat.le_refl _) hE2 hR2;refine⟨by simp,.inr ⟨λh=>(nomatch h),_,_,66,#[u6,u7],by rw[hdd],inv0 w3,λ_ _=>trivial,?_⟩⟩;exact Qagl u6 u7 w3 (fin G2 σ2 w3 hE3 hR3 hq2)
  | panic ch =>
   obtain⟨z,rfl,l6,l7,hl2,hv2,hc⟩:=hq2;refine Qx6 (u :=.panicking (Qms z)) (B:=(2,0)) (by simp) (λw3 hE3 hR3=>?_) hF2 (Nat.le_refl _) hE2 hR2;refine⟨by simp,.inr ⟨λh=>(nomatch h),_,_,66,#[u6,u7],by rw[hdd],inv0 w3,λ_ _=>trivial,?_⟩⟩;refine Qaj7 u6 u7 z w3 λQ a hsz t0 t1 t11 t12 hd' hQ=>?_
   have hI3:=hR3.inv;have hst:Stp G1 w1 G2 w3:=hE3.stp (by omega) (by omega);have eg:∀ {t:Nat} {u:Value},a.tmps[t]? = some u->a.tmps.getD t undef=u:=λh=>by simp only[Array.getD_eq_getD_getElem?,h,Option.getD_some]
   have hn2:G2.name.length=4:=hI3.names.trans hl2;have ht2:G2.tok.length=0:=by have:=congrArg List.length hI3.live; simp at this; omega
   have hRc:Rel 18 G2 ⟨[(0,.ptr 0 0),(1,.ptr 1 0),(11,.p (.agg [sV z])),(12,.p (bV true))],σ2.s⟩ a w3 :=
    ⟨hI3,Qku ⟨by omega,by rw[eg t0]; exact v6.2.mono hst⟩ (Qku ⟨by omega,by rw[eg t1]; exact v7.2.mono hst⟩ (Qku ⟨by omega,by
     rw[eg t11];refine .p _ _ (.agg [sV z] #[Qd4 z] rfl (λj c u hc hu=>?_) λj c u hc hu=>?_)
     .match j,hu with
      | 0,hu=>cases hu; rfl
     .match j,hc,hu with
      | 0,hc,hu=>cases hc; cases hu; exact .v _ rfl⟩ (Qku ⟨by omega,by rw[eg t12]; exact .p _ _ (.v _ rfl)⟩ Q7d))),hsz⟩
   have hops:Qagk.toList.toArray=Qagk:=by simp
   have:=Qt3 tbOk (rd:=none) (ops:=Qagk.toList) (Q:=Q) (B:=(4,0)) (G0:=G2) (w0:=w3) (ds:=a.defers) (λa' w' G' σ' hE' hR' hd2 hK=>hQ a' w' (wpIn_seq (wpIn_seq (wpIn_mono (Q7c (rd:=none) tbOk hK hR') ?_)))) [5,6,7] _ a w3 G2 (.refl (4,0) G2 w3) hRc rfl hc
   .rw[hops] at this;exact this
   .rintro e a4 w4 ⟨G4,σ4,hE4,hR4,hd4,rfl,h14,hq4⟩;have e14:a4.eval (.tmp 14) = .bool false:=by
     have:=Qvc hR4.env _ _ h14;generalize a4.eval (.tmp 14)=q at this;cases this with
     | p _ _ k=>cases k; rfl
    refine wpIn_cond (t:=false) e14 ?_;simp only[Bool.false_eq_true,if_false];refine wpIn_skip ?_;simp only[Exit.then];refine wpIn_mono (Q7c (rd:=none) tbOk hq4 hR4) ?_;rintro e a5 w5 ⟨G5,σ5,hE5,hR5,hd5,rfl,hq5⟩;refine⟨rfl,hd5.trans (hd4.trans (hd2.trans hd')),?_⟩;have hE6:Ex (4,0) G2 w3 G5 w5:=(hE'.trans hE4).trans hE5;have hst5:Stp G2 w3 G5 w5:=hE6.stp (by omega) (by omega);have x6:=hR3.env 6 _ l6;have x7:=hR3.env 7 _ l7;exact fin G5 ⟨[(6,.ptr 0 0),(7,.ptr 1 0)],σ5.s⟩ w5 (hE3.trans (hE6.le (by decide) (by decide))) ⟨hR5.inv,Qku ⟨x6.1,x6.2.mono hst5⟩ (Qku ⟨x7.1,x7.2.mono hst5⟩ Q7d),hR3.size⟩ hq5
  | _=>exact hq2.elim
def kn:List (List UInt8):=[[],[116,101,120,116],[110,117,109,98,101,114],[116,114,117,116,104],[112,97,105,114],[97,108,101,114,116],[103,114,111,117,112],[116,101,120,116,115],[112,97,105,114,115],[97,108,101,114,116,115]]
def Q0l(k:Int):List UInt8:=if k<0\/10<=k then [] else kn.getD k.toNat []
theorem Qaru(n:Nat)(hn:n<10):([Value.string { data := #[] },Value.string { data := #[116,101,120,116] },Value.string { data := #[110,117,109,98,101,114] },Value.string { data := #[116,114,117,116,104] },Value.string { data := #[112,97,105,114] },Value.string { data := #[97,108,101,114,116] },Value.string { data := #[103,114,111,117,112] },Value.string { data := #[116,101,120,116,115] },Value.string { data := #[112,97,105,114,115] },Value.string { data := #[97,108,101,114,116,115] }]:List Value)[n]'hn = .string ⟨(Q0l n).toArray⟩:=by
 match n,hn with
 | 0,_=>rfl
 | 1,_=>rfl
 | 2,_=>rfl
 | 3,_=>rfl
 | 4,_=>rfl
 | 5,_=>rfl
 | 6,_=>rfl
 | 7,_=>rfl
 | 8,_=>rfl
 | 9,_=>rfl
 | n+10,h=>omega
set_option maxHeartbeats 2000000 in
theorem Qapc(k:Int)(w:World) :
  Calls Tryz.prog 118 #[.int .i64 k] w λe w' => e = .returned (.string ⟨(Q0l k).toArray⟩)/\Below w.heap.size w w' := by
 by_cases h:k<0\/10<=k
 .have hr:Q0l k=[]:=by rw[Q0l,if_pos h]
  rw[hr]; clear hr
  go_enter Tryz.func118,Tryz.ntmps118
  go_wp2
  all_goals
   go_ret
   exact⟨rfl,(Below.refl _ _).alloc (Nat.le_refl _) _⟩
 .obtain⟨n,rfl⟩:=Int.eq_ofNat_of_zero_le (by omega:0<=k);have hn:n<10:=by omega
  have hx:=Qaru n hn;clear h
  go_enter Tryz.func118,Tryz.ntmps118
  go_wp2
  all_goals
   go_ret
   exact⟨rfl,(Below.refl _ _).alloc (Nat.le_refl _) _⟩
theorem Qapd(k:Int):PCall Tryz.prog 118 [.v (.int .i64 k)] (.p (sV (Q0l k))):=by
 refine PCall.ofCallsG (by kernel_rfl) (λ_ _ =>.p _ _ (.v _ rfl)) λw us _ hs h=>?_
 obtain⟨x,rfl⟩:=us1 hs;obtain⟨_,h0⟩:=h 0 _ x rfl rfl;rw[Qact h0];exact Qapc k w
end Go.Proofs.YtfgegilhjlnohaaGreat
end
