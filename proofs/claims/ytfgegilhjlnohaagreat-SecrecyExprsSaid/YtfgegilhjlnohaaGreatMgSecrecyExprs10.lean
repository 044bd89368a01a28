/- The proof's texts, part 10 of 12: the walks by a logic in which data are by value, the plain laws, and at the end the law, for every input. -/
import Derived.Test.YtfgegilhjlnohaaGreatMgSecrecyExprs9

noncomputable section
set_option linter.unusedVariables false
set_option linter.unusedSimpArgs false
set_option maxRecDepth 100000
set_option maxHeartbeats 4000000
namespace Go.Proofs.YtfgegilhjlnohaaGreat
open Go.RowKit
structure Qah where
 Name:(List UInt8)
 K:Int
 Secret:Bool
def Qal (x:Qah):List V:=[sV x.Name,iV x.K,bV x.Secret]
structure Qco where
 Where:(List UInt8)
 Bad:Bool
 Tells:Bool
structure Qaf where
 name_:(List UInt8)
 it_:Bool
def Qan (x:Qaf):List V:=[sV x.name_,bV x.it_]
structure Qai where
 Kind:Int
 Text:(List UInt8)
 N:Int
 From:Int
 To:Int
def Qag (x:Qai):List V:=[iV x.Kind,sV x.Text,iV x.N,iV x.From,iV x.To]
def Qv3 (y:Int×Bool):D :=.tup [.p (iV y.1),.p (bV y.2)]
def Qju (y:(List Qai)×Int×Int):D :=.tup [.p (.sl false (y.1.map Qag)),.p (iV y.2.1),.p (iV y.2.2)]
def Qof:List (Nat×List Nat):=[(0,[0]),(1,[0,12]),(2,[2,3,4]),(3,[0,5]),(4,[0,5,6]),(5,[0,5,6,17]),(6,[0,5,6,7]),(7,[0,5,6,7,23]),(8,[0,5,7]),(9,[0,5,7,37]),(10,[2,3,4]),(11,[0,5,7]),(12,[0,5,6]),(13,[0,5,6,52]),(14,[0,5,6]),(15,[0,5,6]),(16,[0,5,6,62]),(17,[2,3,4]),(18,[0,5,6,8,9]),(19,[0,5,6,8,71]),(20,[2,3,4]),(21,[0,5,8]),(22,[0,5,6,8]),(23,[0,5,6,81]),(24,[2,3,4]),(1000005,[0,5,6]),(1000015,[0,5,6]),(2007005,[]),(2013005,[])]
def Qyy (p0:(List UInt8)) (x4:Int) (o5:(List Qai)):St:=⟨[(0,.p (sV p0)),(5,.own 0 147 5 (o5.map Qag)),(7,.p (iV x4))],⟨[],[(o5.map Qag).length]⟩⟩
def Qyz (p0:(List UInt8)) (x8:(List Qai)) (o10:Int):St:=⟨[(0,.p (sV p0)),(5,.own 0 147 5 (x8.map Qag)),(6,.p (iV o10))],⟨[],[(x8.map Qag).length]⟩⟩
def Qkd (p0:(List UInt8)) (v5_:(List Qai)) (v6_:Int):St:=⟨[(0,.p (sV p0)),(5,.own 0 147 5 (v5_.map Qag)),(6,.p (iV v6_))],⟨[],[(v5_.map Qag).length]⟩⟩
def Qo0 (p0:(List UInt8)) (y14:(List Qai)×Int):St:=⟨[(0,.p (sV p0)),(5,.own 0 147 5 (y14.1.map Qag)),(6,.p (iV y14.2))],⟨[],[(y14.1.map Qag).length]⟩⟩
def Qo1 (p0:(List UInt8)) (y15:Int):St:=⟨[(2,.p (.sl true [])),(3,.p (iV y15)),(4,.p (iV 7))],⟨[],[]⟩⟩
def Qy0:Code:=((Qa3 (Tryz.f115.body.getD .skip)).getD 1 .skip)
def Qke (p0:(List UInt8)) (v5:(List Qai)) (v6:Int):St:=⟨[(0,.p (sV p0)),(5,.own 0 147 5 (v5.map Qag)),(6,.p (iV v6))],⟨[],[(v5.map Qag).length]⟩⟩
def Qo2 (p0:(List UInt8)) (y2:(List Qai)):St:=⟨[(5,.own 0 147 5 (y2.map Qag))],⟨[],[(y2.map Qag).length]⟩⟩
def Qo3 (p0:(List UInt8)) (y3:(List Qai)×Int×Int):St:=⟨[(2,.p (.sl false (y3.1.map Qag))),(3,.p (iV y3.2.1)),(4,.p (iV y3.2.2))],⟨[],[]⟩⟩
def Qy1:Code:=((Qa3 (Tryz.f115.body.getD .skip)).getD 0 .skip)
def Qsx (y:Bool):D :=.p (bV y)
def Q61:List (Nat×List Nat):=[(0,[0]),(1,[2]),(3000001,[])]
def Q0q  (o1:Bool):St:=⟨[(2,.p (bV o1))],⟨[],[]⟩⟩
def Ql9 (y:Int):D :=.p (iV y)
def Qty:List (Nat×List Nat):=[(0,[0,1]),(1,[0,1,14]),(2,[0,1]),(3,[4]),(1000001,[0,1]),(3000001,[])]
def Qy2 (p0:(List UInt8)) (v1:Int) (o2:Bool):St:=⟨[(0,.p (sV p0)),(1,.p (iV v1)),(14,.p (bV o2))],⟨[],[]⟩⟩
def Qkf (p0:(List UInt8)) (v1:Int):St:=⟨[(0,.p (sV p0)),(1,.p (iV v1))],⟨[],[]⟩⟩
def Qo4 (p0:(List UInt8)) (o1:Int):St:=⟨[(1,.p (iV o1))],⟨[],[]⟩⟩
def Qy3:Code:=((Qa3 (Tryz.f140.body.getD .skip)).getD 0 .skip)
def Qrc (y:Int):D :=.p (iV y)
def Qy4:List (Nat×List Nat):=[(0,[0,1,2]),(1,[0,1,2,17]),(2,[0,1,2]),(3,[6]),(1000001,[0,1,2]),(3000001,[])]
def Q3y (p0:(List UInt8)) (p1:(List UInt8)) (v2:Int) (o2:Bool):St:=⟨[(0,.p (sV p0)),(1,.p (sV p1)),(2,.p (iV v2)),(17,.p (bV o2))],⟨[],[]⟩⟩
def Qmt (p0:(List UInt8)) (p1:(List UInt8)) (v2:Int):St:=⟨[(0,.p (sV p0)),(1,.p (sV p1)),(2,.p (iV v2))],⟨[],[]⟩⟩
def Qsc (p0:(List UInt8)) (p1:(List UInt8)) (o1:Int):St:=⟨[(2,.p (iV o1))],⟨[],[]⟩⟩
def Q3z:Code:=((Qa3 (Tryz.f139.body.getD .skip)).getD 0 .skip)
def Qjv (y:Qai×Bool):D :=.tup [.p (.agg [iV y.1.Kind,sV y.1.Text,iV y.1.N,iV y.1.From,iV y.1.To]),.p (bV y.2)]
def Qrd:List (Nat×List Nat):=[(0,[0,1,4]),(1,[0,1,4,6]),(2,[0,1,4,6,7]),(3,[0,1,4,6,7,24]),(4,[1,4,6]),(5,[4,6]),(6,[4,5]),(7,[0,1,4,6,7,8]),(8,[0,1,4,6,7,8,9]),(9,[0,1,4,6,7,8,9,33]),(10,[0,1,4,6,7,8,9]),(11,[0,1,4,6,7,8,9,40]),(12,[4,6]),(13,[4,5]),(14,[0,1,4,6,7,48]),(15,[1,4,10,11]),(16,[4,5]),(17,[0,1,4,6,7,12]),(18,[0,1,4,6,7,12,64]),(19,[0,1,4,12,86]),(20,[0,1,4,12]),(21,[4,5]),(22,[0,1,4,6,12,106]),(23,[0,1,4,12,116]),(24,[0,1,4,12]),(25,[1,4,12,13,14]),(26,[4,5]),(27,[4,5]),(1000009,[0,1,4,6,7,8,9]),(1000019,[0,1,4,12]),(1000023,[0,1,4,12]),(3000019,[]),(3000022,[]),(3000023,[])]
def Qog (p0:(List UInt8)) (p1:Int) (x1:UInt8) (v9:Int):St:=⟨[(0,.p (sV p0)),(1,.p (iV p1)),(4,.ptr 0 0),(6,.ptr 1 0),(7,.p (nV .u8 (x1.toNat:Int))),(8,.p (sV [46,40,41,44,61])),(9,.p (iV v9))],⟨[[.p (iV 0),.p (sV []),.p (iV 0),.p (iV 0),.p (iV 0)],[.p (iV 0),.p (sV []),.p (iV 0),.p (iV p1),.p (iV (wr (p1+1)))]],[]⟩⟩
def Qtz (p0:(List UInt8)) (p1:Int) (x1:UInt8) (y4:Unit):St:=⟨[(0,.p (sV p0)),(1,.p (iV p1)),(4,.ptr 0 0),(6,.ptr 1 0),(7,.p (nV .u8 (x1.toNat:Int)))],⟨[[.p (iV 0),.p (sV []),.p (iV 0),.p (iV 0),.p (iV 0)],[.p (iV 0),.p (sV []),.p (iV 0),.p (iV p1),.p (iV (wr (p1+1)))]],[]⟩⟩
def Qt0 (p0:(List UInt8)) (p1:Int) (x1:UInt8) (y5:Int×Int):St:=⟨[(4,.ptr 0 0),(5,.p (bV true))],⟨[[.p (iV y5.1),.p (sV []),.p (iV 0),.p (iV p1),.p (iV (wr (p1+1)))],[.p (iV y5.2),.p (sV []),.p (iV 0),.p (iV p1),.p (iV (wr (p1+1)))]],[]⟩⟩
def Q62:Code:=((Qa3 (Tryz.f142.body.getD .skip)).getD 0 .skip)
def Q63 (p0:(List UInt8)) (p1:Int) (v12:Int) (o11:Bool):St:=⟨[(0,.p (sV p0)),(1,.p (iV p1)),(4,.ptr 0 0),(12,.p (iV v12)),(86,.p (bV o11))],⟨[[.p (iV 0),.p (sV []),.p (iV 0),.p (iV 0),.p (iV 0)],[.p (iV 0),.p (sV []),.p (iV 0),.p (iV p1),.p (iV (wr (p1+1)))]],[]⟩⟩
def Qoh (p0:(List UInt8)) (p1:Int) (v12:Int):St:=⟨[(0,.p (sV p0)),(1,.p (iV p1)),(4,.ptr 0 0),(12,.p (iV v12))],⟨[[.p (iV 0),.p (sV []),.p (iV 0),.p (iV 0),.p (iV 0)],[.p (iV 0),.p (sV []),.p (iV 0),.p (iV p1),.p (iV (wr (p1+1)))]],[]⟩⟩
def Qt1 (p0:(List UInt8)) (p1:Int) (o10:Int):St:=⟨[(0,.p (sV p0)),(1,.p (iV p1)),(4,.ptr 0 0),(12,.p (iV o10))],⟨[[.p (iV 0),.p (sV []),.p (iV 0),.p (iV 0),.p (iV 0)],[.p (iV 0),.p (sV []),.p (iV 0),.p (iV p1),.p (iV (wr (p1+1)))]],[]⟩⟩
def Q64:Code:=((Qa3 (Tryz.f142.body.getD .skip)).getD 1 .skip)
def Q65 (p0:(List UInt8)) (p1:Int) (o20:Bool):St:=⟨[(0,.p (sV p0)),(1,.p (iV p1)),(4,.ptr 0 0),(6,.ptr 1 0),(12,.p (iV (wr (p1+1)))),(106,.p (bV o20))],⟨[[.p (iV 0),.p (sV []),.p (iV 0),.p (iV 0),.p (iV 0)],[.p (iV 0),.p (sV []),.p (iV 0),.p (iV p1),.p (iV (wr (p1+1)))]],[]⟩⟩
def Q66 (p0:(List UInt8)) (p1:Int) (v12:Int) (o23:Bool):St:=⟨[(0,.p (sV p0)),(1,.p (iV p1)),(4,.ptr 0 0),(12,.p (iV v12)),(116,.p (bV o23))],⟨[[.p (iV 0),.p (sV []),.p (iV 0),.p (iV 0),.p (iV 0)],[.p (iV 0),.p (sV []),.p (iV 0),.p (iV p1),.p (iV (wr (p1+1)))]],[]⟩⟩
def Qoi (p0:(List UInt8)) (p1:Int) (v12:Int):St:=⟨[(0,.p (sV p0)),(1,.p (iV p1)),(4,.ptr 0 0),(12,.p (iV v12))],⟨[[.p (iV 0),.p (sV []),.p (iV 0),.p (iV 0),.p (iV 0)],[.p (iV 0),.p (sV []),.p (iV 0),.p (iV p1),.p (iV (wr (p1+1)))]],[]⟩⟩
def Qt2 (p0:(List UInt8)) (p1:Int) (o22:Int):St:=⟨[(0,.p (sV p0)),(1,.p (iV p1)),(4,.ptr 0 0),(12,.p (iV o22))],⟨[[.p (iV 0),.p (sV []),.p (iV 0),.p (iV 0),.p (iV 0)],[.p (iV 0),.p (sV []),.p (iV 0),.p (iV p1),.p (iV (wr (p1+1)))]],[]⟩⟩
def Q67:Code:=((Qa3 (Tryz.f142.body.getD .skip)).getD 2 .skip)
def Qma (y:(List UInt8)×Int):D :=.tup [.p (sV y.1),.p (iV y.2)]
def Qt3:List (Nat×List Nat):=[(0,[0,1]),(1,[0,1,6]),(2,[0,1,6]),(3,[0,1,6,15]),(4,[0,1,6,19]),(5,[4,5]),(6,[0,1,6,26]),(7,[0,1,6,31]),(8,[4,5]),(9,[0,1,6,7]),(10,[0,1,6,7,37]),(11,[0,1,6]),(12,[0,1,6,7,41]),(13,[0,1,6]),(14,[0,1,6,49]),(15,[0,1,6]),(16,[4,5]),(17,[0,1,6]),(18,[0,1,6,8,9]),(19,[0,1,6,9,79]),(20,[4,5]),(21,[0,1,6,9]),(22,[0,1,6]),(23,[4,5]),(1000003,[0,1,6]),(3000009,[]),(3000014,[]),(3000019,[])]
def Qy5 (p0:(List UInt8)) (v1:Int) (v6:(List UInt8)) (o6:Int):St:=⟨[(0,.p (sV p0)),(1,.p (iV v1)),(6,.p (sV v6)),(7,.p (nV .u8 o6))],⟨[],[]⟩⟩
def Qy6 (p0:(List UInt8)) (v1:Int) (v6:(List UInt8)) (o8:Bool):St:=⟨[(0,.p (sV p0)),(1,.p (iV v1)),(6,.p (sV v6)),(49,.p (bV o8))],⟨[],[]⟩⟩
def Qy7 (p0:(List UInt8)) (v1:Int) (v6:(List UInt8)) (x10:Int×Int) (o11:Bool):St:=⟨[(0,.p (sV p0)),(1,.p (iV v1)),(6,.p (sV v6)),(9,.p (iV x10.2)),(79,.p (bV o11))],⟨[],[]⟩⟩
def Qea (p0:(List UInt8)) (v1:Int) (v6:(List UInt8)):St:=⟨[(0,.p (sV p0)),(1,.p (iV v1)),(6,.p (sV v6))],⟨[],[]⟩⟩
def Qo5 (p0:(List UInt8)) (y2:Unit):St:=⟨[],⟨[],[]⟩⟩
def Qo6 (p0:(List UInt8)) (y3:(List UInt8)×Int):St:=⟨[(4,.p (sV y3.1)),(5,.p (iV y3.2))],⟨[],[]⟩⟩
def Qy8:Code:=((Qa3 (Tryz.f159.body.getD .skip)).getD 0 .skip)
def Qfu (y:(List Qab)×Int×Int):D :=.tup [.p (.sl false (y.1.map Qaa)),.p (iV y.2.1),.p (iV y.2.2)]
def Q68:List (Nat×List Nat):=[(0,[0]),(1,[0,5,6,7]),(2,[0,5,6,7,17]),(3,[2,3,4]),(4,[0,5,8]),(5,[0,5,8,9]),(6,[0,5,8,9,28]),(7,[0,5,8,35]),(8,[2,3,4]),(9,[2,3,4]),(10,[9,48]),(11,[2,3,4]),(12,[9,51]),(13,[2,3,4]),(14,[2,3,4])]
def Qmb (y:Bool):D :=.p (bV y)
def Qsy:List (Nat×List Nat):=[(0,[0,1]),(1,[4]),(3000001,[])]
def Qqh (h0_0:(List Qai)) (h0_1:Int) (h0_2:Bool) (o1:Bool):St:=⟨[(4,.p (bV o1))],⟨[[.p (.sl false (h0_0.map Qag)),.p (iV h0_1),.p (bV h0_2)]],[]⟩⟩
def Qfl (y:(List Qab)×Int×Bool):D :=.p (.sl false (y.1.map Qaa))
def Qlm:List (Nat×List Nat):=[(0,[0,1,2]),(1,[0,1,2,7]),(2,[0,1,2,7,27]),(3,[0,1,2,7,29]),(4,[0,1,2,7,8]),(5,[0,1,2,7,8,9]),(6,[0,1,2,7,8,9,45]),(7,[0,1,2,7]),(8,[0,1,2,7]),(9,[0,1,2,7,73]),(10,[6]),(11,[0,1,2,7]),(12,[0,1,2,7,80]),(13,[0,1,2,7]),(14,[0,1,2,7]),(15,[6]),(1000002,[0,1,2,7]),(3000002,[]),(3000006,[]),(3000009,[]),(9000005,[1,0,0,0]),(9000006,[5,0,0,0,6,0,0,0,7,0,0,0]),(9000007,[4,0,0,0,5,0,0,0,6,0,0,0,9,0,0,0,10,0,0,0,11,1,7,0]),(9000008,[4,0,0,0]),(9000014,[4,0,0,0])]
def Qqi (p1:Bool) (p2:Bool) (h0_0:(List Qai)) (v7:(List Qab)) (h0_1_:Int) (h0_2_:Bool) (o4:Bool):St:=⟨[(0,.ptr 0 0),(1,.p (bV p1)),(2,.p (bV p2)),(7,.x 0 1 (.sl 38 7 (v7.map Qaa))),(27,.p (bV o4))],⟨[[.p (.sl false (h0_0.map Qag)),.p (iV h0_1_),.p (bV h0_2_)]],[1]⟩⟩
def Qqj (p1:Bool) (p2:Bool) (h0_0:(List Qai)) (v7:(List Qab)) (x6:Qai×Int×Bool) (o7:Bool):St:=⟨[(0,.ptr 0 0),(1,.p (bV p1)),(2,.p (bV p2)),(7,.x 0 1 (.sl 38 7 (v7.map Qaa))),(8,.p (sV x6.1.Text)),(9,.p (iV (wr ((v7.length:Int)-1)))),(45,.p (bV o7))],⟨[[.p (.sl false (h0_0.map Qag)),.p (iV x6.2.1),.p (bV x6.2.2)]],[1]⟩⟩
def Qqk (p1:Bool) (p2:Bool) (h0_0:(List Qai)) (v7:(List Qab)) (h0_1_:Int) (h0_2_:Bool) (o12:Bool):St:=⟨[(0,.ptr 0 0),(1,.p (bV p1)),(2,.p (bV p2)),(7,.x 0 1 (.sl 38 7 (v7.map Qaa))),(73,.p (bV o12))],⟨[[.p (.sl false (h0_0.map Qag)),.p (iV h0_1_),.p (bV h0_2_)]],[1]⟩⟩
def Qcf (p1:Bool) (p2:Bool) (h0_0:(List Qai)) (v7:(List Qab)) (h0_1_:Int) (h0_2_:Bool):St:=⟨[(0,.ptr 0 0),(1,.p (bV p1)),(2,.p (bV p2)),(7,.x 0 1 (.sl 38 7 (v7.map Qaa)))],⟨[[.p (.sl false (h0_0.map Qag)),.p (iV h0_1_),.p (bV h0_2_)]],[1]⟩⟩
def Qih (p1:Bool) (p2:Bool) (h0_0:(List Qai)) (y2:(List Qab)×Int×Bool):St:=⟨[(7,.x 0 1 (.sl 38 7 (y2.1.map Qaa)))],⟨[[.p (.sl false (h0_0.map Qag)),.p (iV y2.2.1),.p (bV y2.2.2)]],[1]⟩⟩
def Qii (p1:Bool) (p2:Bool) (h0_0:(List Qai)) (y3:(List Qab)×Int×Bool):St:=⟨[(6,.x 0 1 (.sl 38 7 (y3.1.map Qaa)))],⟨[[.p (.sl false (h0_0.map Qag)),.p (iV y3.2.1),.p (bV y3.2.2)]],[1]⟩⟩
def Qql:Code:=((Qa3 (Tryz.f116.body.getD .skip)).getD 0 .skip)
def Qi1 (y:Qab×Int×Bool):D :=.p (.agg [iV y.1.Kind,sV y.1.Name,sV y.1.Text,iV y.1.N,.sl false (y.1.L.map Qaa),.sl false (y.1.Then.map Qaa),.sl false (y.1.Else.map Qaa)])
def Qmc:List (Nat×List Nat):=[(0,[0,2]),(1,[0,2,3]),(2,[0,2,3,7]),(3,[0,2,3]),(4,[0,2,3]),(5,[2]),(1000002,[0,2,3]),(5000004,[3,1005,1008]),(8000004,[2])]
def Qfv (h0_0:(List Qai)) (h0_1_:Int) (h0_2_:Bool) (h2_0:Int) (h2_1:(List UInt8)) (h2_2:(List UInt8)) (h2_3:Int) (h2_4:(List Qab)) (h2_5:(List Qab)) (h2_6:(List Qab)):St:=⟨[(0,.ptr 0 0),(2,.ptr 1 0),(3,.ptr 2 0)],⟨[[.p (.sl false (h0_0.map Qag)),.p (iV h0_1_),.p (bV h0_2_)],[.p (iV 0),.p (sV []),.p (sV []),.p (iV 0),.p (.sl true []),.p (.sl true []),.p (.sl true [])],[.p (iV h2_0),.p (sV h2_1),.p (sV h2_2),.p (iV h2_3),.p (.sl false (h2_4.map Qaa)),.p (.sl false (h2_5.map Qaa)),.p (.sl false (h2_6.map Qaa))]],[]⟩⟩
def Qjw (h0_0:(List Qai)) (o2:Int×Bool×Int×(List UInt8)×(List UInt8)×Int×(List Qab)×(List Qab)×(List Qab)):St:=⟨[(2,.ptr 1 0),(3,.ptr 2 0)],⟨[[.p (.sl false (h0_0.map Qag)),.p (iV o2.1),.p (bV o2.2.1)],[.p (iV 0),.p (sV []),.p (sV []),.p (iV 0),.p (.sl true []),.p (.sl true []),.p (.sl true [])],[.p (iV o2.2.2.1),.p (sV o2.2.2.2.1),.p (sV o2.2.2.2.2.1),.p (iV o2.2.2.2.2.2.1),.p (.sl false (o2.2.2.2.2.2.2.1.map Qaa)),.p (.sl false (o2.2.2.2.2.2.2.2.1.map Qaa)),.p (.sl false (o2.2.2.2.2.2.2.2.2.map Qaa))]],[]⟩⟩
def Qrp:Code:=((Qa3 (Tryz.f162.body.getD .skip)).getD 0 .skip)
def Qe1 (y:Qab×Int×Bool):D :=.p (.agg [iV y.1.Kind,sV y.1.Name,sV y.1.Text,iV y.1.N,.sl false (y.1.L.map Qaa),.sl false (y.1.Then.map Qaa),.sl false (y.1.Else.map Qaa)])
def Qrq:List (Nat×List Nat):=[(0,[0,2]),(1,[0,2,7]),(2,[0,2]),(3,[0,2,3]),(4,[0,2,3]),(5,[0,2,3]),(6,[0,2,3,20]),(7,[0,2,3]),(8,[0,2,3]),(9,[2,3]),(10,[2]),(11,[0,2,34]),(12,[0,2,4]),(13,[0,2,4,37]),(14,[0,2,4]),(15,[0,2,4]),(16,[0,2,4]),(17,[0,2,4,46]),(18,[0,2,4]),(19,[0,2,4]),(20,[0,2,4]),(21,[0,2,4]),(22,[0,2,4]),(23,[2,4]),(24,[2]),(25,[0,2,5]),(26,[0,2,5,69]),(27,[0,2,5]),(28,[0,2,5]),(29,[0,2,5]),(30,[0,2,5]),(31,[2,5]),(32,[2]),(2006007,[]),(2013005,[]),(2017005,[]),(2026009,[]),(3000011,[])]
def Qpe (h0_0:(List Qai)) (x3:Qab×Int×Bool) (x5:(List Qab)×Int×Bool) (o6:Int×Bool×(List Qab)):St:=⟨[(0,.ptr 0 0),(2,.ptr 1 0),(3,.ptr 2 0)],⟨[[.p (.sl false (h0_0.map Qag)),.p (iV o6.1),.p (bV o6.2.1)],[.p (iV 0),.p (sV []),.p (sV []),.p (iV 0),.p (.sl true []),.p (.sl true []),.p (.sl true [])],[.p (iV 10),.p (sV []),.p (sV []),.p (iV 0),.p (.sl true ([x3.1].map Qaa)),.p (.sl false (x5.1.map Qaa)),.p (.sl false (o6.2.2.map Qaa))]],[]⟩⟩
def Qpf (h0_0:(List Qai)) (h0_1:Int) (h0_2:Bool) (o11:Bool):St:=⟨[(0,.ptr 0 0),(2,.ptr 1 0),(34,.p (bV o11))],⟨[[.p (.sl false (h0_0.map Qag)),.p (iV h0_1),.p (bV h0_2)],[.p (iV 0),.p (sV []),.p (sV []),.p (iV 0),.p (.sl true []),.p (.sl true []),.p (.sl true [])]],[]⟩⟩
def Qpg (h0_0:(List Qai)) (h0_1:Int) (h0_2:Bool) (o14:Int):St:=⟨[(0,.ptr 0 0),(2,.ptr 1 0),(4,.ptr 2 0)],⟨[[.p (.sl false (h0_0.map Qag)),.p (iV h0_1),.p (bV h0_2)],[.p (iV 0),.p (sV []),.p (sV []),.p (iV 0),.p (.sl true []),.p (.sl true []),.p (.sl true [])],[.p (iV o14),.p (sV []),.p (sV []),.p (iV 0),.p (.sl true []),.p (.sl true []),.p (.sl true [])]],[]⟩⟩
def Qph (h0_0:(List Qai)) (o14:Int) (x17:(List UInt8)×Int×Bool) (o18:Int×Bool):St:=⟨[(0,.ptr 0 0),(2,.ptr 1 0),(4,.ptr 2 0)],⟨[[.p (.sl false (h0_0.map Qag)),.p (iV o18.1),.p (bV o18.2)],[.p (iV 0),.p (sV []),.p (sV []),.p (iV 0),.p (.sl true []),.p (.sl true []),.p (.sl true [])],[.p (iV o14),.p (sV x17.1),.p (sV []),.p (iV 0),.p (.sl true []),.p (.sl true []),.p (.sl true [])]],[]⟩⟩
def Qpi (h0_0:(List Qai)) (o27:Int×Bool×Int×(List UInt8)):St:=⟨[(0,.ptr 0 0),(2,.ptr 1 0),(5,.ptr 2 0)],⟨[[.p (.sl false (h0_0.map Qag)),.p (iV o27.1),.p (bV o27.2.1)],[.p (iV 0),.p (sV []),.p (sV []),.p (iV 0),.p (.sl true []),.p (.sl true []),.p (.sl true [])],[.p (iV o27.2.2.1),.p (sV o27.2.2.2),.p (sV []),.p (iV 0),.p (.sl true []),.p (.sl true []),.p (.sl true [])]],[]⟩⟩
def Qmd (_:Int×Bool):D :=.tup []
def Qsz:List (Nat×List Nat):=[(0,[])]
def Qo7 (_:Int×Bool):D :=.tup []
def Qu9:List (Nat×List Nat):=[(0,[0,1]),(1,[0]),(2,[])]
def Qbs (y:Qab×Int×Bool):D :=.p (.agg [iV y.1.Kind,sV y.1.Name,sV y.1.Text,iV y.1.N,.sl false (y.1.L.map Qaa),.sl false (y.1.Then.map Qaa),.sl false (y.1.Else.map Qaa)])
def Qln:List (Nat×List Nat):=[(0,[0,2]),(1,[0,2,7]),(2,[2]),(3,[0,2,13]),(4,[2]),(5,[0,2,19]),(6,[2]),(7,[2]),(8,[0,2,24]),(9,[2]),(10,[2]),(11,[0,2,29]),(12,[0,2]),(13,[0,2]),(14,[0,2,3]),(15,[2,3]),(16,[2]),(17,[0,2,4]),(18,[0,2,4,66]),(19,[2]),(20,[0,2,4]),(21,[0,2,4]),(22,[0,2,4,72]),(23,[2,4]),(24,[2]),(25,[0,2,4,5]),(26,[0,2,4,5,84]),(27,[0,2,4,5]),(28,[0,2,4,5]),(29,[0,2,4,5,95]),(30,[0,2,4,5,97]),(31,[0,2,4,5]),(32,[2,4]),(33,[2]),(1000026,[0,2,4,5]),(3000014,[]),(3000026,[]),(5000014,[17]),(5000028,[3,1001,1007]),(8000028,[2])]
def Qqm (h0_0:(List Qai)) (o13:Int×Bool×Int×(List UInt8)×Int×Int×Int):St:=⟨[(0,.ptr 0 0),(2,.ptr 1 0),(3,.ptr 2 0)],⟨[[.p (.sl false (h0_0.map Qag)),.p (iV o13.1),.p (bV o13.2.1)],[.p (iV 0),.p (sV []),.p (sV []),.p (iV 0),.p (.sl true []),.p (.sl true []),.p (.sl true [])],[.p (iV o13.2.2.1),.p (sV o13.2.2.2.1),.p (iV o13.2.2.2.2.1),.p (iV o13.2.2.2.2.2.1),.p (iV o13.2.2.2.2.2.2)]],[]⟩⟩
def Qqn (h0_0:(List Qai)) (x21:(List UInt8)×Int×Bool) (v5:Int) (h0_1_:Int) (h0_2_:Bool) (h2_4:(List Qab)) (o27:Bool):St:=⟨[(0,.ptr 0 0),(2,.ptr 1 0),(4,.ptr 2 0),(5,.p (iV v5)),(84,.p (bV o27))],⟨[[.p (.sl false (h0_0.map Qag)),.p (iV h0_1_),.p (bV h0_2_)],[.p (iV 0),.p (sV []),.p (sV []),.p (iV 0),.p (.sl true []),.p (.sl true []),.p (.sl true [])],[.p (iV 6),.p (sV x21.1),.p (sV []),.p (iV 0),.own 0 38 7 (h2_4.map Qaa),.p (.sl true []),.p (.sl true [])]],[(h2_4.map Qaa).length]⟩⟩
def Qd6 (h0_0:(List Qai)) (x21:(List UInt8)×Int×Bool) (v5:Int) (h0_1_:Int) (h0_2_:Bool) (h2_4:(List Qab)):St:=⟨[(0,.ptr 0 0),(2,.ptr 1 0),(4,.ptr 2 0),(5,.p (iV v5))],⟨[[.p (.sl false (h0_0.map Qag)),.p (iV h0_1_),.p (bV h0_2_)],[.p (iV 0),.p (sV []),.p (sV []),.p (iV 0),.p (.sl true []),.p (.sl true []),.p (.sl true [])],[.p (iV 6),.p (sV x21.1),.p (sV []),.p (iV 0),.own 0 38 7 (h2_4.map Qaa),.p (.sl true []),.p (.sl true [])]],[(h2_4.map Qaa).length]⟩⟩
def Qij (h0_0:(List Qai)) (x21:(List UInt8)×Int×Bool) (o26:Int×Bool×(List Qab)):St:=⟨[(0,.ptr 0 0),(2,.ptr 1 0),(4,.ptr 2 0)],⟨[[.p (.sl false (h0_0.map Qag)),.p (iV o26.1),.p (bV o26.2.1)],[.p (iV 0),.p (sV []),.p (sV []),.p (iV 0),.p (.sl true []),.p (.sl true []),.p (.sl true [])],[.p (iV 6),.p (sV x21.1),.p (sV []),.p (iV 0),.own 0 38 7 (o26.2.2.map Qaa),.p (.sl true []),.p (.sl true [])]],[(o26.2.2.map Qaa).length]⟩⟩
def Qqo:Code:=((Qa3 (Tryz.f173.body.getD .skip)).getD 0 .skip)
def Qdz (y:Bool):D :=.p (bV y)
def Qwl:List (Nat×List Nat):=[(0,[0,1]),(1,[4]),(3000001,[])]
def Qt4 (h0_0:(List Qai)) (h0_1:Int) (h0_2:Bool) (o1:Bool):St:=⟨[(4,.p (bV o1))],⟨[[.p (.sl false (h0_0.map Qag)),.p (iV h0_1),.p (bV h0_2)]],[]⟩⟩
def Qno (y:(List UInt8)×Int×Bool):D :=.p (sV y.1)
def Qt5:List (Nat×List Nat):=[(0,[0]),(1,[2]),(3000001,[]),(5000001,[17])]
def Qrr (h0_0:(List Qai)) (o1:(List UInt8)×Int×Bool):St:=⟨[(2,.p (sV o1.1))],⟨[[.p (.sl false (h0_0.map Qag)),.p (iV o1.2.1),.p (bV o1.2.2)]],[]⟩⟩
def Qi2 (y:Qai×Int×Bool):D :=.p (.agg [iV y.1.Kind,sV y.1.Text,iV y.1.N,iV y.1.From,iV y.1.To])
def Qt6:List (Nat×List Nat):=[(0,[0,1,4]),(1,[0,4,12]),(2,[4]),(3,[4]),(4,[0,4]),(5,[4]),(3000001,[])]
def Qrs (h0_0:(List Qai)) (h0_1:Int) (h0_2:Bool) (o1:Bool):St:=⟨[(0,.ptr 0 0),(4,.ptr 1 0),(12,.p (bV o1))],⟨[[.p (.sl false (h0_0.map Qag)),.p (iV h0_1),.p (bV h0_2)],[.p (iV 0),.p (sV []),.p (iV 0),.p (iV 0),.p (iV 0)]],[]⟩⟩
def Qnp (y:Bool):D :=.p (bV y)
def Qt7:List (Nat×List Nat):=[(0,[0,1]),(1,[4]),(3000001,[])]
def Qrt (h0_0:(List Qai)) (h0_1:Int) (h0_2:Bool) (o1:Bool):St:=⟨[(4,.p (bV o1))],⟨[[.p (.sl false (h0_0.map Qag)),.p (iV h0_1),.p (bV h0_2)]],[]⟩⟩
def Qff (y:Bool):D :=.p (bV y)
def Qy9:List (Nat×List Nat):=[(0,[1,2]),(1,[1,2,8]),(2,[4]),(3,[1,2,11]),(4,[4]),(5,[1,2,23]),(6,[4]),(7,[1,2,5]),(8,[1,2,5,28]),(9,[1,2,5]),(10,[1,2,5,37]),(11,[4]),(12,[4]),(1000008,[1,2,5]),(3000005,[])]
def Q30 (p0:Qab) (p1:(List Qah)) (o2:Bool):St:=⟨[(1,.p (.sl false (p1.map Qal))),(2,.ptr 0 0),(23,.p (bV o2))],⟨[[.p (iV p0.Kind),.p (sV p0.Name),.p (sV p0.Text),.p (iV p0.N),.p (.sl false (p0.L.map Qaa)),.p (.sl false (p0.Then.map Qaa)),.p (.sl false (p0.Else.map Qaa))]],[]⟩⟩
def Qmu (p0:Qab) (p1:(List Qah)) (v5:Int):St:=⟨[(1,.p (.sl false (p1.map Qal))),(2,.ptr 0 0),(5,.p (iV v5))],⟨[[.p (iV p0.Kind),.p (sV p0.Name),.p (sV p0.Text),.p (iV p0.N),.p (.sl false (p0.L.map Qaa)),.p (.sl false (p0.Then.map Qaa)),.p (.sl false (p0.Else.map Qaa))]],[]⟩⟩
def Qsd (p0:Qab) (p1:(List Qah)) (y4:Unit):St:=⟨[],⟨[[.p (iV p0.Kind),.p (sV p0.Name),.p (sV p0.Text),.p (iV p0.N),.p (.sl false (p0.L.map Qaa)),.p (.sl false (p0.Then.map Qaa)),.p (.sl false (p0.Else.map Qaa))]],[]⟩⟩
def Qse (p0:Qab) (p1:(List Qah)) (y5:Unit):St:=⟨[(4,.p (bV true))],⟨[[.p (iV p0.Kind),.p (sV p0.Name),.p (sV p0.Text),.p (iV p0.N),.p (.sl false (p0.L.map Qaa)),.p (.sl false (p0.Then.map Qaa)),.p (.sl false (p0.Else.map Qaa))]],[]⟩⟩
def Q31:Code:=((Qa3 (Tryz.f24.body.getD .skip)).getD 0 .skip)
def Qoj (y:Bool):D :=.p (bV y)
def Qv4:List (Nat×List Nat):=[(0,[0,1]),(1,[0,1,5]),(2,[0,1,5,10]),(3,[0,1,5]),(4,[0,1,5,19]),(5,[4]),(6,[4]),(1000002,[0,1,5])]
def Qlo (p0:(List Qah)) (p1:(List UInt8)) (v5:Int):St:=⟨[(0,.p (.sl false (p0.map Qal))),(1,.p (sV p1)),(5,.p (iV v5))],⟨[],[]⟩⟩
def Qqp (p0:(List Qah)) (p1:(List UInt8)) (y2:Unit):St:=⟨[],⟨[],[]⟩⟩
def Qqq (p0:(List Qah)) (p1:(List UInt8)) (y3:Bool):St:=⟨[(4,.p (bV y3))],⟨[],[]⟩⟩
def Q0r:Code:=((Qa3 (Tryz.f58.body.getD .skip)).getD 0 .skip)
def Qgg (y:Bool):D :=.p (bV y)
def Qfw:List (Nat×List Nat):=[(0,[1,2,3]),(1,[1,2,7]),(2,[1,2,7]),(3,[1,2,7,9]),(4,[1,2,7,9,10]),(5,[1,2,7,9,10,30]),(6,[1,2,7,9,10]),(7,[1,2,7,9,10,38]),(8,[1,2,7,9,10]),(9,[1,7,9,11,12]),(10,[6]),(1000005,[1,2,7,9,10]),(3000010,[]),(9000003,[2,0,0,0]),(9000005,[2,0,0,0]),(9000008,[2,0,0,0,3,0,0,0,4,1,9,0]),(9500009,[])]
def Qce (p0:Qab) (p2:Int) (x1:(List Qab)×Int) (x2:(List Qah)) (v9:(List Qah)) (v10:Int):St:=⟨[(1,.p (.sl false (x2.map Qal))),(2,.p (nV .u16 p2)),(7,.p (.sl false (x1.1.map Qaa))),(9,.x 0 1 (.sl 46 3 (v9.map Qal))),(10,.p (iV v10))],⟨[[.p (iV p0.Kind),.p (sV p0.Name),.p (sV p0.Text),.p (iV p0.N),.p (.sl false (p0.L.map Qaa)),.p (.sl false (p0.Then.map Qaa)),.p (.sl false (p0.Else.map Qaa))]],[1]⟩⟩
def Qeu (p0:Qab) (p2:Int) (x1:(List Qab)×Int) (x2:(List Qah)) (o4:(List Qah)):St:=⟨[(1,.p (.sl false (x2.map Qal))),(7,.p (.sl false (x1.1.map Qaa))),(9,.x 0 1 (.sl 46 3 (o4.map Qal)))],⟨[[.p (iV p0.Kind),.p (sV p0.Name),.p (sV p0.Text),.p (iV p0.N),.p (.sl false (p0.L.map Qaa)),.p (.sl false (p0.Then.map Qaa)),.p (.sl false (p0.Else.map Qaa))]],[1]⟩⟩
def Qkg:Code:=((Qa3 (Tryz.f5.body.getD .skip)).getD 0 .skip)
def Qkh (p0:Qab) (o10:Bool):St:=⟨[(6,.p (bV o10))],⟨[[.p (iV p0.Kind),.p (sV p0.Name),.p (sV p0.Text),.p (iV p0.N),.p (.sl false (p0.L.map Qaa)),.p (.sl false (p0.Then.map Qaa)),.p (.sl false (p0.Else.map Qaa))]],[1]⟩⟩
def Qe2 (y:Bool):D :=.p (bV y)
def Qru:List (Nat×List Nat):=[(0,[]),(1,[1]),(2,[1,2]),(3,[1,2,4]),(4,[1,2,4,5,6]),(5,[1,2,4,5,6,8]),(6,[0]),(3000006,[])]
def Qpj  (o7:Bool):St:=⟨[(0,.p (bV o7))],⟨[],[]⟩⟩
def Qep (y:(List Qae)):D :=.p (.sl false (y.map Qaj))
def Qt8:List (Nat×List Nat):=[(0,[0]),(1,[3]),(2,[2])]
def Qfx (y:(List UInt8)×Int):D :=.tup [.p (sV y.1),.p (iV y.2)]
def Qwm:List (Nat×List Nat):=[(0,[0,1]),(1,[4,5])]
def Qi3 (_:Unit):D :=.tup []
def Qt9:List (Nat×List Nat):=[]
def Qb4 (y:Bool):D :=.p (bV y)
def Qqr:List (Nat×List Nat):=[(0,[2,3]),(1,[2,3,7]),(2,[2,3,7,8]),(3,[4]),(4,[2,3,7,10]),(5,[2,3,5]),(6,[2,3,5,16]),(7,[2,3,5]),(8,[2,3,5,26]),(9,[4]),(10,[2,3,7,32]),(11,[2,3,32]),(12,[4]),(13,[4]),(1000006,[2,3,5]),(2010005,[])]
def Qhw (p0:Qab) (p1:(List Qah)) (v5:Int):St:=⟨[(2,.ptr 0 0),(3,.ptr 1 0),(5,.p (iV v5))],⟨[[.p (iV p0.Kind),.p (sV p0.Name),.p (sV p0.Text),.p (iV p0.N),.p (.sl false (p0.L.map Qaa)),.p (.sl false (p0.Then.map Qaa)),.p (.sl false (p0.Else.map Qaa))],[.p (.sl false (p1.map Qal))]],[]⟩⟩
def Qme (p0:Qab) (p1:(List Qah)) (y2:Unit):St:=⟨[],⟨[[.p (iV p0.Kind),.p (sV p0.Name),.p (sV p0.Text),.p (iV p0.N),.p (.sl false (p0.L.map Qaa)),.p (.sl false (p0.Then.map Qaa)),.p (.sl false (p0.Else.map Qaa))],[.p (.sl false (p1.map Qal))]],[]⟩⟩
def Qmf (p0:Qab) (p1:(List Qah)) (y3:Bool):St:=⟨[(4,.p (bV y3))],⟨[[.p (iV p0.Kind),.p (sV p0.Name),.p (sV p0.Text),.p (iV p0.N),.p (.sl false (p0.L.map Qaa)),.p (.sl false (p0.Then.map Qaa)),.p (.sl false (p0.Else.map Qaa))],[.p (.sl false (p1.map Qal))]],[]⟩⟩
def Qva:Code:=((Qa3 (Tryz.f23.body.getD .skip)).getD 0 .skip)
def Qvb (p0:Qab) (p1:(List Qah)) (o6:Bool):St:=⟨[(2,.ptr 0 0),(3,.ptr 1 0),(32,.p (bV o6))],⟨[[.p (iV p0.Kind),.p (sV p0.Name),.p (sV p0.Text),.p (iV p0.N),.p (.sl false (p0.L.map Qaa)),.p (.sl false (p0.Then.map Qaa)),.p (.sl false (p0.Else.map Qaa))],[.p (.sl false (p1.map Qal))]],[]⟩⟩
def Qo8 (y:Bool):D :=.p (bV y)
def Qvc:List (Nat×List Nat):=[(0,[1,2]),(1,[3])]
def Qhx (y:Bool):D :=.p (bV y)
def Qwn:List (Nat×List Nat):=[(0,[0,1]),(1,[0,1,5]),(2,[5,7]),(3,[4]),(3000003,[])]
def Qua (x1:(List UInt8)×Int×Int) (o2:Bool):St:=⟨[(4,.p (bV o2))],⟨[[.p (iV x1.2.2)]],[]⟩⟩
def Qnq (_:Int):D :=.tup []
def Qub:List (Nat×List Nat):=[(0,[])]
def Qbl (y:(List UInt8)×Int):D :=.tup [.p (sV y.1),.p (iV y.2)]
def Qi4:List (Nat×List Nat):=[(0,[0,1,2]),(1,[0,1,2,8,9]),(2,[0,1,2,8,9,19]),(3,[6,7]),(4,[0,1,2,10,11]),(5,[0,1,2,10,29]),(6,[6,7]),(7,[1,10,12]),(8,[12]),(9,[12,44]),(10,[6,7]),(11,[6,7]),(9000007,[1,0,0,0])]
def Qbm (y:(List UInt8)×Int×Int):D :=.tup [.p (sV y.1),.p (iV y.2.1)]
def Qi5:List (Nat×List Nat):=[(0,[0,1,2]),(1,[0,1,2,8,9]),(2,[0,1,2,8,9,19]),(3,[6,7]),(4,[0,1,2,10,11]),(5,[0,1,2,10,29]),(6,[6,7]),(7,[1,10,12]),(8,[12]),(9,[12,44]),(10,[6,7]),(11,[6,7]),(9000007,[1,0,0,0])]
def Qd7 (_:(List UInt8)×Bool×(List (Qaf×Int))):D :=.tup []
def Qhy:List (Nat×List Nat):=[(0,[0,1,3,12,13,14]),(1,[0,1,3,12,13,14,15]),(2,[0,1,3,9,12,13,14]),(3,[0,1,3,9,12,13,14,21]),(4,[0,1,3,9,12,13,14,24]),(5,[0,1,3,9,10,12,13,14]),(6,[0,1,3,9,10,11,12,13,14]),(7,[0,1,3,9,10,11,12,13,14,34]),(8,[0,1,3,9,10,11,12,13,14,34,35]),(9,[0,1,3,9,11,12,13,14,37]),(10,[0,1,3,9,11,12,13,14]),(11,[0,1,3,9,10,11,12,13,14,34,43]),(12,[0,1,3,9,10,11,12,13,14,34,43]),(13,[0,1,3,9,11,12,13,14,46]),(14,[]),(15,[0,1,3,9,11,12,13,14,56]),(16,[0,1,3,9,11,12,13,14]),(17,[0,1,3,9,10,11,12,13,14,34,63]),(18,[0,1,3,9,11,12,13,14]),(19,[0,1,3,9,10,11,12,13,14,72]),(20,[0,1,3,12,13,14]),(21,[0,1,3,9,12,13,14]),(22,[0,1,3,12,13,14]),(23,[0,1,3,12,13,14]),(1000001,[0,1,3,12,13,14]),(2007042,[]),(2011005,[]),(9000016,[5,0,0,0]),(9000018,[6,0,0,0]),(9500021,[])]
def Qmv (p1:(List UInt8)) (p2:(List Qab)) (p3:(List Qah)) (h0_0:(List Qae)) (v14:Int) (h0_2_:(List UInt8)) (h0_3_:Bool) (h1_0_:(List (Qaf×Int))) (x4:Qab) (y9:(List Qah)):St:=⟨[(0,.ptr 0 0),(1,.p (sV p1)),(3,.p (.sl false (p3.map Qal))),(9,.ptr 2 0),(11,.x 0 1 (.sl 46 3 (y9.map Qal))),(12,.p (.sl false (p2.map Qaa))),(13,.p (iV (p2.length:Int))),(14,.p (iV v14))],⟨[[.p (.sl false (h0_0.map Qaj)),.mh 1,.p (sV h0_2_),.p (bV h0_3_),.fn (.func 62) [] []],[mpD (fun x =>.agg (Qan x)) iV h1_0_],[.p (iV x4.Kind),.p (sV x4.Name),.p (sV x4.Text),.p (iV x4.N),.p (.sl false (x4.L.map Qaa)),.p (.sl false (x4.Then.map Qaa)),.p (.sl false (x4.Else.map Qaa))]],[1]⟩⟩
def Qmw (p1:(List UInt8)) (p2:(List Qab)) (p3:(List Qah)) (h0_0:(List Qae)) (v14:Int) (h0_2_:(List UInt8)) (h0_3_:Bool) (h1_0_:(List (Qaf×Int))) (x4:Qab) (y10:(List UInt8)×Bool×(List (Qaf×Int))):St:=⟨[(0,.ptr 0 0),(1,.p (sV p1)),(3,.p (.sl false (p3.map Qal))),(12,.p (.sl false (p2.map Qaa))),(13,.p (iV (p2.length:Int))),(14,.p (iV v14))],⟨[[.p (.sl false (h0_0.map Qaj)),.mh 1,.p (sV y10.1),.p (bV y10.2.1),.fn (.func 62) [] []],[mpD (fun x =>.agg (Qan x)) iV y10.2.2],[.p (iV x4.Kind),.p (sV x4.Name),.p (sV x4.Text),.p (iV x4.N),.p (.sl false (x4.L.map Qaa)),.p (.sl false (x4.Then.map Qaa)),.p (.sl false (x4.Else.map Qaa))]],[1]⟩⟩
def Qmx (p1:(List UInt8)) (p2:(List Qab)) (p3:(List Qah)) (h0_0:(List Qae)) (v14:Int) (h0_2_:(List UInt8)) (h0_3_:Bool) (h1_0_:(List (Qaf×Int))) (x4:Qab) (y11:Unit):St:=⟨[],⟨[[.p (.sl false (h0_0.map Qaj)),.mh 1,.p (sV p1),.p (bV true),.fn (.func 62) [] []],[mpD (fun x =>.agg (Qan x)) iV h1_0_],[.p (iV x4.Kind),.p (sV x4.Name),.p (sV x4.Text),.p (iV x4.N),.p (.sl false (x4.L.map Qaa)),.p (.sl false (x4.Then.map Qaa)),.p (.sl false (x4.Else.map Qaa))]],[1]⟩⟩
def Qmy (p1:(List UInt8)) (p2:(List Qab)) (p3:(List Qah)) (h0_0:(List Qae)) (v14:Int) (h0_2_:(List UInt8)) (h0_3_:Bool) (h1_0_:(List (Qaf×Int))) (x4:Qab) (x6:Bool) (x7:(List Qah)) (o13:Bool):St:=⟨[(0,.ptr 0 0),(1,.p (sV p1)),(3,.p (.sl false (p3.map Qal))),(9,.ptr 2 0),(10,.p (bV x6)),(11,.x 0 1 (.sl 46 3 (x7.map Qal))),(12,.p (.sl false (p2.map Qaa))),(13,.p (iV (p2.length:Int))),(14,.p (iV v14)),(34,.p (iV x4.Kind)),(43,.p (bV o13))],⟨[[.p (.sl false (h0_0.map Qaj)),.mh 1,.p (sV h0_2_),.p (bV h0_3_),.fn (.func 62) [] []],[mpD (fun x =>.agg (Qan x)) iV h1_0_],[.p (iV x4.Kind),.p (sV x4.Name),.p (sV x4.Text),.p (iV x4.N),.p (.sl false (x4.L.map Qaa)),.p (.sl false (x4.Then.map Qaa)),.p (.sl false (x4.Else.map Qaa))]],[1]⟩⟩
def Qb8 (p1:(List UInt8)) (p2:(List Qab)) (p3:(List Qah)) (h0_0:(List Qae)) (v14:Int) (h0_2_:(List UInt8)) (h0_3_:Bool) (h1_0_:(List (Qaf×Int))):St:=⟨[(0,.ptr 0 0),(1,.p (sV p1)),(3,.p (.sl false (p3.map Qal))),(12,.p (.sl false (p2.map Qaa))),(13,.p (iV (p2.length:Int))),(14,.p (iV v14))],⟨[[.p (.sl false (h0_0.map Qaj)),.mh 1,.p (sV h0_2_),.p (bV h0_3_),.fn (.func 62) [] []],[mpD (fun x =>.agg (Qan x)) iV h1_0_]],[]⟩⟩
def Qgh (p1:(List UInt8)) (p2:(List Qab)) (p3:(List Qah)) (h0_0:(List Qae)) (y2:(List UInt8)×Bool×(List (Qaf×Int))):St:=⟨[],⟨[[.p (.sl false (h0_0.map Qaj)),.mh 1,.p (sV y2.1),.p (bV y2.2.1),.fn (.func 62) [] []],[mpD (fun x =>.agg (Qan x)) iV y2.2.2]],[]⟩⟩
def Qgi (p1:(List UInt8)) (p2:(List Qab)) (p3:(List Qah)) (h0_0:(List Qae)) (y3:(List UInt8)×Bool×(List (Qaf×Int))):St:=⟨[],⟨[[.p (.sl false (h0_0.map Qaj)),.mh 1,.p (sV y3.1),.p (bV y3.2.1),.fn (.func 62) [] []],[mpD (fun x =>.agg (Qan x)) iV y3.2.2]],[]⟩⟩
def Qmz:Code:=((Qa3 (Tryz.f85.body.getD .skip)).getD 0 .skip)
def Qdg (_:(List UInt8)×Bool×(List (Qaf×Int))×Int):D :=.tup []
def Qgq:List (Nat×List Nat):=[(0,[0,1,3,12,13,14]),(1,[0,1,3,12,13,14,15]),(2,[0,1,3,9,12,13,14]),(3,[0,1,3,9,12,13,14,21]),(4,[0,1,3,9,12,13,14,24]),(5,[0,1,3,9,10,12,13,14]),(6,[0,1,3,9,10,11,12,13,14]),(7,[0,1,3,9,10,11,12,13,14,34]),(8,[0,1,3,9,10,11,12,13,14,34,35]),(9,[0,1,3,9,11,12,13,14,37]),(10,[0,1,3,9,11,12,13,14]),(11,[0,1,3,9,10,11,12,13,14,34,43]),(12,[0,1,3,9,10,11,12,13,14,34,43]),(13,[0,1,3,9,11,12,13,14,46]),(14,[]),(15,[0,1,3,9,11,12,13,14,56]),(16,[0,1,3,9,11,12,13,14]),(17,[0,1,3,9,10,11,12,13,14,34,63]),(18,[0,1,3,9,11,12,13,14]),(19,[0,1,3,9,10,11,12,13,14,72]),(20,[0,1,3,12,13,14]),(21,[0,1,3,9,12,13,14]),(22,[0,1,3,12,13,14]),(23,[0,1,3,12,13,14]),(1000001,[0,1,3,12,13,14]),(2007042,[]),(2011005,[]),(9000016,[5,0,0,0]),(9000018,[6,0,0,0]),(9500021,[])]
def Qlp (p1:(List UInt8)) (p2:(List Qab)) (p3:(List Qah)) (h0_0:(List Qae)) (v14:Int) (h0_2_:(List UInt8)) (h0_3_:Bool) (h1_0_:(List (Qaf×Int))) (h2_0_:Int) (x4:Qab) (y9:(List Qah)×Int):St:=⟨[(0,.ptr 0 0),(1,.p (sV p1)),(3,.p (.sl false (p3.map Qal))),(9,.ptr 3 0),(11,.x 0 1 (.sl 46 3 (y9.1.map Qal))),(12,.p (.sl false (p2.map Qaa))),(13,.p (iV (p2.length:Int))),(14,.p (iV v14))],⟨[[.p (.sl false (h0_0.map Qaj)),.mh 1,.p (sV h0_2_),.p (bV h0_3_),.fn (.func 64) [] [.ptr 2 0]],[mpD (fun x =>.agg (Qan x)) iV h1_0_],[.p (iV y9.2)],[.p (iV x4.Kind),.p (sV x4.Name),.p (sV x4.Text),.p (iV x4.N),.p (.sl false (x4.L.map Qaa)),.p (.sl false (x4.Then.map Qaa)),.p (.sl false (x4.Else.map Qaa))]],[1]⟩⟩
def Qlq (p1:(List UInt8)) (p2:(List Qab)) (p3:(List Qah)) (h0_0:(List Qae)) (v14:Int) (h0_2_:(List UInt8)) (h0_3_:Bool) (h1_0_:(List (Qaf×Int))) (h2_0_:Int) (x4:Qab) (y10:(List UInt8)×Bool×(List (Qaf×Int))×Int):St:=⟨[(0,.ptr 0 0),(1,.p (sV p1)),(3,.p (.sl false (p3.map Qal))),(12,.p (.sl false (p2.map Qaa))),(13,.p (iV (p2.length:Int))),(14,.p (iV v14))],⟨[[.p (.sl false (h0_0.map Qaj)),.mh 1,.p (sV y10.1),.p (bV y10.2.1),.fn (.func 64) [] [.ptr 2 0]],[mpD (fun x =>.agg (Qan x)) iV y10.2.2.1],[.p (iV y10.2.2.2)],[.p (iV x4.Kind),.p (sV x4.Name),.p (sV x4.Text),.p (iV x4.N),.p (.sl false (x4.L.map Qaa)),.p (.sl false (x4.Then.map Qaa)),.p (.sl false (x4.Else.map Qaa))]],[1]⟩⟩
def Qlr (p1:(List UInt8)) (p2:(List Qab)) (p3:(List Qah)) (h0_0:(List Qae)) (v14:Int) (h0_2_:(List UInt8)) (h0_3_:Bool) (h1_0_:(List (Qaf×Int))) (h2_0_:Int) (x4:Qab) (y11:Unit):St:=⟨[],⟨[[.p (.sl false (h0_0.map Qaj)),.mh 1,.p (sV p1),.p (bV true),.fn (.func 64) [] [.ptr 2 0]],[mpD (fun x =>.agg (Qan x)) iV h1_0_],[.p (iV h2_0_)],[.p (iV x4.Kind),.p (sV x4.Name),.p (sV x4.Text),.p (iV x4.N),.p (.sl false (x4.L.map Qaa)),.p (.sl false (x4.Then.map Qaa)),.p (.sl false (x4.Else.map Qaa))]],[1]⟩⟩
def Qls (p1:(List UInt8)) (p2:(List Qab)) (p3:(List Qah)) (h0_0:(List Qae)) (v14:Int) (h0_2_:(List UInt8)) (h0_3_:Bool) (h1_0_:(List (Qaf×Int))) (h2_0_:Int) (x4:Qab) (x6:Bool) (x7:(List Qah)) (o13:Bool):St:=⟨[(0,.ptr 0 0),(1,.p (sV p1)),(3,.p (.sl false (p3.map Qal))),(9,.ptr 3 0),(10,.p (bV x6)),(11,.x 0 1 (.sl 46 3 (x7.map Qal))),(12,.p (.sl false (p2.map Qaa))),(13,.p (iV (p2.length:Int))),(14,.p (iV v14)),(34,.p (iV x4.Kind)),(43,.p (bV o13))],⟨[[.p (.sl false (h0_0.map Qaj)),.mh 1,.p (sV h0_2_),.p (bV h0_3_),.fn (.func 64) [] [.ptr 2 0]],[mpD (fun x =>.agg (Qan x)) iV h1_0_],[.p (iV h2_0_)],[.p (iV x4.Kind),.p (sV x4.Name),.p (sV x4.Text),.p (iV x4.N),.p (.sl false (x4.L.map Qaa)),.p (.sl false (x4.Then.map Qaa)),.p (.sl false (x4.Else.map Qaa))]],[1]⟩⟩
def Qbt (p1:(List UInt8)) (p2:(List Qab)) (p3:(List Qah)) (h0_0:(List Qae)) (v14:Int) (h0_2_:(List UInt8)) (h0_3_:Bool) (h1_0_:(List (Qaf×Int))) (h2_0_:Int):St:=⟨[(0,.ptr 0 0),(1,.p (sV p1)),(3,.p (.sl false (p3.map Qal))),(12,.p (.sl false (p2.map Qaa))),(13,.p (iV (p2.length:Int))),(14,.p (iV v14))],⟨[[.p (.sl false (h0_0.map Qaj)),.mh 1,.p (sV h0_2_),.p (bV h0_3_),.fn (.func 64) [] [.ptr 2 0]],[mpD (fun x =>.agg (Qan x)) iV h1_0_],[.p (iV h2_0_)]],[]⟩⟩
def Qfm (p1:(List UInt8)) (p2:(List Qab)) (p3:(List Qah)) (h0_0:(List Qae)) (y2:(List UInt8)×Bool×(List (Qaf×Int))×Int):St:=⟨[],⟨[[.p (.sl false (h0_0.map Qaj)),.mh 1,.p (sV y2.1),.p (bV y2.2.1),.fn (.func 64) [] [.ptr 2 0]],[mpD (fun x =>.agg (Qan x)) iV y2.2.2.1],[.p (iV y2.2.2.2)]],[]⟩⟩
def Qfn (p1:(List UInt8)) (p2:(List Qab)) (p3:(List Qah)) (h0_0:(List Qae)) (y3:(List UInt8)×Bool×(List (Qaf×Int))×Int):St:=⟨[],⟨[[.p (.sl false (h0_0.map Qaj)),.mh 1,.p (sV y3.1),.p (bV y3.2.1),.fn (.func 64) [] [.ptr 2 0]],[mpD (fun x =>.agg (Qan x)) iV y3.2.2.1],[.p (iV y3.2.2.2)]],[]⟩⟩
def Qlt:Code:=((Qa3 (Tryz.f85.body.getD .skip)).getD 0 .skip)
def Qgk (_:(List UInt8)×Bool×(List (Qaf×Int))):D :=.tup []
def Qqs:List (Nat×List Nat):=[(0,[0,3]),(1,[0,3,12]),(2,[0,3]),(3,[0,3,4]),(4,[]),(5000001,[2005]),(9000002,[5,0,0,0]),(9800002,[5]),(7000002,[0,3,16,17])]
def Qfj (_:(List UInt8)×Bool×(List (Qaf×Int))×Int):D :=.tup []
def Qok:List (Nat×List Nat):=[(0,[0,3]),(1,[0,3,12]),(2,[0,3]),(3,[0,3,4]),(4,[]),(5000001,[2005]),(9000002,[5,0,0,0]),(9800002,[5]),(7000002,[0,3,16,17])]
def Qcz (y:(List Qah)):D :=.x 0 1 (.sl 46 3 (y.map Qal))
def Qhz:List (Nat×List Nat):=[(0,[0]),(1,[0,4]),(2,[2]),(3,[2]),(9000001,[1,0,0,0]),(9000003,[2,0,0,0])]
def Qbr (y:Bool):D :=.p (bV y)
def Qdh:List (Nat×List Nat):=[(0,[0,1]),(1,[4])]
def Qbf (y:Int):D :=.p (iV y)
def Qbx:List (Nat×List Nat):=[(0,[0,1]),(1,[0,1,7,8]),(2,[0,1,7,8,9]),(3,[0,1,5,7,8]),(4,[0,1,5,7,8,16]),(5,[4]),(6,[0,1,7,8]),(7,[4]),(1000002,[0,1,7,8])]
def Qba (p0:(List Qab)) (h0_0:(List Qah)) (v8:Int):St:=⟨[(0,.p (.sl false (p0.map Qaa))),(1,.fn (.func 57) [] [.ptr 0 0]),(7,.p (iV (p0.length:Int))),(8,.p (iV v8))],⟨[[.p (.sl false (h0_0.map Qal))]],[]⟩⟩
def Qbp (p0:(List Qab)) (h0_0:(List Qah)) (y2:Unit):St:=⟨[],⟨[[.p (.sl false (h0_0.map Qal))]],[]⟩⟩
def Qbq (p0:(List Qab)) (h0_0:(List Qah)) (y3:Int):St:=⟨[(4,.p (iV y3))],⟨[[.p (.sl false (h0_0.map Qal))]],[]⟩⟩
def Qdj:Code:=((Qa3 (Tryz.f83.body.getD .skip)).getD 0 .skip)
def Qre (p0:(List UInt8)):Option (Int×Bool) :=
 need (p0.length≤9223372036854775807)>>=fun _ =>
 some (Qx8 p0)
theorem Q32:∀ (p0:(List UInt8)) (o:Int×Bool),Qre p0=some o→PCall Tryz.prog 160 [sV p0] (Qv3 o):=by
 intro p0 o h;unfold Qre at h;obtain⟨h1,h⟩:=Q6d h;cases h;exact Qabv _ h1
def Quc (p0:Int):Option (Bool) :=
 ( if(p0==32) then
   some true
  else
   if(p0==9) then
    some true
   else
    if(p0==10) then
     some true
    else
     some (p0==13):Option (Bool))>>=fun o1 =>
 some o1
theorem Q69:∀ (p0:Int) (o:Bool),Quc p0=some o→PCall Tryz.prog 158 [nV .u8 p0] (Qsx o):=by
 intro p0 o h;unfold Quc at h;refine PCall.ofB mixed tbOk Q61 Tryz.func158 rfl (by kernel_rfl) (Nat.le_of_ble_eq_true rfl) ?_;refine Qam h (fun o1 ho hk=>?_);refine Exists.intro (JP1 _ _ o1 .normal (Q0q )) (And.intro ?_ (Qbe ?_))
 ·have h:=ho;refine Qad h (fun hb h=>?_) (fun hb h=>?_)
  ·refine bT ?_;refine bT ?_;refine JP1.a h ?_;exact Le.tz 0 0 rfl rfl rfl
  ·refine Qad h (fun hb h=>?_) (fun hb h=>?_)
   ·refine bT ?_;refine JP1.a h ?_;exact Le.tz 0 0 rfl rfl rfl
   ·refine Qad h (fun hb h=>?_) (fun hb h=>?_)
    ·refine JP1.a h ?_;exact Le.tz 0 0 rfl rfl rfl
    ·refine JP1.a h ?_;exact Le.tz 0 0 rfl rfl rfl
 ·have h:=hk;refine Qav (t:=Qsx) h ?_;exact .refl _
def Qe3 (p0:(List UInt8)) (v1:Int):Option (Int) :=
 ( if(decide (v1<(p0.length:Int))) then
   idx p0 v1>>=fun x3 =>
   Quc (x3.toNat:Int)>>=fun x4 =>
   some x4
  else
   some false:Option (Bool))>>=fun o2 =>
 if o2 then
  Qe3 p0 (wr (v1+1))
 else
  some v1
 partial_fixpoint
theorem Qab4:∀ (p0:(List UInt8)),(∀ (v1:Int) (o1:Int),Qe3 p0 v1=some o1→TL (0,0) Tryz.prog 18 Qy3 (JP1 (0,0) 18 o1 (.exit 0) (Qo4 p0)) (Qkf p0 v1)):=by
 intro p0;refine Qe3.partial_correctness p0 _ ?_;intro Qe3' iQe3 v1 o1 h;refine TL.round (Qas mixed tbOk (lv:=Qty) _ _ _ ?_);refine Qam h (fun o2 ho hk=>?_);refine Exists.intro (JP1 _ _ o2 .normal (Qy2 p0 v1)) (And.intro ?_ (Qbe ?_))
 ·have h:=ho;refine vrfl ?_;refine Qad h (fun hb h=>?_) (fun hb h=>?_)
  ·refine Qd8 h (fun x3 hi h=>?_);refine Qat [nV .u8 (x3.toNat:Int)] Qsx h (fun x4 hy=>(Q69 (x3.toNat:Int) x4 hy)) (fun x4 hy h=>?_);refine JP1.a h ?_;exact Le.tz 0 0 rfl rfl rfl
  ·refine JP1.a h ?_;exact Le.tz 0 0 rfl rfl rfl
 ·have h:=hk;refine Qad h (fun hb h=>?_) (fun hb h=>?_)
  ·refine TL.le (τ := Qkf p0 (wr (v1+1))) ?_ ((iQe3 (wr (v1+1)) _ h));exact Le.tz 0 0 rfl rfl rfl
  ·exact JP1.a h (Le.tz 0 0 rfl rfl rfl)
def Qi6 (p0:(List UInt8)) (p1:Int):Option (Int) :=
 (Qe3 p0 p1)>>=fun o1 =>
 some o1
theorem Qud:∀ (p0:(List UInt8)) (p1:Int) (o:Int),Qi6 p0 p1=some o→PCall Tryz.prog 140 [sV p0,iV p1] (Ql9 o):=by
 intro p0 p1 o h;unfold Qi6 at h;refine PCall.ofB mixed tbOk Qty Tryz.func140 rfl (by kernel_rfl) (Nat.le_of_ble_eq_true rfl) ?_;refine Qam h (fun o1 ho hk=>?_);refine Exists.intro (JP1 _ _ o1 (.exit 0) (Qo4 p0)) (And.intro (Qkn (τ := Qkf p0 p1) ?_ (TL.loop (Qab4 p0 p1 o1 ho))) (Qbe ?_))
 ·exact Le.tz 0 0 rfl rfl rfl
 have h:=hk;refine Qav (t:=Ql9) h ?_;exact .refl _
def Qi7 (p0:(List UInt8)) (p1:Int) (x1:UInt8) (v9:Int):Option (Unit⊕(Int×Int)) :=
 if(decide (v9<([46,40,41,44,61].length:Int))) then
  idx ([46,40,41,44,61]:List UInt8) v9>>=fun x6 =>
  if((x6.toNat:Int)==(x1.toNat:Int)) then
   idx ([7,8,9,10,11]:List Int) v9>>=fun x7 =>
   some (.inr (x7,x7))
  else
   Qi7 p0 p1 x1 (wr (v9+1))
 else
  some (.inl ())
 partial_fixpoint
theorem Qae8:∀ (p0:(List UInt8)) (p1:Int) (x1:UInt8),(∀ (v9:Int) (o3:Unit⊕(Int×Int)),Qi7 p0 p1 x1 v9=some o3→TL (0,0) Tryz.prog 133 Q62 (JP2 (0,0) 133 o3 (.exit 0) (Qtz p0 p1 x1) .ret (Qt0 p0 p1 x1)) (Qog p0 p1 x1 v9)):=by
 intro p0 p1 x1;refine Qi7.partial_correctness p0 p1 x1 _ ?_;intro Qi7' iQi7 v9 o3 h;refine TL.round (Qas mixed tbOk (lv:=Qrd) _ _ _ ?_);refine vrfl ?_;refine Qad h (fun hb h=>?_) (fun hb h=>?_)
 ·refine Qd8 h (fun x6 hi h=>?_);refine Qad h (fun hb h=>?_) (fun hb h=>?_)
  ·refine Qbu (l:=[7,8,9,10,11]) (c:=cInt) (c' := cInt) h (fun _=>rfl) (fun _=>rfl) (by decide) (fun x7 hi h=>?_);exact JP2.b h (Le.tz 2 0 rfl rfl rfl)
  ·refine TL.le (τ := Qog p0 p1 x1 (wr (v9+1))) ?_ ((iQi7 (wr (v9+1)) _ h));exact Le.tz 2 0 rfl rfl rfl
 ·exact JP2.a h (Le.tz 2 0 rfl rfl rfl)
def Qi8 (p0:(List UInt8)) (p1:Int) (v12:Int):Option (Int) :=
 ( if(decide (v12<(p0.length:Int))) then
   idx p0 v12>>=fun x12 =>
   Qgp (x12.toNat:Int)>>=fun x13 =>
   if x13 then
    some true
   else
    idx p0 v12>>=fun x14 =>
    Qgo (x14.toNat:Int)>>=fun x15 =>
    if x15 then
     some true
    else
     idx p0 v12>>=fun x16 =>
     some ((x16.toNat:Int)==95)
  else
   some false:Option (Bool))>>=fun o11 =>
 if o11 then
  Qi8 p0 p1 (wr (v12+1))
 else
  some v12
 partial_fixpoint
theorem Qae9:∀ (p0:(List UInt8)) (p1:Int),(∀ (v12:Int) (o10:Int),Qi8 p0 p1 v12=some o10→TL (0,0) Tryz.prog 133 Q64 (JP1 (0,0) 133 o10 (.exit 2) (Qt1 p0 p1)) (Qoh p0 p1 v12)):=by
 intro p0 p1;refine Qi8.partial_correctness p0 p1 _ ?_;intro Qi8' iQi8 v12 o10 h;refine TL.round (Qas mixed tbOk (lv:=Qrd) _ _ _ ?_);refine Qam h (fun o11 ho hk=>?_);refine Exists.intro (JP1 _ _ o11 .normal (Q63 p0 p1 v12)) (And.intro ?_ (Qbe ?_))
 ·have h:=ho;refine vrfl ?_;refine Qad h (fun hb h=>?_) (fun hb h=>?_)
  ·refine Qd8 h (fun x12 hi h=>?_);refine Qat [nV .u8 (x12.toNat:Int)] Qis h (fun x13 hy=>(Ql8 (x12.toNat:Int) x13 hy)) (fun x13 hy h=>?_);refine Qad h (fun hb h=>?_) (fun hb h=>?_)
   ·refine bT ?_;refine JP1.a h ?_;exact Le.tz 2 0 rfl rfl rfl
   ·refine Qd8 h (fun x14 hi h=>?_);refine Qat [nV .u8 (x14.toNat:Int)] Qir h (fun x15 hy=>(Ql7 (x14.toNat:Int) x15 hy)) (fun x15 hy h=>?_);refine Qad h (fun hb h=>?_) (fun hb h=>?_)
    ·refine JP1.a h ?_;exact Le.tz 2 0 rfl rfl rfl
    ·refine Qd8 h (fun x16 hi h=>?_);refine JP1.a h ?_;exact Le.tz 2 0 rfl rfl rfl
  ·refine JP1.a h ?_;exact Le.tz 2 0 rfl rfl rfl
 ·have h:=hk;refine Qad h (fun hb h=>?_) (fun hb h=>?_)
  ·refine TL.le (τ := Qoh p0 p1 (wr (v12+1))) ?_ ((iQi8 (wr (v12+1)) _ h));exact Le.tz 2 0 rfl rfl rfl
  ·exact JP1.a h (Le.tz 2 0 rfl rfl rfl)
def Qi9 (p0:(List UInt8)) (p1:Int) (v12:Int):Option (Int) :=
 ( if(decide (v12<(p0.length:Int))) then
   idx p0 v12>>=fun x24 =>
   Qgo (x24.toNat:Int)>>=fun x25 =>
   some x25
  else
   some false:Option (Bool))>>=fun o23 =>
 if o23 then
  Qi9 p0 p1 (wr (v12+1))
 else
  some v12
 partial_fixpoint
theorem Qafa:∀ (p0:(List UInt8)) (p1:Int),(∀ (v12:Int) (o22:Int),Qi9 p0 p1 v12=some o22→TL (0,0) Tryz.prog 133 Q67 (JP1 (0,0) 133 o22 (.exit 4) (Qt2 p0 p1)) (Qoi p0 p1 v12)):=by
 intro p0 p1;refine Qi9.partial_correctness p0 p1 _ ?_;intro Qi9' iQi9 v12 o22 h;refine TL.round (Qas mixed tbOk (lv:=Qrd) _ _ _ ?_);refine Qam h (fun o23 ho hk=>?_);refine Exists.intro (JP1 _ _ o23 .normal (Q66 p0 p1 v12)) (And.intro ?_ (Qbe ?_))
 ·have h:=ho;refine vrfl ?_;refine Qad h (fun hb h=>?_) (fun hb h=>?_)
  ·refine Qd8 h (fun x24 hi h=>?_);refine Qat [nV .u8 (x24.toNat:Int)] Qir h (fun x25 hy=>(Ql7 (x24.toNat:Int) x25 hy)) (fun x25 hy h=>?_);refine JP1.a h ?_;exact Le.tz 2 0 rfl rfl rfl
  ·refine JP1.a h ?_;exact Le.tz 2 0 rfl rfl rfl
 ·have h:=hk;refine Qad h (fun hb h=>?_) (fun hb h=>?_)
  ·refine TL.le (τ := Qoi p0 p1 (wr (v12+1))) ?_ ((iQi9 (wr (v12+1)) _ h));exact Le.tz 2 0 rfl rfl rfl
  ·exact JP1.a h (Le.tz 2 0 rfl rfl rfl)
def Qc9 (p0:(List UInt8)) (v1:Int) (v6:(List UInt8)):Option (Unit⊕((List UInt8)×Int)) :=
 if(decide (v1<(p0.length:Int))) then
  idx p0 v1>>=fun x4 =>
  if((x4.toNat:Int)==34) then
   some (.inr (v6,(wr (v1+1))))
  else
   idx p0 v1>>=fun x5 =>
   if((x5.toNat:Int)==92) then
    if((wr (v1+1))==(p0.length:Int)) then
     some (.inr ([],(-1)))
    else
     ( idx p0 (wr (v1+1))>>=fun x7 =>
      some (x7.toNat:Int):Option (Int))>>=fun o6 =>
     if(o6==110) then
      need (v6.length+[10].length≤9223372036854775807)>>=fun _ =>
      Qc9 p0 (wr (v1+2)) (v6++[10])
     else
      if(o6==116) then
       need (v6.length+[9].length≤9223372036854775807)>>=fun _ =>
       Qc9 p0 (wr (v1+2)) (v6++[9])
      else
       ( if(o6==34) then
         some true
        else
         some (o6==92):Option (Bool))>>=fun o8 =>
       if o8 then
        cutL p0 (wr (v1+1)) (wr (v1+2))>>=fun x9 =>
        need (v6.length+x9.length≤9223372036854775807)>>=fun _ =>
        Qc9 p0 (wr (v1+2)) (v6++x9)
       else
        some (.inr ([],(-1)))
   else
    Qku p0 v1>>=fun x10 =>
    ( if(x10.1==10) then
      some true
     else
      if(x10.1==13) then
       some true
      else
       if(x10.1==65533) then
        some (x10.2==1)
       else
        some false:Option (Bool))>>=fun o11 =>
    if o11 then
     some (.inr ([],(-1)))
    else
     cutL p0 v1 (wr (v1+x10.2))>>=fun x12 =>
     need (v6.length+x12.length≤9223372036854775807)>>=fun _ =>
     Qc9 p0 (wr (v1+x10.2)) (v6++x12)
 else
  some (.inl ())
 partial_fixpoint
theorem Qab5:∀ (p0:(List UInt8)),(∀ (v1:Int) (v6:(List UInt8)) (o1:Unit⊕((List UInt8)×Int)),Qc9 p0 v1 v6=some o1→TL (0,0) Tryz.prog 91 Qy8 (JP2 (0,0) 91 o1 (.exit 0) (Qo5 p0) .ret (Qo6 p0)) (Qea p0 v1 v6)):=by
 intro p0;refine Qc9.partial_correctness p0 _ ?_;intro Qc9' iQc9 v1 v6 o1 h;refine TL.round (Qas mixed tbOk (lv:=Qt3) _ _ _ ?_);refine vrfl ?_;refine Qad h (fun hb h=>?_) (fun hb h=>?_)
 ·refine Qd8 h (fun x4 hi h=>?_);refine Qad h (fun hb h=>?_) (fun hb h=>?_)
  ·exact JP2.b h (Le.tz 0 0 rfl rfl rfl)
  ·refine Qd8 h (fun x5 hi h=>?_);refine Qad h (fun hb h=>?_) (fun hb h=>?_)
   ·refine vrfl ?_;refine Qad h (fun hb h=>?_) (fun hb h=>?_)
    ·exact JP2.b h (Le.tz 0 0 rfl rfl rfl)
    ·refine Qam h (fun o6 ho hk=>?_);refine Exists.intro (JP1 _ _ o6 .normal (Qy5 p0 v1 v6)) (And.intro ?_ (Qbe ?_))
     ·have h:=ho;refine Qd8 h (fun x7 hi h=>?_);refine JP1.a h ?_;exact Le.tz 0 0 rfl rfl rfl
     ·have h:=hk;refine Qad h (fun hb h=>?_) (fun hb h=>?_)
      ·refine Qu3 h (fun h=>?_);refine TL.le (τ := Qea p0 (wr (v1+2)) (v6++[10])) ?_ ((iQc9 (wr (v1+2)) (v6++[10]) _ h));exact Le.tz 0 0 rfl rfl rfl
      ·refine Qad h (fun hb h=>?_) (fun hb h=>?_)
       ·refine Qu3 h (fun h=>?_);refine TL.le (τ := Qea p0 (wr (v1+2)) (v6++[9])) ?_ ((iQc9 (wr (v1+2)) (v6++[9]) _ h));exact Le.tz 0 0 rfl rfl rfl
       ·refine Qam h (fun o8 ho hk=>?_);refine Exists.intro (JP1 _ _ o8 .normal (Qy6 p0 v1 v6)) (And.intro ?_ (Qbe ?_))
        ·have h:=ho;refine Qad h (fun hb h=>?_) (fun hb h=>?_)
         ·refine JP1.a h ?_;exact Le.tz 0 0 rfl rfl rfl
         ·refine JP1.a h ?_;exact Le.tz 0 0 rfl rfl rfl
        ·have h:=hk;refine Qad h (fun hb h=>?_) (fun hb h=>?_)
         ·refine Qj4 (some (wr (v1+1))) (some (wr (v1+2))) h (fun x9 hi h=>?_);refine Qu3 h (fun h=>?_);refine TL.le (τ := Qea p0 (wr (v1+2)) (v6++x9)) ?_ ((iQc9 (wr (v1+2)) (v6++x9) _ h));exact Le.tz 0 0 rfl rfl rfl
         ·exact JP2.b h (Le.tz 0 0 rfl rfl rfl)
   ·refine Qat [sV p0,iV v1] Qm7 h (fun x10 hy=>(Q80 p0 v1 x10 hy)) (fun x10 hy h=>?_);refine Qam h (fun o11 ho hk=>?_);refine Exists.intro (JP1 _ _ o11 .normal (Qy7 p0 v1 v6 x10)) (And.intro ?_ (Qbe ?_))
    ·have h:=ho;refine Qad h (fun hb h=>?_) (fun hb h=>?_)
     ·refine bT ?_;refine JP1.a h ?_;exact Le.tz 0 0 rfl rfl rfl
     ·refine Qad h (fun hb h=>?_) (fun hb h=>?_)
      ·refine JP1.a h ?_;exact Le.tz 0 0 rfl rfl rfl
      ·refine Qad h (fun hb h=>?_) (fun hb h=>?_)
       ·refine JP1.a h ?_;exact Le.tz 0 0 rfl rfl rfl
       ·refine JP1.a h ?_;exact Le.tz 0 0 rfl rfl rfl
    ·have h:=hk;refine Qad h (fun hb h=>?_) (fun hb h=>?_)
     ·exact JP2.b h (Le.tz 0 0 rfl rfl rfl)
     ·refine Qj4 (some v1) (some (wr (v1+x10.2))) h (fun x12 hi h=>?_);refine Qu3 h (fun h=>?_);refine TL.le (τ := Qea p0 (wr (v1+x10.2)) (v6++x12)) ?_ ((iQc9 (wr (v1+x10.2)) (v6++x12) _ h));exact Le.tz 0 0 rfl rfl rfl
 ·exact JP2.a h (Le.tz 0 0 rfl rfl rfl)
def Qk3 (p0:(List UInt8)) (p1:Int):Option ((List UInt8)×Int) :=
 (Qc9 p0 (wr (p1+1)) [])>>=fun o1 =>
 match o1 with
 | .inl y2 =>
  some ([],(-1))
 | .inr y3 =>
  some (y3.1,y3.2)
theorem Q33:∀ (p0:(List UInt8)) (p1:Int) (o:(List UInt8)×Int),Qk3 p0 p1=some o→PCall Tryz.prog 159 [sV p0,iV p1] (Qma o):=by
 intro p0 p1 o h;unfold Qk3 at h;refine PCall.ofB mixed tbOk Qt3 Tryz.func159 rfl (by kernel_rfl) (Nat.le_of_ble_eq_true rfl) ?_;refine Qam h (fun o1 ho hk=>?_);refine Exists.intro (JP2 _ _ o1 (.exit 0) (Qo5 p0) .ret (Qo6 p0)) (And.intro (Qkn (τ := Qea p0 (wr (p1+1)) []) ?_ (TL.loop (Qab5 p0 (wr (p1+1)) [] o1 ho))) (Qin (fun y2 hy=>?_) (fun y3 hy=>?_)))
 ·exact Le.tz 0 0 rfl rfl rfl
 ·have h:=(by rw[hy] at hk; exact hk);refine Qav (t:=Qma) h ?_;exact .refl _
 ·have h:=(by rw[hy] at hk; exact hk);refine Qav (t:=Qma) h ?_;exact .refl _
def Qvd (p0:(List UInt8)) (p1:Int):Option (Qai×Bool) :=
 idx p0 p1>>=fun x1 =>
 Qf9 p0 [125,125] p1>>=fun x2 =>
 if x2 then
  some ((Qai.mk 3 [] 0 p1 (wr (p1+2))),true)
 else
  (Qi7 p0 p1 x1 0)>>=fun o3 =>
  match o3 with
  | .inl y4 =>
   if((x1.toNat:Int)==34) then
    Qk3 p0 p1>>=fun x8 =>
    some ((Qai.mk 5 x8.1 0 p1 x8.2),(decide (x8.2>0)))
   else
    Qgp (x1.toNat:Int)>>=fun x9 =>
    if x9 then
     (Qi8 p0 p1 (wr (p1+1)))>>=fun o10 =>
     cutL p0 p1 o10>>=fun x17 =>
     cutL p0 p1 o10>>=fun x18 =>
     Qji x18>>=fun x19 =>
     some ((Qai.mk 4 x17 0 p1 o10),x19)
    else
     ( if((x1.toNat:Int)==45) then
       some true
      else
       Qgo (x1.toNat:Int)>>=fun x21 =>
       some x21:Option (Bool))>>=fun o20 =>
     if o20 then
      (Qi9 p0 p1 (wr (p1+1)))>>=fun o22 =>
      cutL p0 p1 o22>>=fun x26 =>
      Qre x26>>=fun x27 =>
      some ((Qai.mk 6 [] x27.1 p1 o22),x27.2)
     else
      some ((Qai.mk 0 [] 0 p1 (wr (p1+1))),false)
  | .inr y5 =>
   some ((Qai.mk y5.1 [] 0 p1 (wr (p1+1))),true)
theorem Qab6:∀ (p0:(List UInt8)) (p1:Int) (o:Qai×Bool),Qvd p0 p1=some o→PCall Tryz.prog 142 [sV p0,iV p1] (Qjv o):=by
 intro p0 p1 o h;unfold Qvd at h;refine PCall.ofB mixed tbOk Qrd Tryz.func142 rfl (by kernel_rfl) (Nat.le_of_ble_eq_true rfl) ?_;refine Qd8 h (fun x1 hi h=>?_);refine Qat [sV p0,sV [125,125],iV p1] Qjp h (fun x2 hy=>(Qod p0 [125,125] p1 x2 hy)) (fun x2 hy h=>?_);refine Qad h (fun hb h=>?_) (fun hb h=>?_)
 ·refine Qav (t:=Qjv) h ?_;exact .refl _
 ·refine Qam h (fun o3 ho hk=>?_);refine Exists.intro (JP2 _ _ o3 (.exit 0) (Qtz p0 p1 x1) .ret (Qt0 p0 p1 x1)) (And.intro (Qkn (τ := Qog p0 p1 x1 0) ?_ (TL.loop (Qae8 p0 p1 x1 0 o3 ho))) (Qin (fun y4 hy=>?_) (fun y5 hy=>?_)))
  ·exact Le.tz 2 0 rfl rfl rfl
  ·have h:=(by rw[hy] at hk; exact hk);refine Qad h (fun hb h=>?_) (fun hb h=>?_)
   ·refine Qat [sV p0,iV p1] Qma h (fun x8 hy=>(Q33 p0 p1 x8 hy)) (fun x8 hy h=>?_);refine Qav (t:=Qjv) h ?_;exact .refl _
   ·refine Qat [nV .u8 (x1.toNat:Int)] Qis h (fun x9 hy=>(Ql8 (x1.toNat:Int) x9 hy)) (fun x9 hy h=>?_);refine Qad h (fun hb h=>?_) (fun hb h=>?_)
    ·refine Qam h (fun o10 ho hk=>?_);refine Exists.intro (JP1 _ _ o10 (.exit 2) (Qt1 p0 p1)) (And.intro (Qkn (τ := Qoh p0 p1 (wr (p1+1))) ?_ (TL.loop (Qae9 p0 p1 (wr (p1+1)) o10 ho))) (Qbe ?_))
     ·exact Le.tz 2 0 rfl rfl rfl
     have h:=hk;refine And.intro (by decide +kernel) (And.intro rfl ?_);refine Qj4 (some p1) (some o10) h (fun x17 hi h=>?_);refine Qj4 (some p1) (some o10) h (fun x18 hi h=>?_);refine Qd4 [sV x18] Qiq h (fun x19 hy=>(Qsr x18 x19 hy)) (fun x19 hy h=>?_);refine Qav (t:=Qjv) h ?_;exact .refl _
    ·refine Qam h (fun o20 ho hk=>?_);refine Exists.intro (JP1 _ _ o20 .normal (Q65 p0 p1)) (And.intro ?_ (Qbe ?_))
     ·have h:=ho;refine Qad h (fun hb h=>?_) (fun hb h=>?_)
      ·refine JP1.a h ?_;exact Le.tz 2 0 rfl rfl rfl
      ·refine Qat [nV .u8 (x1.toNat:Int)] Qir h (fun x21 hy=>(Ql7 (x1.toNat:Int) x21 hy)) (fun x21 hy h=>?_);refine JP1.a h ?_;exact Le.tz 2 0 rfl rfl rfl
     ·have h:=hk;refine Qad h (fun hb h=>?_) (fun hb h=>?_)
      ·refine Qam h (fun o22 ho hk=>?_);refine Exists.intro (JP1 _ _ o22 (.exit 4) (Qt2 p0 p1)) (And.intro (Qkn (τ := Qoi p0 p1 (wr (p1+1))) ?_ (TL.loop (Qafa p0 p1 (wr (p1+1)) o22 ho))) (Qbe ?_))
       ·exact Le.tz 2 0 rfl rfl rfl
       have h:=hk;refine Qj4 (some p1) (some o22) h (fun x26 hi h=>?_);refine Qat [sV x26] Qv3 h (fun x27 hy=>(Q32 x26 x27 hy)) (fun x27 hy h=>?_);refine Qav (t:=Qjv) h ?_;exact .refl _
      ·refine Qav (t:=Qjv) h ?_;exact .refl _
  ·have h:=(by rw[hy] at hk; exact hk);refine Qav (t:=Qjv) h ?_;exact .refl _
def Qe4 (p0:(List UInt8)) (v5_:(List Qai)) (v6_:Int):Option (((List Qai)×Int)⊕Int) :=
 Qi6 p0 v6_>>=fun x16 =>
 if(x16==(p0.length:Int)) then
  some (.inr x16)
 else
  Qvd p0 x16>>=fun x17 =>
  if(!x17.2) then
   some (.inr x16)
  else
   appL 48 v5_ [x17.1]>>=fun x18 =>
   if(x17.1.Kind==3) then
    some (.inl (x18,x17.1.To))
   else
    Qe4 p0 x18 x17.1.To
 partial_fixpoint
theorem Qab7:∀ (p0:(List UInt8)),(∀ (v5_:(List Qai)) (v6_:Int) (o13:((List Qai)×Int)⊕Int),Qe4 p0 v5_ v6_=some o13→TL (0,0) Tryz.prog 83 Qy0 (JP2 (0,0) 83 o13 (.exit 2) (Qo0 p0) .ret (Qo1 p0)) (Qkd p0 v5_ v6_)):=by
 intro p0;refine Qe4.partial_correctness p0 _ ?_;intro Qe4' iQe4 v5_ v6_ o13 h;refine TL.round (Qas mixed tbOk (lv:=Qof) _ _ _ ?_);refine Qat [sV p0,iV v6_] Ql9 h (fun x16 hy=>(Qud p0 v6_ x16 hy)) (fun x16 hy h=>?_);refine vrfl ?_;refine Qad h (fun hb h=>?_) (fun hb h=>?_)
 ·exact JP2.b h (Le.tz 0 0 rfl rfl rfl)
 ·refine Qat [sV p0,iV x16] Qjv h (fun x17 hy=>(Qab6 p0 x16 x17 hy)) (fun x17 hy h=>?_);refine Qad h (fun hb h=>?_) (fun hb h=>?_)
  ·exact JP2.b h (Le.tz 0 0 rfl rfl rfl)
  ·refine Qpv (a:=v5_) (b:=[x17.1]) (c:=Qag) h (.refl _) (fun _=>rfl) rfl (fun x18 hi h=>?_);refine Qad h (fun hb h=>?_) (fun hb h=>?_)
   ·exact JP2.a h (Le.tz 0 1 rfl rfl rfl)
   ·refine TL.le (τ := Qkd p0 x18 x17.1.To) ?_ ((iQe4 x18 x17.1.To _ h));exact Le.tz 0 1 rfl rfl rfl
def Qg7 (p0:(List UInt8)) (p1:(List UInt8)) (v2:Int):Option (Int) :=
 ( if(decide (v2<(p0.length:Int))) then
   Qf9 p0 p1 v2>>=fun x3 =>
   some (!x3)
  else
   some false:Option (Bool))>>=fun o2 =>
 if o2 then
  Qg7 p0 p1 (wr (v2+1))
 else
  some v2
 partial_fixpoint
theorem Qaeh:∀ (p0:(List UInt8)) (p1:(List UInt8)),(∀ (v2:Int) (o1:Int),Qg7 p0 p1 v2=some o1→TL (0,0) Tryz.prog 21 Q3z (JP1 (0,0) 21 o1 (.exit 0) (Qsc p0 p1)) (Qmt p0 p1 v2)):=by
 intro p0 p1;refine Qg7.partial_correctness p0 p1 _ ?_;intro Qg7' iQg7 v2 o1 h;refine TL.round (Qas mixed tbOk (lv:=Qy4) _ _ _ ?_);refine Qam h (fun o2 ho hk=>?_);refine Exists.intro (JP1 _ _ o2 .normal (Q3y p0 p1 v2)) (And.intro ?_ (Qbe ?_))
 ·have h:=ho;refine vrfl ?_;refine Qad h (fun hb h=>?_) (fun hb h=>?_)
  ·refine Qat [sV p0,sV p1,iV v2] Qjp h (fun x3 hy=>(Qod p0 p1 v2 x3 hy)) (fun x3 hy h=>?_);refine JP1.a h ?_;exact Le.tz 0 0 rfl rfl rfl
  ·refine JP1.a h ?_;exact Le.tz 0 0 rfl rfl rfl
 ·have h:=hk;refine Qad h (fun hb h=>?_) (fun hb h=>?_)
  ·refine TL.le (τ := Qmt p0 p1 (wr (v2+1))) ?_ ((iQg7 (wr (v2+1)) _ h));exact Le.tz 0 0 rfl rfl rfl
  ·exact JP1.a h (Le.tz 0 0 rfl rfl rfl)
def Qol (p0:(List UInt8)) (p1:(List UInt8)) (p2:Int):Option (Int) :=
 (Qg7 p0 p1 p2)>>=fun o1 =>
 some o1
theorem Qza:∀ (p0:(List UInt8)) (p1:(List UInt8)) (p2:Int) (o:Int),Qol p0 p1 p2=some o→PCall Tryz.prog 139 [sV p0,sV p1,iV p2] (Qrc o):=by
 intro p0 p1 p2 o h;unfold Qol at h;refine PCall.ofB mixed tbOk Qy4 Tryz.func139 rfl (by kernel_rfl) (Nat.le_of_ble_eq_true rfl) ?_;refine Qam h (fun o1 ho hk=>?_);refine Exists.intro (JP1 _ _ o1 (.exit 0) (Qsc p0 p1)) (And.intro (Qkn (τ := Qmt p0 p1 p2) ?_ (TL.loop (Qaeh p0 p1 p2 o1 ho))) (Qbe ?_))
 ·exact Le.tz 0 0 rfl rfl rfl
 have h:=hk;refine Qav (t:=Qrc) h ?_;exact .refl _
def Qe5 (p0:(List UInt8)) (v5:(List Qai)) (v6:Int):Option ((List Qai)⊕((List Qai)×Int×Int)) :=
 if(decide (v6<(p0.length:Int))) then
  Qol p0 [123,123] v6>>=fun x4 =>
  ( if(decide (x4>v6)) then
    cutL p0 v6 x4>>=fun x6 =>
    appL 48 v5 [(Qai.mk 1 x6 0 v6 x4)]>>=fun x7 =>
    some x7
   else
    some v5:Option ((List Qai)))>>=fun o5 =>
  if(x4==(p0.length:Int)) then
   some (.inr (o5,0,0))
  else
   appL 48 o5 ([(Qai.mk 2 [] 0 x4 (wr (x4+2)))])>>=fun x8 =>
   Qi6 p0 (wr (x4+2))>>=fun x9 =>
   ( Qf9 p0 [35] x9>>=fun x11 =>
    if x11 then
     Qol p0 [125,125] x9>>=fun x12 =>
     some x12
    else
     some x9:Option (Int))>>=fun o10 =>
   (Qe4 p0 x8 o10)>>=fun o13 =>
   match o13 with
   | .inl y14 =>
    Qe5 p0 y14.1 y14.2
   | .inr y15 =>
    some (.inr ([],y15,7))
 else
  some (.inl v5)
 partial_fixpoint
theorem Qab8:∀ (p0:(List UInt8)),(∀ (v5:(List Qai)) (v6:Int) (o1:(List Qai)⊕((List Qai)×Int×Int)),Qe5 p0 v5 v6=some o1→TL (0,0) Tryz.prog 83 Qy1 (JP2 (0,0) 83 o1 (.exit 0) (Qo2 p0) .ret (Qo3 p0)) (Qke p0 v5 v6)):=by
 intro p0;refine Qe5.partial_correctness p0 _ ?_;intro Qe5' iQe5 v5 v6 o1 h;refine TL.round (Qas mixed tbOk (lv:=Qof) _ _ _ ?_);refine vrfl ?_;refine Qad h (fun hb h=>?_) (fun hb h=>?_)
 ·refine Qat [sV p0,sV [123,123],iV v6] Qrc h (fun x4 hy=>(Qza p0 [123,123] v6 x4 hy)) (fun x4 hy h=>?_);refine Qam h (fun o5 ho hk=>?_);refine Exists.intro (JP1 _ _ o5 .normal (Qyy p0 x4)) (And.intro ?_ (Qbe ?_))
  ·have h:=ho;refine Qad h (fun hb h=>?_) (fun hb h=>?_)
   ·refine Qj4 (some v6) (some x4) h (fun x6 hi h=>?_);refine Qpv (a:=v5) (b:=[(Qai.mk 1 x6 0 v6 x4)]) (c:=Qag) h (.refl _) (fun _=>rfl) rfl (fun x7 hi h=>?_);refine JP1.a h ?_;exact Le.tz 0 1 rfl rfl rfl
   ·refine JP1.a h ?_;exact Le.tz 0 1 rfl rfl rfl
  ·have h:=hk;refine vrfl ?_;refine Qad h (fun hb h=>?_) (fun hb h=>?_)
   ·exact JP2.b h (Le.tz 0 0 rfl rfl rfl)
   ·refine Qpv (a:=o5) (b:=[(Qai.mk 2 [] 0 x4 (wr (x4+2)))]) (c:=Qag) h (.refl _) (fun _=>rfl) rfl (fun x8 hi h=>?_);refine Qat [sV p0,iV (wr (x4+2))] Ql9 h (fun x9 hy=>(Qud p0 (wr (x4+2)) x9 hy)) (fun x9 hy h=>?_);refine Qam h (fun o10 ho hk=>?_);refine Exists.intro (JP1 _ _ o10 .normal (Qyz p0 x8)) (And.intro ?_ (Qbe ?_))
    ·have h:=ho;refine Qat [sV p0,sV [35],iV x9] Qjp h (fun x11 hy=>(Qod p0 [35] x9 x11 hy)) (fun x11 hy h=>?_);refine Qad h (fun hb h=>?_) (fun hb h=>?_)
     ·refine Qat [sV p0,sV [125,125],iV x9] Qrc h (fun x12 hy=>(Qza p0 [125,125] x9 x12 hy)) (fun x12 hy h=>?_);refine JP1.a h ?_;exact Le.tz 0 1 rfl rfl rfl
     ·refine JP1.a h ?_;exact Le.tz 0 1 rfl rfl rfl
    ·have h:=hk;refine Qam h (fun o13 ho hk=>?_);refine Exists.intro (JP2 _ _ o13 (.exit 2) (Qo0 p0) .ret (Qo1 p0)) (And.intro (Qkn (τ := Qkd p0 x8 o10) ?_ (TL.loop (Qab7 p0 x8 o10 o13 ho))) (Qin (fun y14 hy=>?_) (fun y15 hy=>?_)))
     ·exact Le.tz 0 1 rfl rfl rfl
     ·have h:=(by rw[hy] at hk; exact hk);refine TL.le (τ := Qke p0 y14.1 y14.2) ?_ ((iQe5 y14.1 y14.2 _ h));exact Le.tz 0 1 rfl rfl rfl
     ·have h:=(by rw[hy] at hk; exact hk);exact JP2.b h (Le.tow 0 0 rfl (.cons rfl (.p (.not)) (.cons rfl (.refl _) (.cons rfl (.refl _) (.nil)))) (.refl _) rfl)
 ·exact JP2.a h (Le.tz 0 1 rfl rfl rfl)
def Qk4 (p0:(List UInt8)):Option ((List Qai)×Int×Int) :=
 if(decide ((p0.length:Int)>65536)) then
  some ([],0,6)
 else
  (Qe5 p0 [] 0)>>=fun o1 =>
  match o1 with
  | .inl y2 =>
   some (y2,0,0)
  | .inr y3 =>
   some (y3.1,y3.2.1,y3.2.2)
theorem Q34:∀ (p0:(List UInt8)) (o:(List Qai)×Int×Int),Qk4 p0=some o→PCall Tryz.prog 115 [sV p0] (Qju o):=by
 intro p0 o h;unfold Qk4 at h;refine PCall.ofB mixed tbOk Qof Tryz.func115 rfl (by kernel_rfl) (Nat.le_of_ble_eq_true rfl) ?_;refine vrfl ?_;refine Qad h (fun hb h=>?_) (fun hb h=>?_)
 ·refine Qav (t:=Qju) h ?_;exact .tup (xs:=[.sl true [],iV 0,iV 6]) (ys:=[.sl false [],iV 0,iV 6]) (.cons (.not) (.cons (.refl _) (.cons (.refl _) (.nil))))
 ·refine Qam h (fun o1 ho hk=>?_);refine Exists.intro (JP2 _ _ o1 (.exit 0) (Qo2 p0) .ret (Qo3 p0)) (And.intro (Qkn (τ := Qke p0 [] 0) ?_ (TL.loop (Qab8 p0 [] 0 o1 ho))) (Qin (fun y2 hy=>?_) (fun y3 hy=>?_)))
  ·exact Le.trans (τ := ⟨[(0,.p (sV p0)),(5,.p (.sl true [])),(6,.p (iV 0))],⟨[],[]⟩⟩) (Le.tz 0 0 rfl rfl rfl) ((Le.own 5 147 5 rfl Q8q).trans (Le.tz 0 1 rfl rfl rfl))
  ·have h:=(by rw[hy] at hk; exact hk);refine Qav (t:=Qju) h ?_;exact .refl _
  ·have h:=(by rw[hy] at hk; exact hk);refine Qav (t:=Qju) h ?_;exact .refl _
def Qar (p1:Int) (h0_0:(List Qai)) (h0_1:Int) (h0_2:Bool):Option (Bool) :=
 ( if(!h0_2) then
   if(decide (h0_1<(h0_0.length:Int))) then
    idx h0_0 h0_1>>=fun x2 =>
    some (x2.Kind==p1)
   else
    some false
  else
   some false:Option (Bool))>>=fun o1 =>
 some o1
theorem Qa0:∀ (p1:Int) (h0_0:(List Qai)) (h0_1:Int) (h0_2:Bool) (o:Bool),Qar p1 h0_0 h0_1 h0_2=some o→CallOK Tryz.prog 143 [.ptr 0 0,.p (iV p1)] ⟨[[.p (.sl false (h0_0.map Qag)),.p (iV h0_1),.p (bV h0_2)]],[]⟩ (Qdz o) ⟨[[.p (.sl false (h0_0.map Qag)),.p (iV h0_1),.p (bV h0_2)]],[]⟩:=by
 intro p1 h0_0 h0_1 h0_2 o h;unfold Qar at h;refine CallOK.ofB mixed tbOk Qwl Tryz.func143 rfl (by kernel_rfl) (Nat.le_of_ble_eq_true rfl) rfl rfl rfl ?_;refine Qam h (fun o1 ho hk=>?_);refine Exists.intro (JP1 _ _ o1 .normal (Qt4 h0_0 h0_1 h0_2)) (And.intro ?_ (Qbe ?_))
 ·have h:=ho;refine And.intro (by decide +kernel) (And.intro rfl ?_);refine Qad h (fun hb h=>?_) (fun hb h=>?_)
  ·refine view (Qdn _ _) rfl ?_;refine Qad h (fun hb h=>?_) (fun hb h=>?_)
   ·refine Qbu (l:=h0_0) (c:=Qag) (c' := Qag) h (fun _=>rfl) (fun _=>rfl) (by decide) (fun x2 hi h=>?_);refine JP1.a h ?_;exact Le.tz 1 0 rfl rfl rfl
   ·refine JP1.a h ?_;exact Le.tz 1 0 rfl rfl rfl
  ·refine bF ?_;refine JP1.a h ?_;exact Le.tz 1 0 rfl rfl rfl
 ·have h:=hk;refine Exists.intro _ (And.intro (Le.refl _ _ _) ?_);exact Qa6 (t:=Qdz) (ss:=fun o=>⟨[[.p (.sl false (h0_0.map Qag)),.p (iV h0_1),.p (bV h0_2)]],[]⟩) h ⟨[],rfl,.refl _,.refl _,rfl⟩
def Qb5 (p1:(List UInt8)) (h0_0:(List Qai)) (h0_1:Int) (h0_2:Bool):Option (Bool) :=
 ( Qar 2 h0_0 h0_1 h0_2>>=fun x2 =>
  if x2 then
   if(decide ((wr (h0_1+1))<(h0_0.length:Int))) then
    idx h0_0 (wr (h0_1+1))>>=fun x3 =>
    if(x3.Kind==4) then
     idx h0_0 (wr (h0_1+1))>>=fun x4 =>
     some (x4.Text==p1)
    else
     some false
   else
    some false
  else
   some false:Option (Bool))>>=fun o1 =>
 some o1
theorem Qe6:∀ (p1:(List UInt8)) (h0_0:(List Qai)) (h0_1:Int) (h0_2:Bool) (o:Bool),Qb5 p1 h0_0 h0_1 h0_2=some o→CallOK Tryz.prog 145 [.ptr 0 0,.p (sV p1)] ⟨[[.p (.sl false (h0_0.map Qag)),.p (iV h0_1),.p (bV h0_2)]],[]⟩ (Qmb o) ⟨[[.p (.sl false (h0_0.map Qag)),.p (iV h0_1),.p (bV h0_2)]],[]⟩:=by
 intro p1 h0_0 h0_1 h0_2 o h;unfold Qb5 at h;refine CallOK.ofB mixed tbOk Qsy Tryz.func145 rfl (by kernel_rfl) (Nat.le_of_ble_eq_true rfl) rfl rfl rfl ?_;refine Qam h (fun o1 ho hk=>?_);refine Exists.intro (JP1 _ _ o1 .normal (Qqh h0_0 h0_1 h0_2)) (And.intro ?_ (Qbe ?_))
 ·have h:=ho;refine And.intro (by decide +kernel) (And.intro rfl ?_);refine Qn6 (fun x2=>(Qdz x2).ren [0] []) h (fun x2 hy=>(Qa0 2 h0_0 h0_1 h0_2 x2 hy).fd rfl rfl [0] rfl rfl) (fun x2 hy h=>?_);refine Qad h (fun hb h=>?_) (fun hb h=>?_)
  ·refine view (Qdn _ _) rfl ?_;refine Qad h (fun hb h=>?_) (fun hb h=>?_)
   ·refine Qbu (l:=h0_0) (c:=Qag) (c' := Qag) h (fun _=>rfl) (fun _=>rfl) (by decide) (fun x3 hi h=>?_);refine Qad h (fun hb h=>?_) (fun hb h=>?_)
    ·refine Qbu (l:=h0_0) (c:=Qag) (c' := Qag) h (fun _=>rfl) (fun _=>rfl) (by decide) (fun x4 hi h=>?_);refine JP1.a h ?_;exact Le.tz 1 0 rfl rfl rfl
    ·refine JP1.a h ?_;exact Le.tz 1 0 rfl rfl rfl
   ·refine bF ?_;refine JP1.a h ?_;exact Le.tz 1 0 rfl rfl rfl
  ·refine bF ?_;refine bF ?_;refine JP1.a h ?_;exact Le.tz 1 0 rfl rfl rfl
 ·have h:=hk;refine Exists.intro _ (And.intro (Le.refl _ _ _) ?_);exact Qa6 (t:=Qmb) (ss:=fun o=>⟨[[.p (.sl false (h0_0.map Qag)),.p (iV h0_1),.p (bV h0_2)]],[]⟩) h ⟨[],rfl,.refl _,.refl _,rfl⟩
def Qak (p1:Bool) (h0_0:(List Qai)) (h0_1:Int) (h0_2:Bool):Option (Qai×Int×Bool) :=
 ( if(!p1) then
   some true
  else
   some h0_2:Option (Bool))>>=fun o1 =>
 if o1 then
  some ((Qai.mk 0 [] 0 0 0),h0_1,true)
 else
  idx h0_0 (wr ((wr (h0_1+1))-1))>>=fun x2 =>
  some (x2,(wr (h0_1+1)),h0_2)
theorem Qaq:∀ (p1:Bool) (h0_0:(List Qai)) (h0_1:Int) (h0_2:Bool) (o:Qai×Int×Bool),Qak p1 h0_0 h0_1 h0_2=some o→CallOK Tryz.prog 144 [.ptr 0 0,.p (bV p1)] ⟨[[.p (.sl false (h0_0.map Qag)),.p (iV h0_1),.p (bV h0_2)]],[]⟩ (Qi2 o) ⟨[[.p (.sl false (h0_0.map Qag)),.p (iV o.2.1),.p (bV o.2.2)]],[]⟩:=by
 intro p1 h0_0 h0_1 h0_2 o h;unfold Qak at h;refine CallOK.ofB mixed tbOk Qt6 Tryz.func144 rfl (by kernel_rfl) (Nat.le_of_ble_eq_true rfl) rfl rfl rfl ?_;refine Qam h (fun o1 ho hk=>?_);refine Exists.intro (JP1 _ _ o1 .normal (Qrs h0_0 h0_1 h0_2)) (And.intro ?_ (Qbe ?_))
 ·have h:=ho;refine Qad h (fun hb h=>?_) (fun hb h=>?_)
  ·refine JP1.a h ?_;exact Le.tz 2 0 rfl rfl rfl
  ·refine JP1.a h ?_;exact Le.tz 2 0 rfl rfl rfl
 ·have h:=hk;refine Qad h (fun hb h=>?_) (fun hb h=>?_)
  ·refine Exists.intro _ (And.intro (Le.refl _ _ _) ?_);exact Qa6 (t:=Qi2) (ss:=fun o=>⟨[[.p (.sl false (h0_0.map Qag)),.p (iV o.2.1),.p (bV o.2.2)]],[]⟩) h ⟨[],rfl,.refl _,.refl _,rfl⟩
  ·refine And.intro (by decide +kernel) (And.intro rfl ?_);refine Qbu (l:=h0_0) (c:=Qag) (c' := Qag) h (fun _=>rfl) (fun _=>rfl) (by decide) (fun x2 hi h=>?_);refine Exists.intro _ (And.intro (Le.refl _ _ _) ?_);exact Qa6 (t:=Qi2) (ss:=fun o=>⟨[[.p (.sl false (h0_0.map Qag)),.p (iV o.2.1),.p (bV o.2.2)]],[]⟩) h ⟨[],rfl,.refl _,.refl _,rfl⟩
instance Q4p:Lean.Order.CCPO ((List Qab)→(List Qab)→(List Qab)→Option ((Int×Bool×Int×(List UInt8)×(List UInt8)×Int×(List Qab)×(List Qab)×(List Qab)))):=inferInstance
instance Q4q:Lean.Order.CCPO ((List UInt8)→(List UInt8)→Int→(List Qab)→(List Qab)→(List Qab)→Option ((Int×Bool×Int×(List UInt8)×(List UInt8)×Int×(List Qab)×(List Qab)×(List Qab)))):=inferInstance
def Qcu (h0_0:(List Qai)) (h0_1_:Int) (h0_2_:Bool) (h2_0:Int) (h2_1:(List UInt8)) (h2_2:(List UInt8)) (h2_3:Int) (h2_4:(List Qab)) (h2_5:(List Qab)) (h2_6:(List Qab)):Option ((Int×Bool×Int×(List UInt8)×(List UInt8)×Int×(List Qab)×(List Qab)×(List Qab))) :=
 Qar 7 h0_0 h0_1_ h0_2_>>=fun x3 =>
 if x3 then
  Qak true h0_0 h0_1_ h0_2_>>=fun x4 =>
  Qar 4 h0_0 x4.2.1 x4.2.2>>=fun x5 =>
  Qak x5 h0_0 x4.2.1 x4.2.2>>=fun x6 =>
  Qcu h0_0 x6.2.1 x6.2.2 5 x6.1.Text [] 0 [(Qab.mk h2_0 h2_1 h2_2 h2_3 h2_4 h2_5 h2_6)] [] []
 else
  some (h0_1_,h0_2_,h2_0,h2_1,h2_2,h2_3,h2_4,h2_5,h2_6)
 partial_fixpoint
theorem Q4r:∀ (h0_0:(List Qai)),(∀ (h0_1_:Int) (h0_2_:Bool) (h2_0:Int) (h2_1:(List UInt8)) (h2_2:(List UInt8)) (h2_3:Int) (h2_4:(List Qab)) (h2_5:(List Qab)) (h2_6:(List Qab)) (o2:(Int×Bool×Int×(List UInt8)×(List UInt8)×Int×(List Qab)×(List Qab)×(List Qab))),Qcu h0_0 h0_1_ h0_2_ h2_0 h2_1 h2_2 h2_3 h2_4 h2_5 h2_6=some o2→TL (1,0) Tryz.prog 19 Qrp (JP1 (1,0) 19 o2 (.exit 0) (Qjw h0_0)) (Qfv h0_0 h0_1_ h0_2_ h2_0 h2_1 h2_2 h2_3 h2_4 h2_5 h2_6)):=by
 intro h0_0;refine Qcu.partial_correctness h0_0 _ ?_;intro Qcu' iQcu h0_1_ h0_2_ h2_0 h2_1 h2_2 h2_3 h2_4 h2_5 h2_6 o2 h;refine TL.round (Qas mixed tbOk (lv:=Qmc) _ _ _ ?_);refine Qao _ _ h (fun x3 hy=>((Qa0 7 h0_0 h0_1_ h0_2_ x3 hy).fr [0] [] rfl rfl rfl)) (fun x3 hy h=>?_);refine Qad h (fun hb h=>?_) (fun hb h=>?_)
 ·refine Qao _ _ h (fun x4 hy=>((Qaq true h0_0 h0_1_ h0_2_ x4 hy).fr [0] [] rfl rfl rfl)) (fun x4 hy h=>?_);refine And.intro (by decide +kernel) (And.intro rfl ?_);refine Qn6 (fun x5=>(Qdz x5).ren [0] []) h (fun x5 hy=>(Qa0 4 h0_0 x4.2.1 x4.2.2 x5 hy).fd rfl rfl [0] rfl rfl) (fun x5 hy h=>?_);refine Qq8 _ _ h (fun x6 hy=>((Qaq x5 h0_0 x4.2.1 x4.2.2 x6 hy).fg [0] [] rfl rfl rfl (Nat.le_of_ble_eq_true rfl))) (fun x6 hy h=>?_);refine TL.le (τ := Qfv h0_0 x6.2.1 x6.2.2 5 x6.1.Text [] 0 [(Qab.mk h2_0 h2_1 h2_2 h2_3 h2_4 h2_5 h2_6)] [] []) ?_ ((iQcu x6.2.1 x6.2.2 5 x6.1.Text [] 0 [(Qab.mk h2_0 h2_1 h2_2 h2_3 h2_4 h2_5 h2_6)] [] [] _ h));exact Le.tow 3 0 rfl (.cons rfl (.refl _) (.cons rfl (.refl _) (.cons rfl (.refl _) (.nil)))) (.cons (.refl _) (.cons (.refl _) (.cons (.cons (.refl _) (.cons (.refl _) (.cons (.refl _) (.cons (.refl _) (.cons (.p (.no (.cons (.ceq (Qap _) (.refl _)) (.nil)))) (.cons (.p (.not)) (.cons (.p (.not)) (.nil)))))))) (.nil)))) rfl
 ·exact JP1.a h (Le.tz 3 0 rfl rfl rfl)
def Qdb (h0_0:(List Qai)) (h0_1:Int) (h0_2:Bool):Option ((List UInt8)×Int×Bool) :=
 ( Qar 4 h0_0 h0_1 h0_2>>=fun x2 =>
  if x2 then
   idx h0_0 h0_1>>=fun x3 =>
   Qhr x3.Text>>=fun x4 =>
   Qak x4 h0_0 h0_1 h0_2>>=fun x5 =>
   some (x5.1.Text,x5.2.1,x5.2.2)
  else
   Qak false h0_0 h0_1 h0_2>>=fun x6 =>
   some (x6.1.Text,x6.2.1,x6.2.2):Option (((List UInt8)×Int×Bool)))>>=fun o1 =>
 some (o1.1,o1.2.1,o1.2.2)
theorem Qh0:∀ (h0_0:(List Qai)) (h0_1:Int) (h0_2:Bool) (o:(List UInt8)×Int×Bool),Qdb h0_0 h0_1 h0_2=some o→CallOK Tryz.prog 165 [.ptr 0 0] ⟨[[.p (.sl false (h0_0.map Qag)),.p (iV h0_1),.p (bV h0_2)]],[]⟩ (Qno o) ⟨[[.p (.sl false (h0_0.map Qag)),.p (iV o.2.1),.p (bV o.2.2)]],[]⟩:=by
 intro h0_0 h0_1 h0_2 o h;unfold Qdb at h;refine CallOK.ofB mixed tbOk Qt5 Tryz.func165 rfl (by kernel_rfl) (Nat.le_of_ble_eq_true rfl) rfl rfl rfl ?_;refine Qam h (fun o1 ho hk=>?_);refine Exists.intro (JP1 _ _ o1 .normal (Qrr h0_0)) (And.intro ?_ (Qbe ?_))
 ·have h:=ho;refine And.intro (by decide +kernel) (And.intro rfl ?_);refine Qn6 (fun x2=>(Qdz x2).ren [0] []) h (fun x2 hy=>(Qa0 4 h0_0 h0_1 h0_2 x2 hy).fd rfl rfl [0] rfl rfl) (fun x2 hy h=>?_);refine Qad h (fun hb h=>?_) (fun hb h=>?_)
  ·refine Qbu (l:=h0_0) (c:=Qag) (c' := Qag) h (fun _=>rfl) (fun _=>rfl) (by decide) (fun x3 hi h=>?_);refine Qd4 [sV x3.Text] Qra h (fun x4 hy=>(Q82 x3.Text x4 hy)) (fun x4 hy h=>?_);refine Qq8 _ _ h (fun x5 hy=>((Qaq x4 h0_0 h0_1 h0_2 x5 hy).fg [0] [] rfl rfl rfl (Nat.le_of_ble_eq_true rfl))) (fun x5 hy h=>?_);refine JP1.a h ?_;exact Le.tz 1 0 rfl rfl rfl
  ·refine Qq8 _ _ h (fun x6 hy=>((Qaq false h0_0 h0_1 h0_2 x6 hy).fg [0] [] rfl rfl rfl (Nat.le_of_ble_eq_true rfl))) (fun x6 hy h=>?_);refine JP1.a h ?_;exact Le.tz 1 0 rfl rfl rfl
 ·have h:=hk;refine Exists.intro _ (And.intro (Le.refl _ _ _) ?_);exact Qa6 (t:=Qno) (ss:=fun o=>⟨[[.p (.sl false (h0_0.map Qag)),.p (iV o.2.1),.p (bV o.2.2)]],[]⟩) h ⟨[],rfl,.refl _,.refl _,rfl⟩
def Qa1 (p1:(List UInt8)) (h0_0:(List Qai)) (h0_1:Int) (h0_2:Bool):Option (Bool) :=
 ( Qar 4 h0_0 h0_1 h0_2>>=fun x2 =>
  if x2 then
   idx h0_0 h0_1>>=fun x3 =>
   some (x3.Text==p1)
  else
   some false:Option (Bool))>>=fun o1 =>
 some o1
theorem Qbj:∀ (p1:(List UInt8)) (h0_0:(List Qai)) (h0_1:Int) (h0_2:Bool) (o:Bool),Qa1 p1 h0_0 h0_1 h0_2=some o→CallOK Tryz.prog 161 [.ptr 0 0,.p (sV p1)] ⟨[[.p (.sl false (h0_0.map Qag)),.p (iV h0_1),.p (bV h0_2)]],[]⟩ (Qnp o) ⟨[[.p (.sl false (h0_0.map Qag)),.p (iV h0_1),.p (bV h0_2)]],[]⟩:=by
 intro p1 h0_0 h0_1 h0_2 o h;unfold Qa1 at h;refine CallOK.ofB mixed tbOk Qt7 Tryz.func161 rfl (by kernel_rfl) (Nat.le_of_ble_eq_true rfl) rfl rfl rfl ?_;refine Qam h (fun o1 ho hk=>?_);refine Exists.intro (JP1 _ _ o1 .normal (Qrt h0_0 h0_1 h0_2)) (And.intro ?_ (Qbe ?_))
 ·have h:=ho;refine And.intro (by decide +kernel) (And.intro rfl ?_);refine Qn6 (fun x2=>(Qdz x2).ren [0] []) h (fun x2 hy=>(Qa0 4 h0_0 h0_1 h0_2 x2 hy).fd rfl rfl [0] rfl rfl) (fun x2 hy h=>?_);refine Qad h (fun hb h=>?_) (fun hb h=>?_)
  ·refine Qbu (l:=h0_0) (c:=Qag) (c' := Qag) h (fun _=>rfl) (fun _=>rfl) (by decide) (fun x3 hi h=>?_);refine JP1.a h ?_;exact Le.tz 1 0 rfl rfl rfl
  ·refine JP1.a h ?_;exact Le.tz 1 0 rfl rfl rfl
 ·have h:=hk;refine Exists.intro _ (And.intro (Le.refl _ _ _) ?_);exact Qa6 (t:=Qnp) (ss:=fun o=>⟨[[.p (.sl false (h0_0.map Qag)),.p (iV h0_1),.p (bV h0_2)]],[]⟩) h ⟨[],rfl,.refl _,.refl _,rfl⟩
mutual
def Qch (h0_0:(List Qai)) (h0_1:Int) (h0_2:Bool):Option (Qab×Int×Bool) :=
 Qgy h0_0 h0_1 h0_2>>=fun x1 =>
 (Qcu h0_0 x1.2.1 x1.2.2 x1.1.Kind x1.1.Name x1.1.Text x1.1.N x1.1.L x1.1.Then x1.1.Else)>>=fun o2 =>
 some ((Qab.mk o2.2.2.1 o2.2.2.2.1 o2.2.2.2.2.1 o2.2.2.2.2.2.1 o2.2.2.2.2.2.2.1 o2.2.2.2.2.2.2.2.1 o2.2.2.2.2.2.2.2.2),o2.1,o2.2.1)
 partial_fixpoint
def Qgy (h0_0:(List Qai)) (h0_1:Int) (h0_2:Bool):Option (Qab×Int×Bool) :=
 Qar 5 h0_0 h0_1 h0_2>>=fun x1 =>
 if x1 then
  Qak true h0_0 h0_1 h0_2>>=fun x2 =>
  some ((Qab.mk 1 [] x2.1.Text 0 [] [] []),x2.2.1,x2.2.2)
 else
  Qar 6 h0_0 h0_1 h0_2>>=fun x3 =>
  if x3 then
   Qak true h0_0 h0_1 h0_2>>=fun x4 =>
   some ((Qab.mk 2 [] [] x4.1.N [] [] []),x4.2.1,x4.2.2)
  else
   Qa1 [116,114,117,101] h0_0 h0_1 h0_2>>=fun x5 =>
   if x5 then
    Qak true h0_0 h0_1 h0_2>>=fun x6 =>
    some ((Qab.mk 3 [] [] 1 [] [] []),x6.2.1,x6.2.2)
   else
    Qa1 [102,97,108,115,101] h0_0 h0_1 h0_2>>=fun x7 =>
    if x7 then
     Qak true h0_0 h0_1 h0_2>>=fun x8 =>
     some ((Qab.mk 3 [] [] 0 [] [] []),x8.2.1,x8.2.2)
    else
     Qa1 [115,101,99,114,101,116] h0_0 h0_1 h0_2>>=fun x9 =>
     if x9 then
      Qak true h0_0 h0_1 h0_2>>=fun x10 =>
      Qar 8 h0_0 x10.2.1 x10.2.2>>=fun x11 =>
      Qak x11 h0_0 x10.2.1 x10.2.2>>=fun x12 =>
      ( Qar 5 h0_0 x12.2.1 x12.2.2>>=fun x14 =>
       if x14 then
        idx h0_0 x12.2.1>>=fun x15 =>
        Qji x15.Text>>=fun x16 =>
        Qak x16 h0_0 x12.2.1 x12.2.2>>=fun x17 =>
        some (x17.2.1,x17.2.2,x17.1.Kind,x17.1.Text,x17.1.N,x17.1.From,x17.1.To)
       else
        Qak false h0_0 x12.2.1 x12.2.2>>=fun x18 =>
        some (x18.2.1,x18.2.2,x18.1.Kind,x18.1.Text,x18.1.N,x18.1.From,x18.1.To):Option ((Int×Bool×Int×(List UInt8)×Int×Int×Int)))>>=fun o13 =>
      Qar 9 h0_0 o13.1 o13.2.1>>=fun x19 =>
      Qak x19 h0_0 o13.1 o13.2.1>>=fun x20 =>
      some ((Qab.mk 7 o13.2.2.2.1 [] 0 [] [] []),x20.2.1,x20.2.2)
     else
      Qdb h0_0 h0_1 h0_2>>=fun x21 =>
      Qar 8 h0_0 x21.2.1 x21.2.2>>=fun x22 =>
      if(!x22) then
       some ((Qab.mk 4 x21.1 [] 0 [] [] []),x21.2.1,x21.2.2)
      else
       Qak true h0_0 x21.2.1 x21.2.2>>=fun x23 =>
       Qar 9 h0_0 x23.2.1 x23.2.2>>=fun x24 =>
       if x24 then
        Qak true h0_0 x23.2.1 x23.2.2>>=fun x25 =>
        some ((Qab.mk 6 x21.1 [] 0 [] [] []),x25.2.1,x25.2.2)
       else
        (Qc7 h0_0 x21 0 x23.2.1 x23.2.2 [])>>=fun o26 =>
        Qar 9 h0_0 o26.1 o26.2.1>>=fun x33 =>
        Qak x33 h0_0 o26.1 o26.2.1>>=fun x34 =>
        some ((Qab.mk 6 x21.1 [] 0 o26.2.2 [] []),x34.2.1,x34.2.2)
 partial_fixpoint
def Qc7 (h0_0:(List Qai)) (x21:(List UInt8)×Int×Bool) (v5:Int) (h0_1_:Int) (h0_2_:Bool) (h2_4:(List Qab)):Option ((Int×Bool×(List Qab))) :=
 ( if(decide (v5<3)) then
   some (!h0_2_)
  else
   some false:Option (Bool))>>=fun o27 =>
 if o27 then
  Qch h0_0 h0_1_ h0_2_>>=fun x28 =>
  appL 120 h2_4 [x28.1]>>=fun x29 =>
  Qar 9 h0_0 x28.2.1 x28.2.2>>=fun x30 =>
  if x30 then
   some (x28.2.1,x28.2.2,x29)
  else
   if(decide (v5<2)) then
    Qar 10 h0_0 x28.2.1 x28.2.2>>=fun x31 =>
    Qak x31 h0_0 x28.2.1 x28.2.2>>=fun x32 =>
    Qc7 h0_0 x21 (wr (v5+1)) x32.2.1 x32.2.2 x29
   else
    Qc7 h0_0 x21 (wr (v5+1)) x28.2.1 x28.2.2 x29
 else
  some (h0_1_,h0_2_,h2_4)
 partial_fixpoint
end
theorem Qs0:∀ (h0_0:(List Qai)),(∀ (h0_1:Int) (h0_2:Bool) (o:Qab×Int×Bool),Qch h0_0 h0_1 h0_2=some o→CallOK Tryz.prog 162 [.ptr 0 0] ⟨[[.p (.sl false (h0_0.map Qag)),.p (iV h0_1),.p (bV h0_2)]],[]⟩ (Qi1 o) ⟨[[.p (.sl false (h0_0.map Qag)),.p (iV o.2.1),.p (bV o.2.2)]],[]⟩)∧(∀ (h0_1:Int) (h0_2:Bool) (o:Qab×Int×Bool),Qgy h0_0 h0_1 h0_2=some o→CallOK Tryz.prog 173 [.ptr 0 0] ⟨[[.p (.sl false (h0_0.map Qag)),.p (iV h0_1),.p (bV h0_2)]],[]⟩ (Qbs o) ⟨[[.p (.sl false (h0_0.map Qag)),.p (iV o.2.1),.p (bV o.2.2)]],[]⟩)∧(∀ (x21:(List UInt8)×Int×Bool) (v5:Int) (h0_1_:Int) (h0_2_:Bool) (h2_4:(List Qab)) (o26:(Int×Bool×(List Qab))),Qc7 h0_0 x21 v5 h0_1_ h0_2_ h2_4=some o26→TL (1,0) Tryz.prog 107 Qqo (JP1 (1,0) 107 o26 (.exit 0) (Qij h0_0 x21)) (Qd6 h0_0 x21 v5 h0_1_ h0_2_ h2_4)):=by
 intro h0_0;refine Qch.mutual_partial_correctness h0_0 _ _ _ ?_ ?_ ?_
 ·intro Qgy' iQgy h0_1 h0_2 o h;refine CallOK.ofB mixed tbOk Qmc Tryz.func162 rfl (by kernel_rfl) (Nat.le_of_ble_eq_true rfl) rfl rfl rfl ?_;refine Qao _ _ h (fun x1 hy=>((iQgy h0_1 h0_2 x1 hy).fr [0] [] rfl rfl rfl)) (fun x1 hy h=>?_);refine Qam h (fun o2 ho hk=>?_);refine Exists.intro (JP1 _ _ o2 (.exit 0) (Qjw h0_0)) (And.intro (Qkn (τ := Qfv h0_0 x1.2.1 x1.2.2 x1.1.Kind x1.1.Name x1.1.Text x1.1.N x1.1.L x1.1.Then x1.1.Else) ?_ (TL.loop (Q4r h0_0 x1.2.1 x1.2.2 x1.1.Kind x1.1.Name x1.1.Text x1.1.N x1.1.L x1.1.Then x1.1.Else o2 ho))) (Qbe ?_))
  ·exact Le.tz 3 0 rfl rfl rfl
  have h:=hk;refine Exists.intro _ (And.intro (Le.refl _ _ _) ?_);exact Qa6 (t:=Qi1) (ss:=fun o=>⟨[[.p (.sl false (h0_0.map Qag)),.p (iV o.2.1),.p (bV o.2.2)]],[]⟩) h ⟨[],rfl,.refl _,.refl _,rfl⟩
 ·intro Qc7' iQc7 h0_1 h0_2 o h;refine CallOK.ofB mixed tbOk Qln Tryz.func173 rfl (by kernel_rfl) (Nat.le_of_ble_eq_true rfl) rfl rfl rfl ?_;refine Qao _ _ h (fun x1 hy=>((Qa0 5 h0_0 h0_1 h0_2 x1 hy).fr [0] [] rfl rfl rfl)) (fun x1 hy h=>?_);refine Qad h (fun hb h=>?_) (fun hb h=>?_)
  ·refine Qao _ _ h (fun x2 hy=>((Qaq true h0_0 h0_1 h0_2 x2 hy).fr [0] [] rfl rfl rfl)) (fun x2 hy h=>?_);refine Exists.intro _ (And.intro (Le.refl _ _ _) ?_);exact Qa6 (t:=Qbs) (ss:=fun o=>⟨[[.p (.sl false (h0_0.map Qag)),.p (iV o.2.1),.p (bV o.2.2)]],[]⟩) h ⟨[],rfl,.p (.agg' (.cons (.refl _) (.cons (.refl _) (.cons (.refl _) (.cons (.refl _) (.cons (.not) (.cons (.not) (.cons (.not) (.nil))))))))),.refl _,rfl⟩
  ·refine Qao _ _ h (fun x3 hy=>((Qa0 6 h0_0 h0_1 h0_2 x3 hy).fr [0] [] rfl rfl rfl)) (fun x3 hy h=>?_);refine Qad h (fun hb h=>?_) (fun hb h=>?_)
   ·refine Qao _ _ h (fun x4 hy=>((Qaq true h0_0 h0_1 h0_2 x4 hy).fr [0] [] rfl rfl rfl)) (fun x4 hy h=>?_);refine Exists.intro _ (And.intro (Le.refl _ _ _) ?_);exact Qa6 (t:=Qbs) (ss:=fun o=>⟨[[.p (.sl false (h0_0.map Qag)),.p (iV o.2.1),.p (bV o.2.2)]],[]⟩) h ⟨[],rfl,.p (.agg' (.cons (.refl _) (.cons (.refl _) (.cons (.refl _) (.cons (.refl _) (.cons (.not) (.cons (.not) (.cons (.not) (.nil))))))))),.refl _,rfl⟩
   ·refine Qao _ _ h (fun x5 hy=>((Qbj [116,114,117,101] h0_0 h0_1 h0_2 x5 hy).fr [0] [] rfl rfl rfl)) (fun x5 hy h=>?_);refine Qad h (fun hb h=>?_) (fun hb h=>?_)
    ·refine Qao _ _ h (fun x6 hy=>((Qaq true h0_0 h0_1 h0_2 x6 hy).fr [0] [] rfl rfl rfl)) (fun x6 hy h=>?_);refine Exists.intro _ (And.intro (Le.refl _ _ _) ?_);exact Qa6 (t:=Qbs) (ss:=fun o=>⟨[[.p (.sl false (h0_0.map Qag)),.p (iV o.2.1),.p (bV o.2.2)]],[]⟩) h ⟨[],rfl,.p (.agg' (.cons (.refl _) (.cons (.refl _) (.cons (.refl _) (.cons (.refl _) (.cons (.not) (.cons (.not) (.cons (.not) (.nil))))))))),.refl _,rfl⟩
    ·refine Qao _ _ h (fun x7 hy=>((Qbj [102,97,108,115,101] h0_0 h0_1 h0_2 x7 hy).fr [0] [] rfl rfl rfl)) (fun x7 hy h=>?_);refine Qad h (fun hb h=>?_) (fun hb h=>?_)
     ·refine Qao _ _ h (fun x8 hy=>((Qaq true h0_0 h0_1 h0_2 x8 hy).fr [0] [] rfl rfl rfl)) (fun x8 hy h=>?_);refine Exists.intro _ (And.intro (Le.refl _ _ _) ?_);exact Qa6 (t:=Qbs) (ss:=fun o=>⟨[[.p (.sl false (h0_0.map Qag)),.p (iV o.2.1),.p (bV o.2.2)]],[]⟩) h ⟨[],rfl,.p (.agg' (.cons (.refl _) (.cons (.refl _) (.cons (.refl _) (.cons (.refl _) (.cons (.not) (.cons (.not) (.cons (.not) (.nil))))))))),.refl _,rfl⟩
     ·refine Qao _ _ h (fun x9 hy=>((Qbj [115,101,99,114,101,116] h0_0 h0_1 h0_2 x9 hy).fr [0] [] rfl rfl rfl)) (fun x9 hy h=>?_);refine Qad h (fun hb h=>?_) (fun hb h=>?_)
      ·refine Qao _ _ h (fun x10 hy=>((Qaq true h0_0 h0_1 h0_2 x10 hy).fr [0] [] rfl rfl rfl)) (fun x10 hy h=>?_);refine Qao _ _ h (fun x11 hy=>((Qa0 8 h0_0 x10.2.1 x10.2.2 x11 hy).fr [0] [] rfl rfl rfl)) (fun x11 hy h=>?_);refine Qao _ _ h (fun x12 hy=>((Qaq x11 h0_0 x10.2.1 x10.2.2 x12 hy).fr [0] [] rfl rfl rfl)) (fun x12 hy h=>?_);refine Qam h (fun o13 ho hk=>?_);refine Exists.intro (JP1 _ _ o13 .normal (Qqm h0_0)) (And.intro ?_ (Qbe ?_))
       ·have h:=ho;refine And.intro (by decide +kernel) (And.intro rfl ?_);refine Qn6 (fun x14=>(Qdz x14).ren [0] []) h (fun x14 hy=>(Qa0 5 h0_0 x12.2.1 x12.2.2 x14 hy).fd rfl rfl [0] rfl rfl) (fun x14 hy h=>?_);refine Qad h (fun hb h=>?_) (fun hb h=>?_)
        ·refine Qbu (l:=h0_0) (c:=Qag) (c' := Qag) h (fun _=>rfl) (fun _=>rfl) (by decide) (fun x15 hi h=>?_);refine Qd4 [sV x15.Text] Qiq h (fun x16 hy=>(Qsr x15.Text x16 hy)) (fun x16 hy h=>?_);refine Qq8 _ _ h (fun x17 hy=>((Qaq x16 h0_0 x12.2.1 x12.2.2 x17 hy).fg [0] [] rfl rfl rfl (Nat.le_of_ble_eq_true rfl))) (fun x17 hy h=>?_);refine JP1.a h ?_;exact Le.tz 3 0 rfl rfl rfl
        ·refine Qq8 _ _ h (fun x18 hy=>((Qaq false h0_0 x12.2.1 x12.2.2 x18 hy).fg [0] [] rfl rfl rfl (Nat.le_of_ble_eq_true rfl))) (fun x18 hy h=>?_);refine JP1.a h ?_;exact Le.tz 3 0 rfl rfl rfl
       ·have h:=hk;refine Qao _ _ h (fun x19 hy=>((Qa0 9 h0_0 o13.1 o13.2.1 x19 hy).fr [0] [] rfl rfl rfl)) (fun x19 hy h=>?_);refine Qao _ _ h (fun x20 hy=>((Qaq x19 h0_0 o13.1 o13.2.1 x20 hy).fr [0] [] rfl rfl rfl)) (fun x20 hy h=>?_);refine Exists.intro _ (And.intro (Le.refl _ _ _) ?_);exact Qa6 (t:=Qbs) (ss:=fun o=>⟨[[.p (.sl false (h0_0.map Qag)),.p (iV o.2.1),.p (bV o.2.2)]],[]⟩) h ⟨[],rfl,.p (.agg' (.cons (.refl _) (.cons (.refl _) (.cons (.refl _) (.cons (.refl _) (.cons (.not) (.cons (.not) (.cons (.not) (.nil))))))))),.refl _,rfl⟩
      ·refine Qao _ _ h (fun x21 hy=>((Qh0 h0_0 h0_1 h0_2 x21 hy).fr [0] [] rfl rfl rfl)) (fun x21 hy h=>?_);refine Qao _ _ h (fun x22 hy=>((Qa0 8 h0_0 x21.2.1 x21.2.2 x22 hy).fr [0] [] rfl rfl rfl)) (fun x22 hy h=>?_);refine Qad h (fun hb h=>?_) (fun hb h=>?_)
       ·refine Exists.intro _ (And.intro (Le.refl _ _ _) ?_);exact Qa6 (t:=Qbs) (ss:=fun o=>⟨[[.p (.sl false (h0_0.map Qag)),.p (iV o.2.1),.p (bV o.2.2)]],[]⟩) h ⟨[],rfl,.p (.agg' (.cons (.refl _) (.cons (.refl _) (.cons (.refl _) (.cons (.refl _) (.cons (.not) (.cons (.not) (.cons (.not) (.nil))))))))),.refl _,rfl⟩
       ·refine Qao _ _ h (fun x23 hy=>((Qaq true h0_0 x21.2.1 x21.2.2 x23 hy).fr [0] [] rfl rfl rfl)) (fun x23 hy h=>?_);refine Qao _ _ h (fun x24 hy=>((Qa0 9 h0_0 x23.2.1 x23.2.2 x24 hy).fr [0] [] rfl rfl rfl)) (fun x24 hy h=>?_);refine Qad h (fun hb h=>?_) (fun hb h=>?_)
        ·refine Qao _ _ h (fun x25 hy=>((Qaq true h0_0 x23.2.1 x23.2.2 x25 hy).fr [0] [] rfl rfl rfl)) (fun x25 hy h=>?_);refine Exists.intro _ (And.intro (Le.refl _ _ _) ?_);exact Qa6 (t:=Qbs) (ss:=fun o=>⟨[[.p (.sl false (h0_0.map Qag)),.p (iV o.2.1),.p (bV o.2.2)]],[]⟩) h ⟨[],rfl,.p (.agg' (.cons (.refl _) (.cons (.refl _) (.cons (.refl _) (.cons (.refl _) (.cons (.not) (.cons (.not) (.cons (.not) (.nil))))))))),.refl _,rfl⟩
        ·refine Qam h (fun o26 ho hk=>?_);refine Exists.intro (JP1 _ _ o26 (.exit 0) (Qij h0_0 x21)) (And.intro (Qkn (τ := Qd6 h0_0 x21 0 x23.2.1 x23.2.2 []) ?_ (TL.loop (iQc7 x21 0 x23.2.1 x23.2.2 [] o26 ho))) (Qbe ?_))
         ·exact(Le.ownH 2 4 38 7 rfl rfl Q8q).trans (Le.tz 3 1 rfl rfl rfl)
         have h:=hk;refine Qao _ _ h (fun x33 hy=>((Qa0 9 h0_0 o26.1 o26.2.1 x33 hy).fr [0] [] rfl rfl rfl)) (fun x33 hy h=>?_);refine Qao _ _ h (fun x34 hy=>((Qaq x33 h0_0 o26.1 o26.2.1 x34 hy).fr [0] [] rfl rfl rfl)) (fun x34 hy h=>?_);refine Exists.intro _ (And.intro (Le.refl _ _ _) ?_);exact Qa6 (t:=Qbs) (ss:=fun o=>⟨[[.p (.sl false (h0_0.map Qag)),.p (iV o.2.1),.p (bV o.2.2)]],[]⟩) h ⟨[],rfl,.p (.agg' (.cons (.refl _) (.cons (.refl _) (.cons (.refl _) (.cons (.refl _) (.cons (.refl _) (.cons (.not) (.cons (.not) (.nil))))))))),.refl _,rfl⟩
 ·intro Qch' Qc7' iQch iQc7 x21 v5 h0_1_ h0_2_ h2_4 o26 h;refine TL.round (Qas mixed tbOk (lv:=Qln) _ _ _ ?_);refine Qam h (fun o27 ho hk=>?_);refine Exists.intro (JP1 _ _ o27 .normal (Qqn h0_0 x21 v5 h0_1_ h0_2_ h2_4)) (And.intro ?_ (Qbe ?_))
  ·have h:=ho;refine Qad h (fun hb h=>?_) (fun hb h=>?_)
   ·refine JP1.a h ?_;exact Le.tz 3 1 rfl rfl rfl
   ·refine JP1.a h ?_;exact Le.tz 3 1 rfl rfl rfl
  ·have h:=hk;refine Qad h (fun hb h=>?_) (fun hb h=>?_)
   ·refine And.intro (by decide +kernel) (And.intro rfl ?_);refine Qq8 _ _ h (fun x28 hy=>((iQch h0_1_ h0_2_ x28 hy).fg [0] [] rfl rfl rfl (Nat.le_of_ble_eq_true rfl))) (fun x28 hy h=>?_);refine Qpv (a:=h2_4) (b:=[x28.1]) (c:=Qaa) h (.cons (.ceq (Qap _) (.refl _)) (.nil)) (fun x=>by rw[Qap]; rfl) rfl (fun x29 hi h=>?_);refine Qao _ _ h (fun x30 hy=>((Qa0 9 h0_0 x28.2.1 x28.2.2 x30 hy).fr [0] [] rfl rfl rfl)) (fun x30 hy h=>?_);refine Qad h (fun hb h=>?_) (fun hb h=>?_)
    ·exact JP1.a h (Le.tz 3 1 rfl rfl rfl)
    ·refine Qad h (fun hb h=>?_) (fun hb h=>?_)
     ·refine Qao _ _ h (fun x31 hy=>((Qa0 10 h0_0 x28.2.1 x28.2.2 x31 hy).fr [0] [] rfl rfl rfl)) (fun x31 hy h=>?_);refine Qao _ _ h (fun x32 hy=>((Qaq x31 h0_0 x28.2.1 x28.2.2 x32 hy).fr [0] [] rfl rfl rfl)) (fun x32 hy h=>?_);refine TL.le (τ := Qd6 h0_0 x21 (wr (v5+1)) x32.2.1 x32.2.2 x29) ?_ ((iQc7 x21 (wr (v5+1)) x32.2.1 x32.2.2 x29 _ h));exact Le.tz 3 1 rfl rfl rfl
     ·refine TL.le (τ := Qd6 h0_0 x21 (wr (v5+1)) x28.2.1 x28.2.2 x29) ?_ ((iQc7 x21 (wr (v5+1)) x28.2.1 x28.2.2 x29 _ h));exact Le.tz 3 1 rfl rfl rfl
   ·exact JP1.a h (Le.tz 3 1 rfl rfl rfl)
theorem Qh1:∀ (h0_0:(List Qai)) (h0_1:Int) (h0_2:Bool) (o:Qab×Int×Bool),Qch h0_0 h0_1 h0_2=some o→CallOK Tryz.prog 162 [.ptr 0 0] ⟨[[.p (.sl false (h0_0.map Qag)),.p (iV h0_1),.p (bV h0_2)]],[]⟩ (Qi1 o) ⟨[[.p (.sl false (h0_0.map Qag)),.p (iV o.2.1),.p (bV o.2.2)]],[]⟩:=fun h0_0 h0_1 h0_2=>(Qs0 h0_0).1 h0_1 h0_2
def Qcj (h0_0:(List Qai)) (h0_1:Int) (h0_2:Bool):Option (Int×Bool) :=
 Qar 3 h0_0 h0_1 h0_2>>=fun x1 =>
 Qak x1 h0_0 h0_1 h0_2>>=fun x2 =>
 some (x2.2.1,x2.2.2)
theorem Qe7:∀ (h0_0:(List Qai)) (h0_1:Int) (h0_2:Bool) (o:Int×Bool),Qcj h0_0 h0_1 h0_2=some o→CallOK Tryz.prog 163 [.ptr 0 0] ⟨[[.p (.sl false (h0_0.map Qag)),.p (iV h0_1),.p (bV h0_2)]],[]⟩ (Qmd o) ⟨[[.p (.sl false (h0_0.map Qag)),.p (iV o.1),.p (bV o.2)]],[]⟩:=by
 intro h0_0 h0_1 h0_2 o h;unfold Qcj at h;refine CallOK.ofB mixed tbOk Qsz Tryz.func163 rfl (by kernel_rfl) (Nat.le_of_ble_eq_true rfl) rfl rfl rfl ?_;refine Qao _ _ h (fun x1 hy=>((Qa0 3 h0_0 h0_1 h0_2 x1 hy).fr [0] [] rfl rfl rfl)) (fun x1 hy h=>?_);refine Qao _ _ h (fun x2 hy=>((Qaq x1 h0_0 h0_1 h0_2 x2 hy).fr [0] [] rfl rfl rfl)) (fun x2 hy h=>?_);refine Exists.intro _ (And.intro (Le.refl _ _ _) ?_);exact Qa6 (t:=Qmd) (ss:=fun o=>⟨[[.p (.sl false (h0_0.map Qag)),.p (iV o.1),.p (bV o.2)]],[]⟩) h ⟨[],rfl,.refl _,.refl _,rfl⟩
def Qdq (p1:(List UInt8)) (h0_0:(List Qai)) (h0_1:Int) (h0_2:Bool):Option (Int×Bool) :=
 Qar 2 h0_0 h0_1 h0_2>>=fun x1 =>
 Qak x1 h0_0 h0_1 h0_2>>=fun x2 =>
 Qa1 p1 h0_0 x2.2.1 x2.2.2>>=fun x3 =>
 Qak x3 h0_0 x2.2.1 x2.2.2>>=fun x4 =>
 Qcj h0_0 x4.2.1 x4.2.2>>=fun x5 =>
 some (x5.1,x5.2)
theorem Qja:∀ (p1:(List UInt8)) (h0_0:(List Qai)) (h0_1:Int) (h0_2:Bool) (o:Int×Bool),Qdq p1 h0_0 h0_1 h0_2=some o→CallOK Tryz.prog 164 [.ptr 0 0,.p (sV p1)] ⟨[[.p (.sl false (h0_0.map Qag)),.p (iV h0_1),.p (bV h0_2)]],[]⟩ (Qo7 o) ⟨[[.p (.sl false (h0_0.map Qag)),.p (iV o.1),.p (bV o.2)]],[]⟩:=by
 intro p1 h0_0 h0_1 h0_2 o h;unfold Qdq at h;refine CallOK.ofB mixed tbOk Qu9 Tryz.func164 rfl (by kernel_rfl) (Nat.le_of_ble_eq_true rfl) rfl rfl rfl ?_;refine Qao _ _ h (fun x1 hy=>((Qa0 2 h0_0 h0_1 h0_2 x1 hy).fr [0] [] rfl rfl rfl)) (fun x1 hy h=>?_);refine Qao _ _ h (fun x2 hy=>((Qaq x1 h0_0 h0_1 h0_2 x2 hy).fr [0] [] rfl rfl rfl)) (fun x2 hy h=>?_);refine Qao _ _ h (fun x3 hy=>((Qbj p1 h0_0 x2.2.1 x2.2.2 x3 hy).fr [0] [] rfl rfl rfl)) (fun x3 hy h=>?_);refine Qao _ _ h (fun x4 hy=>((Qaq x3 h0_0 x2.2.1 x2.2.2 x4 hy).fr [0] [] rfl rfl rfl)) (fun x4 hy h=>?_);refine Qao _ _ h (fun x5 hy=>((Qe7 h0_0 x4.2.1 x4.2.2 x5 hy).fr [0] [] rfl rfl rfl)) (fun x5 hy h=>?_);refine Exists.intro _ (And.intro (Le.refl _ _ _) ?_);exact Qa6 (t:=Qo7) (ss:=fun o=>⟨[[.p (.sl false (h0_0.map Qag)),.p (iV o.1),.p (bV o.2)]],[]⟩) h ⟨[],rfl,.refl _,.refl _,rfl⟩
mutual
def Qb6 (p1:Bool) (p2:Bool) (h0_0:(List Qai)) (h0_1:Int) (h0_2:Bool):Option ((List Qab)×Int×Bool) :=
 (Qb2 p1 p2 h0_0 [] h0_1 h0_2)>>=fun o1 =>
 match o1 with
 | .inl y2 =>
  some (y2.1,y2.2.1,y2.2.2)
 | .inr y3 =>
  some (y3.1,y3.2.1,y3.2.2)
 partial_fixpoint
def Qb2 (p1:Bool) (p2:Bool) (h0_0:(List Qai)) (v7:(List Qab)) (h0_1_:Int) (h0_2_:Bool):Option (((List Qab)×Int×Bool)⊕((List Qab)×Int×Bool)) :=
 ( if(!h0_2_) then
   some (decide (h0_1_<(h0_0.length:Int)))
  else
   some false:Option (Bool))>>=fun o4 =>
 if o4 then
  Qar 1 h0_0 h0_1_ h0_2_>>=fun x5 =>
  if x5 then
   Qak true h0_0 h0_1_ h0_2_>>=fun x6 =>
   ( if(decide ((wr ((v7.length:Int)-1)) ≥ 0)) then
     idx v7 (wr ((v7.length:Int)-1))>>=fun x8 =>
     some (x8.Kind==8)
    else
     some false:Option (Bool))>>=fun o7 =>
   if o7 then
    idx v7 (wr ((v7.length:Int)-1))>>=fun x9 =>
    need (x9.Text.length+x6.1.Text.length≤9223372036854775807)>>=fun _ =>
    idx v7 (wr ((v7.length:Int)-1))>>=fun x10 =>
    Qb2 p1 p2 h0_0 (v7.set ((wr ((v7.length:Int)-1)).toNat) (Qab.mk x10.Kind x10.Name (x9.Text++x6.1.Text) x10.N x10.L x10.Then x10.Else)) x6.2.1 x6.2.2
   else
    appL 120 v7 ([(Qab.mk 8 [] x6.1.Text 0 [] [] [])])>>=fun x11 =>
    Qb2 p1 p2 h0_0 x11 x6.2.1 x6.2.2
  else
   ( if p1 then
     Qb5 [101,110,100] h0_0 h0_1_ h0_2_>>=fun x13 =>
     if x13 then
      some true
     else
      if p2 then
       Qb5 [101,108,115,101] h0_0 h0_1_ h0_2_>>=fun x14 =>
       some x14
      else
       some false
    else
     if p2 then
      Qb5 [101,108,115,101] h0_0 h0_1_ h0_2_>>=fun x15 =>
      some x15
     else
      some false:Option (Bool))>>=fun o12 =>
   if o12 then
    some (.inr (v7,h0_1_,h0_2_))
   else
    Qar 2 h0_0 h0_1_ h0_2_>>=fun x16 =>
    Qak x16 h0_0 h0_1_ h0_2_>>=fun x17 =>
    Qar 3 h0_0 x17.2.1 x17.2.2>>=fun x18 =>
    if x18 then
     Qak true h0_0 x17.2.1 x17.2.2>>=fun x19 =>
     Qb2 p1 p2 h0_0 v7 x19.2.1 x19.2.2
    else
     Qge h0_0 x17.2.1 x17.2.2>>=fun x20 =>
     appL 120 v7 [x20.1]>>=fun x21 =>
     Qb2 p1 p2 h0_0 x21 x20.2.1 x20.2.2
 else
  some (.inl (v7,h0_1_,h0_2_))
 partial_fixpoint
def Qge (h0_0:(List Qai)) (h0_1:Int) (h0_2:Bool):Option (Qab×Int×Bool) :=
 Qa1 [105,102] h0_0 h0_1 h0_2>>=fun x1 =>
 if x1 then
  Qak true h0_0 h0_1 h0_2>>=fun x2 =>
  Qch h0_0 x2.2.1 x2.2.2>>=fun x3 =>
  Qcj h0_0 x3.2.1 x3.2.2>>=fun x4 =>
  Qb6 true true h0_0 x4.1 x4.2>>=fun x5 =>
  ( Qb5 [101,108,115,101] h0_0 x5.2.1 x5.2.2>>=fun x7 =>
   if x7 then
    Qdq [101,108,115,101] h0_0 x5.2.1 x5.2.2>>=fun x8 =>
    Qb6 true false h0_0 x8.1 x8.2>>=fun x9 =>
    some (x9.2.1,x9.2.2,x9.1)
   else
    some (x5.2.1,x5.2.2,[]):Option ((Int×Bool×(List Qab))))>>=fun o6 =>
  Qdq [101,110,100] h0_0 o6.1 o6.2.1>>=fun x10 =>
  some ((Qab.mk 10 [] [] 0 [x3.1] x5.1 o6.2.2),x10.1,x10.2)
 else
  ( Qa1 [101,97,99,104] h0_0 h0_1 h0_2>>=fun x12 =>
   if x12 then
    some true
   else
    Qa1 [108,101,116] h0_0 h0_1 h0_2>>=fun x13 =>
    some x13:Option (Bool))>>=fun o11 =>
  if o11 then
   ( Qa1 [108,101,116] h0_0 h0_1 h0_2>>=fun x15 =>
    if x15 then
     some 12
    else
     some 11:Option (Int))>>=fun o14 =>
   Qak true h0_0 h0_1 h0_2>>=fun x16 =>
   Qdb h0_0 x16.2.1 x16.2.2>>=fun x17 =>
   ( if(o14==11) then
     Qa1 [105,110] h0_0 x17.2.1 x17.2.2>>=fun x19 =>
     Qak x19 h0_0 x17.2.1 x17.2.2>>=fun x20 =>
     some (x20.2.1,x20.2.2)
    else
     Qar 11 h0_0 x17.2.1 x17.2.2>>=fun x21 =>
     Qak x21 h0_0 x17.2.1 x17.2.2>>=fun x22 =>
     some (x22.2.1,x22.2.2):Option ((Int×Bool)))>>=fun o18 =>
   Qch h0_0 o18.1 o18.2>>=fun x23 =>
   Qcj h0_0 x23.2.1 x23.2.2>>=fun x24 =>
   Qb6 true false h0_0 x24.1 x24.2>>=fun x25 =>
   Qdq [101,110,100] h0_0 x25.2.1 x25.2.2>>=fun x26 =>
   some ((Qab.mk o14 x17.1 [] 0 [x23.1] x25.1 []),x26.1,x26.2)
  else
   ( Qa1 [117,115,101] h0_0 h0_1 h0_2>>=fun x28 =>
    if x28 then
     Qak true h0_0 h0_1 h0_2>>=fun x29 =>
     Qdb h0_0 x29.2.1 x29.2.2>>=fun x30 =>
     some (x30.2.1,x30.2.2,13,x30.1)
    else
     some (h0_1,h0_2,9,[]):Option ((Int×Bool×Int×(List UInt8))))>>=fun o27 =>
   Qch h0_0 o27.1 o27.2.1>>=fun x31 =>
   Qcj h0_0 x31.2.1 x31.2.2>>=fun x32 =>
   some ((Qab.mk o27.2.2.1 o27.2.2.2 [] 0 [x31.1] [] []),x32.1,x32.2)
 partial_fixpoint
end
theorem Qrv:∀ (h0_0:(List Qai)),(∀ (p1:Bool) (p2:Bool) (h0_1:Int) (h0_2:Bool) (o:(List Qab)×Int×Bool),Qb6 p1 p2 h0_0 h0_1 h0_2=some o→CallOK Tryz.prog 116 [.ptr 0 0,.p (bV p1),.p (bV p2)] ⟨[[.p (.sl false (h0_0.map Qag)),.p (iV h0_1),.p (bV h0_2)]],[]⟩ (Qfl o) ⟨[[.p (.sl false (h0_0.map Qag)),.p (iV o.2.1),.p (bV o.2.2)]],[]⟩)∧(∀ (p1:Bool) (p2:Bool) (v7:(List Qab)) (h0_1_:Int) (h0_2_:Bool) (o1:((List Qab)×Int×Bool)⊕((List Qab)×Int×Bool)),Qb2 p1 p2 h0_0 v7 h0_1_ h0_2_=some o1→TL (1,0) Tryz.prog 89 Qql (JP2 (1,0) 89 o1 (.exit 0) (Qih p1 p2 h0_0) .ret (Qii p1 p2 h0_0)) (Qcf p1 p2 h0_0 v7 h0_1_ h0_2_))∧(∀ (h0_1:Int) (h0_2:Bool) (o:Qab×Int×Bool),Qge h0_0 h0_1 h0_2=some o→CallOK Tryz.prog 146 [.ptr 0 0] ⟨[[.p (.sl false (h0_0.map Qag)),.p (iV h0_1),.p (bV h0_2)]],[]⟩ (Qe1 o) ⟨[[.p (.sl false (h0_0.map Qag)),.p (iV o.2.1),.p (bV o.2.2)]],[]⟩):=by
 intro h0_0;refine Qb6.mutual_partial_correctness h0_0 _ _ _ ?_ ?_ ?_
 ·intro Qb2' iQb2 p1 p2 h0_1 h0_2 o h;refine CallOK.ofB mixed tbOk Qlm Tryz.func116 rfl (by kernel_rfl) (Nat.le_of_ble_eq_true rfl) rfl rfl rfl ?_;refine Qam h (fun o1 ho hk=>?_);refine Exists.intro (JP2 _ _ o1 (.exit 0) (Qih p1 p2 h0_0) .ret (Qii p1 p2 h0_0)) (And.intro (Qkn (τ := Qcf p1 p2 h0_0 [] h0_1 h0_2) ?_ (TL.loop (iQb2 p1 p2 [] h0_1 h0_2 o1 ho))) (Qin (fun y2 hy=>?_) (fun y3 hy=>?_)))
  ·exact Le.trans (τ := ⟨[(0,.ptr 0 0),(1,.p (bV p1)),(2,.p (bV p2)),(7,.p (.sl true []))],⟨[[.p (.sl false (h0_0.map Qag)),.p (iV h0_1),.p (bV h0_2)]],[]⟩⟩) (Le.tz 1 0 rfl rfl rfl) ((Le.xnil (.s 7) 38 7 rfl).trans (Le.tz 1 1 rfl rfl rfl))
  ·have h:=(by rw[hy] at hk; exact hk);refine Exists.intro _ (And.intro (Le.trans (τ := ⟨[(6,.x 0 1 (.sl 38 7 (y2.1.map Qaa)))],⟨[[.p (.sl false (h0_0.map Qag)),.p (iV y2.2.1),.p (bV y2.2.2)]],[1]⟩⟩) (Le.tz 1 1 rfl rfl rfl) ((Le.frzv (.s 6) 0 1 rfl rfl rfl rfl).trans (Le.refl _ _ _))) ?_);exact Qa6 (t:=Qfl) (ss:=fun o=>⟨[[.p (.sl false (h0_0.map Qag)),.p (iV o.2.1),.p (bV o.2.2)]],[]⟩) h ⟨[],rfl,.refl _,.refl _,rfl⟩
  ·have h:=(by rw[hy] at hk; exact hk);refine Exists.intro _ (And.intro (Le.trans (τ := ⟨[(6,.x 0 1 (.sl 38 7 (y3.1.map Qaa)))],⟨[[.p (.sl false (h0_0.map Qag)),.p (iV y3.2.1),.p (bV y3.2.2)]],[1]⟩⟩) (Le.tz 1 1 rfl rfl rfl) ((Le.frzv (.s 6) 0 1 rfl rfl rfl rfl).trans (Le.refl _ _ _))) ?_);exact Qa6 (t:=Qfl) (ss:=fun o=>⟨[[.p (.sl false (h0_0.map Qag)),.p (iV o.2.1),.p (bV o.2.2)]],[]⟩) h ⟨[],rfl,.refl _,.refl _,rfl⟩
 ·intro Qb2' Qge' iQb2 iQge p1 p2 v7 h0_1_ h0_2_ o1 h;refine TL.round (Qas mixed tbOk (lv:=Qlm) _ _ _ ?_);refine Qam h (fun o4 ho hk=>?_);refine Exists.intro (JP1 _ _ o4 .normal (Qqi p1 p2 h0_0 v7 h0_1_ h0_2_)) (And.intro ?_ (Qbe ?_))
  ·have h:=ho;refine And.intro (by decide +kernel) (And.intro rfl ?_);refine Qad h (fun hb h=>?_) (fun hb h=>?_)
   ·refine view (Qdn _ _) rfl ?_;refine JP1.a h ?_;exact Le.tz 1 1 rfl rfl rfl
   ·refine JP1.a h ?_;exact Le.tz 1 1 rfl rfl rfl
  ·have h:=hk;refine Qad h (fun hb h=>?_) (fun hb h=>?_)
   ·refine Qao _ _ h (fun x5 hy=>((Qa0 1 h0_0 h0_1_ h0_2_ x5 hy).fr [0] [] rfl rfl rfl)) (fun x5 hy h=>?_);refine Qad h (fun hb h=>?_) (fun hb h=>?_)
    ·refine Qao _ _ h (fun x6 hy=>((Qaq true h0_0 h0_1_ h0_2_ x6 hy).fr [0] [] rfl rfl rfl)) (fun x6 hy h=>?_);refine And.intro rfl (Exists.intro _ (And.intro (List.length_map _) ?_));refine Qam h (fun o7 ho hk=>?_);refine Exists.intro (JP1 _ _ o7 .normal (Qqj p1 p2 h0_0 v7 x6)) (And.intro ?_ (Qbe ?_))
     ·have h:=ho;refine Qad h (fun hb h=>?_) (fun hb h=>?_)
      ·refine Qu4 (l:=v7) (c:=Qaa) (c' := Qa5) h rfl Qap (fun _=>rfl) (by decide) (fun x8 hi h=>?_);refine And.intro rfl ?_;refine And.intro rfl (And.intro (Nat.le_of_ble_eq_true rfl) ?_);refine JP1.a h ?_;exact Le.tz 1 1 rfl rfl rfl
      ·refine JP1.a h ?_;exact Le.tz 1 1 rfl rfl rfl
     ·have h:=hk;refine Qad h (fun hb h=>?_) (fun hb h=>?_)
      ·refine Qu4 (l:=v7) (c:=Qaa) (c' := Qa5) h rfl Qap (fun _=>rfl) (by decide) (fun x9 hi h=>?_);refine And.intro rfl ?_;refine And.intro rfl (And.intro (Nat.le_of_ble_eq_true rfl) ?_);refine Qu3 h (fun h=>?_);refine Qu4 (l:=v7) (c:=Qaa) (c' := Qa5) h rfl Qap (fun _=>rfl) (by decide) (fun x10 hi h=>?_);refine And.intro rfl ?_;refine And.intro rfl (And.intro (Nat.le_of_ble_eq_true rfl) (And.intro rfl (And.intro rfl (Exists.intro ((v7.set ((wr ((v7.length:Int)-1)).toNat) (Qab.mk x10.Kind x10.Name (x9.Text++x6.1.Text) x10.N x10.L x10.Then x10.Else)).map Qaa) (And.intro (Qags (.ceq (Qap _) (.refl _))) ?_)))));refine TL.le (τ := Qcf p1 p2 h0_0 (v7.set ((wr ((v7.length:Int)-1)).toNat) (Qab.mk x10.Kind x10.Name (x9.Text++x6.1.Text) x10.N x10.L x10.Then x10.Else)) x6.2.1 x6.2.2) ?_ ((iQb2 p1 p2 (v7.set ((wr ((v7.length:Int)-1)).toNat) (Qab.mk x10.Kind x10.Name (x9.Text++x6.1.Text) x10.N x10.L x10.Then x10.Else)) x6.2.1 x6.2.2 _ h));exact Le.trans (τ := ⟨[(0,.ptr 0 0),(1,.p (bV p1)),(2,.p (bV p2)),(7,.x 0 2 (.sl 38 7 ((v7.set ((wr ((v7.length:Int)-1)).toNat) (Qab.mk x10.Kind x10.Name (x9.Text++x6.1.Text) x10.N x10.L x10.Then x10.Else)).map Qaa)))],⟨[[.p (.sl false (h0_0.map Qag)),.p (iV x6.2.1),.p (bV x6.2.2)]],[2]⟩⟩) (Le.tz 1 1 rfl rfl rfl) ((Le.ver (.s 7) 0 2 1 rfl rfl rfl rfl).trans (Le.tz 1 1 rfl rfl rfl))
      ·refine Qsk (a:=v7) (b:=[(Qab.mk 8 [] x6.1.Text 0 [] [] [])]) (c:=Qaa) h (.cons (.ceq (Qap _) (.cons (.refl _) (.cons (.refl _) (.cons (.refl _) (.cons (.refl _) (.cons (.not) (.cons (.not) (.cons (.not) (.nil))))))))) (.nil)) (fun x=>by rw[Qap]; rfl) rfl (fun x11 hi h=>?_);refine TL.le (τ := Qcf p1 p2 h0_0 x11 x6.2.1 x6.2.2) ?_ ((iQb2 p1 p2 x11 x6.2.1 x6.2.2 _ h));exact Le.trans (τ := ⟨[(0,.ptr 0 0),(1,.p (bV p1)),(2,.p (bV p2)),(7,.x 0 2 (.sl 38 7 (x11.map Qaa)))],⟨[[.p (.sl false (h0_0.map Qag)),.p (iV x6.2.1),.p (bV x6.2.2)]],[2]⟩⟩) (Le.tz 1 1 rfl rfl rfl) ((Le.ver (.s 7) 0 2 1 rfl rfl rfl rfl).trans (Le.tz 1 1 rfl rfl rfl))
    ·refine Qam h (fun o12 ho hk=>?_);refine Exists.intro (JP1 _ _ o12 .normal (Qqk p1 p2 h0_0 v7 h0_1_ h0_2_)) (And.intro ?_ (Qbe ?_))
     ·have h:=ho;refine Qad h (fun hb h=>?_) (fun hb h=>?_)
      ·refine Qao _ _ h (fun x13 hy=>((Qe6 [101,110,100] h0_0 h0_1_ h0_2_ x13 hy).fr [0] [] rfl rfl rfl)) (fun x13 hy h=>?_);refine Qad h (fun hb h=>?_) (fun hb h=>?_)
       ·refine JP1.a h ?_;exact Le.tz 1 1 rfl rfl rfl
       ·refine Qad h (fun hb h=>?_) (fun hb h=>?_)
        ·refine Qao _ _ h (fun x14 hy=>((Qe6 [101,108,115,101] h0_0 h0_1_ h0_2_ x14 hy).fr [0] [] rfl rfl rfl)) (fun x14 hy h=>?_);refine JP1.a h ?_;exact Le.tz 1 1 rfl rfl rfl
        ·refine JP1.a h ?_;exact Le.tz 1 1 rfl rfl rfl
      ·refine bF ?_;refine Qad h (fun hb h=>?_) (fun hb h=>?_)
       ·refine Qao _ _ h (fun x15 hy=>((Qe6 [101,108,115,101] h0_0 h0_1_ h0_2_ x15 hy).fr [0] [] rfl rfl rfl)) (fun x15 hy h=>?_);refine JP1.a h ?_;exact Le.tz 1 1 rfl rfl rfl
       ·refine JP1.a h ?_;exact Le.tz 1 1 rfl rfl rfl
     ·have h:=hk;refine Qad h (fun hb h=>?_) (fun hb h=>?_)
      ·exact JP2.b h (Le.tz 1 1 rfl rfl rfl)
      ·refine Qao _ _ h (fun x16 hy=>((Qa0 2 h0_0 h0_1_ h0_2_ x16 hy).fr [0] [] rfl rfl rfl)) (fun x16 hy h=>?_);refine Qao _ _ h (fun x17 hy=>((Qaq x16 h0_0 h0_1_ h0_2_ x17 hy).fr [0] [] rfl rfl rfl)) (fun x17 hy h=>?_);refine Qao _ _ h (fun x18 hy=>((Qa0 3 h0_0 x17.2.1 x17.2.2 x18 hy).fr [0] [] rfl rfl rfl)) (fun x18 hy h=>?_);refine Qad h (fun hb h=>?_) (fun hb h=>?_)
       ·refine Qao _ _ h (fun x19 hy=>((Qaq true h0_0 x17.2.1 x17.2.2 x19 hy).fr [0] [] rfl rfl rfl)) (fun x19 hy h=>?_);refine TL.le (τ := Qcf p1 p2 h0_0 v7 x19.2.1 x19.2.2) ?_ ((iQb2 p1 p2 v7 x19.2.1 x19.2.2 _ h));exact Le.tz 1 1 rfl rfl rfl
       ·refine Qao _ _ h (fun x20 hy=>((iQge x17.2.1 x17.2.2 x20 hy).fr [0] [] rfl rfl rfl)) (fun x20 hy h=>?_);refine Qsk (a:=v7) (b:=[x20.1]) (c:=Qaa) h (.cons (.ceq (Qap _) (.refl _)) (.nil)) (fun x=>by rw[Qap]; rfl) rfl (fun x21 hi h=>?_);refine TL.le (τ := Qcf p1 p2 h0_0 x21 x20.2.1 x20.2.2) ?_ ((iQb2 p1 p2 x21 x20.2.1 x20.2.2 _ h));exact Le.trans (τ := ⟨[(0,.ptr 0 0),(1,.p (bV p1)),(2,.p (bV p2)),(7,.x 0 2 (.sl 38 7 (x21.map Qaa)))],⟨[[.p (.sl false (h0_0.map Qag)),.p (iV x20.2.1),.p (bV x20.2.2)]],[2]⟩⟩) (Le.tz 1 1 rfl rfl rfl) ((Le.ver (.s 7) 0 2 1 rfl rfl rfl rfl).trans (Le.tz 1 1 rfl rfl rfl))
   ·exact JP2.a h (Le.tz 1 1 rfl rfl rfl)
 ·intro Qb6' iQb6 h0_1 h0_2 o h;refine CallOK.ofB mixed tbOk Qrq Tryz.func146 rfl (by kernel_rfl) (Nat.le_of_ble_eq_true rfl) rfl rfl rfl ?_;refine Qao _ _ h (fun x1 hy=>((Qbj [105,102] h0_0 h0_1 h0_2 x1 hy).fr [0] [] rfl rfl rfl)) (fun x1 hy h=>?_);refine Qad h (fun hb h=>?_) (fun hb h=>?_)
  ·refine Qao _ _ h (fun x2 hy=>((Qaq true h0_0 h0_1 h0_2 x2 hy).fr [0] [] rfl rfl rfl)) (fun x2 hy h=>?_);refine Qao _ _ h (fun x3 hy=>((Qh1 h0_0 x2.2.1 x2.2.2 x3 hy).fr [0] [] rfl rfl rfl)) (fun x3 hy h=>?_);refine Qao _ _ h (fun x4 hy=>((Qe7 h0_0 x3.2.1 x3.2.2 x4 hy).fr [0] [] rfl rfl rfl)) (fun x4 hy h=>?_);refine Qao _ _ h (fun x5 hy=>((iQb6 true true x4.1 x4.2 x5 hy).fr [0] [] rfl rfl rfl)) (fun x5 hy h=>?_);refine Qam h (fun o6 ho hk=>?_);refine Exists.intro (JP1 _ _ o6 .normal (Qpe h0_0 x3 x5)) (And.intro ?_ (Qbe ?_))
   ·have h:=ho;refine Qao _ _ h (fun x7 hy=>((Qe6 [101,108,115,101] h0_0 x5.2.1 x5.2.2 x7 hy).fr [0] [] rfl rfl rfl)) (fun x7 hy h=>?_);refine Qad h (fun hb h=>?_) (fun hb h=>?_)
    ·refine Qao _ _ h (fun x8 hy=>((Qja [101,108,115,101] h0_0 x5.2.1 x5.2.2 x8 hy).fr [0] [] rfl rfl rfl)) (fun x8 hy h=>?_);refine Qao _ _ h (fun x9 hy=>((iQb6 true false x8.1 x8.2 x9 hy).fr [0] [] rfl rfl rfl)) (fun x9 hy h=>?_);refine JP1.a h ?_;exact Le.tow 3 0 rfl (.cons rfl (.refl _) (.cons rfl (.refl _) (.cons rfl (.refl _) (.nil)))) (.cons (.refl _) (.cons (.refl _) (.cons (.cons (.refl _) (.cons (.refl _) (.cons (.refl _) (.cons (.refl _) (.cons (.p (.sl' (fun h=>h) (.cons (.ceq (Qap _) (.refl _)) (.nil)))) (.cons (.refl _) (.cons (.refl _) (.nil)))))))) (.nil)))) rfl
    ·refine JP1.a h ?_;exact Le.tow 3 0 rfl (.cons rfl (.refl _) (.cons rfl (.refl _) (.cons rfl (.refl _) (.nil)))) (.cons (.refl _) (.cons (.refl _) (.cons (.cons (.refl _) (.cons (.refl _) (.cons (.refl _) (.cons (.refl _) (.cons (.p (.sl' (fun h=>h) (.cons (.ceq (Qap _) (.refl _)) (.nil)))) (.cons (.refl _) (.cons (.p (.not)) (.nil)))))))) (.nil)))) rfl
   ·have h:=hk;refine Qao _ _ h (fun x10 hy=>((Qja [101,110,100] h0_0 o6.1 o6.2.1 x10 hy).fr [0] [] rfl rfl rfl)) (fun x10 hy h=>?_);refine Exists.intro _ (And.intro (Le.refl _ _ _) ?_);exact Qa6 (t:=Qe1) (ss:=fun o=>⟨[[.p (.sl false (h0_0.map Qag)),.p (iV o.2.1),.p (bV o.2.2)]],[]⟩) h ⟨[],rfl,.p (.agg' (.cons (.refl _) (.cons (.refl _) (.cons (.refl _) (.cons (.refl _) (.cons (.not) (.cons (.refl _) (.cons (.refl _) (.nil))))))))),.refl _,rfl⟩
  ·refine Qam h (fun o11 ho hk=>?_);refine Exists.intro (JP1 _ _ o11 .normal (Qpf h0_0 h0_1 h0_2)) (And.intro ?_ (Qbe ?_))
   ·have h:=ho;refine Qao _ _ h (fun x12 hy=>((Qbj [101,97,99,104] h0_0 h0_1 h0_2 x12 hy).fr [0] [] rfl rfl rfl)) (fun x12 hy h=>?_);refine Qad h (fun hb h=>?_) (fun hb h=>?_)
    ·refine JP1.a h ?_;exact Le.tz 2 0 rfl rfl rfl
    ·refine Qao _ _ h (fun x13 hy=>((Qbj [108,101,116] h0_0 h0_1 h0_2 x13 hy).fr [0] [] rfl rfl rfl)) (fun x13 hy h=>?_);refine JP1.a h ?_;exact Le.tz 2 0 rfl rfl rfl
   ·have h:=hk;refine Qad h (fun hb h=>?_) (fun hb h=>?_)
    ·refine Qam h (fun o14 ho hk=>?_);refine Exists.intro (JP1 _ _ o14 .normal (Qpg h0_0 h0_1 h0_2)) (And.intro ?_ (Qbe ?_))
     ·have h:=ho;refine Qao _ _ h (fun x15 hy=>((Qbj [108,101,116] h0_0 h0_1 h0_2 x15 hy).fr [0] [] rfl rfl rfl)) (fun x15 hy h=>?_);refine Qad h (fun hb h=>?_) (fun hb h=>?_)
      ·refine JP1.a h ?_;exact Le.tz 3 0 rfl rfl rfl
      ·refine JP1.a h ?_;exact Le.tz 3 0 rfl rfl rfl
     ·have h:=hk;refine Qao _ _ h (fun x16 hy=>((Qaq true h0_0 h0_1 h0_2 x16 hy).fr [0] [] rfl rfl rfl)) (fun x16 hy h=>?_);refine Qao _ _ h (fun x17 hy=>((Qh0 h0_0 x16.2.1 x16.2.2 x17 hy).fr [0] [] rfl rfl rfl)) (fun x17 hy h=>?_);refine Qam h (fun o18 ho hk=>?_);refine Exists.intro (JP1 _ _ o18 .normal (Qph h0_0 o14 x17)) (And.intro ?_ (Qbe ?_))
      ·have h:=ho;refine Qad h (fun hb h=>?_) (fun hb h=>?_)
       ·refine Qao _ _ h (fun x19 hy=>((Qbj [105,110] h0_0 x17.2.1 x17.2.2 x19 hy).fr [0] [] rfl rfl rfl)) (fun x19 hy h=>?_);refine Qao _ _ h (fun x20 hy=>((Qaq x19 h0_0 x17.2.1 x17.2.2 x20 hy).fr [0] [] rfl rfl rfl)) (fun x20 hy h=>?_);refine JP1.a h ?_;exact Le.tz 3 0 rfl rfl rfl
       ·refine Qao _ _ h (fun x21 hy=>((Qa0 11 h0_0 x17.2.1 x17.2.2 x21 hy).fr [0] [] rfl rfl rfl)) (fun x21 hy h=>?_);refine Qao _ _ h (fun x22 hy=>((Qaq x21 h0_0 x17.2.1 x17.2.2 x22 hy).fr [0] [] rfl rfl rfl)) (fun x22 hy h=>?_);refine JP1.a h ?_;exact Le.tz 3 0 rfl rfl rfl
      ·have h:=hk;refine Qao _ _ h (fun x23 hy=>((Qh1 h0_0 o18.1 o18.2 x23 hy).fr [0] [] rfl rfl rfl)) (fun x23 hy h=>?_);refine Qao _ _ h (fun x24 hy=>((Qe7 h0_0 x23.2.1 x23.2.2 x24 hy).fr [0] [] rfl rfl rfl)) (fun x24 hy h=>?_);refine Qao _ _ h (fun x25 hy=>((iQb6 true false x24.1 x24.2 x25 hy).fr [0] [] rfl rfl rfl)) (fun x25 hy h=>?_);refine Qao _ _ h (fun x26 hy=>((Qja [101,110,100] h0_0 x25.2.1 x25.2.2 x26 hy).fr [0] [] rfl rfl rfl)) (fun x26 hy h=>?_);refine Exists.intro _ (And.intro (Le.refl _ _ _) ?_);exact Qa6 (t:=Qe1) (ss:=fun o=>⟨[[.p (.sl false (h0_0.map Qag)),.p (iV o.2.1),.p (bV o.2.2)]],[]⟩) h ⟨[],rfl,.p (.agg' (.cons (.refl _) (.cons (.refl _) (.cons (.refl _) (.cons (.refl _) (.cons (.no (.cons (.ceq (Qap _) (.refl _)) (.nil))) (.cons (.refl _) (.cons (.not) (.nil))))))))),.refl _,rfl⟩
    ·refine Qam h (fun o27 ho hk=>?_);refine Exists.intro (JP1 _ _ o27 .normal (Qpi h0_0)) (And.intro ?_ (Qbe ?_))
     ·have h:=ho;refine Qao _ _ h (fun x28 hy=>((Qbj [117,115,101] h0_0 h0_1 h0_2 x28 hy).fr [0] [] rfl rfl rfl)) (fun x28 hy h=>?_);refine Qad h (fun hb h=>?_) (fun hb h=>?_)
      ·refine Qao _ _ h (fun x29 hy=>((Qaq true h0_0 h0_1 h0_2 x29 hy).fr [0] [] rfl rfl rfl)) (fun x29 hy h=>?_);refine Qao _ _ h (fun x30 hy=>((Qh0 h0_0 x29.2.1 x29.2.2 x30 hy).fr [0] [] rfl rfl rfl)) (fun x30 hy h=>?_);refine JP1.a h ?_;exact Le.tz 3 0 rfl rfl rfl
      ·refine JP1.a h ?_;exact Le.tz 3 0 rfl rfl rfl
     ·have h:=hk;refine Qao _ _ h (fun x31 hy=>((Qh1 h0_0 o27.1 o27.2.1 x31 hy).fr [0] [] rfl rfl rfl)) (fun x31 hy h=>?_);refine Qao _ _ h (fun x32 hy=>((Qe7 h0_0 x31.2.1 x31.2.2 x32 hy).fr [0] [] rfl rfl rfl)) (fun x32 hy h=>?_);refine Exists.intro _ (And.intro (Le.refl _ _ _) ?_);exact Qa6 (t:=Qe1) (ss:=fun o=>⟨[[.p (.sl false (h0_0.map Qag)),.p (iV o.2.1),.p (bV o.2.2)]],[]⟩) h ⟨[],rfl,.p (.agg' (.cons (.refl _) (.cons (.refl _) (.cons (.refl _) (.cons (.refl _) (.cons (.no (.cons (.ceq (Qap _) (.refl _)) (.nil))) (.cons (.not) (.cons (.not) (.nil))))))))),.refl _,rfl⟩
theorem Qs1:∀ (p1:Bool) (p2:Bool) (h0_0:(List Qai)) (h0_1:Int) (h0_2:Bool) (o:(List Qab)×Int×Bool),Qb6 p1 p2 h0_0 h0_1 h0_2=some o→CallOK Tryz.prog 116 [.ptr 0 0,.p (bV p1),.p (bV p2)] ⟨[[.p (.sl false (h0_0.map Qag)),.p (iV h0_1),.p (bV h0_2)]],[]⟩ (Qfl o) ⟨[[.p (.sl false (h0_0.map Qag)),.p (iV o.2.1),.p (bV o.2.2)]],[]⟩:=fun p1 p2 h0_0 h0_1 h0_2=>(Qrv h0_0).1 p1 p2 h0_1 h0_2
def Qnr (p0:(List UInt8)):Option ((List Qab)×Int×Int) :=
 Qk4 p0>>=fun x1 =>
 if(x1.2.2 != 0) then
  some ([],x1.2.1,x1.2.2)
 else
  Qb6 false false x1.1 0 false>>=fun x2 =>
  if x2.2.2 then
   if(decide (x2.2.1<(x1.1.length:Int))) then
    idx x1.1 x2.2.1>>=fun x3 =>
    some ([],x3.From,7)
   else
    some ([],(p0.length:Int),7)
  else
   Qfa x2.1>>=fun x4 =>
   if(decide (x4>1024)) then
    some ([],0,5)
   else
    Qgx x2.1>>=fun x5 =>
    if(decide (x5>12)) then
     some ([],0,8)
    else
     some (x2.1,0,0)
theorem Q7a:∀ (p0:(List UInt8)) (o:(List Qab)×Int×Int),Qnr p0=some o→PCall Tryz.prog 84 [sV p0] (Qfu o):=by
 intro p0 o h;unfold Qnr at h;refine PCall.ofB mixed tbOk Q68 Tryz.func84 rfl (by kernel_rfl) (Nat.le_of_ble_eq_true rfl) ?_;refine Qat [sV p0] Qju h (fun x1 hy=>(Q34 p0 x1 hy)) (fun x1 hy h=>?_);refine Qad h (fun hb h=>?_) (fun hb h=>?_)
 ·refine Qav (t:=Qfu) h ?_;exact .tup (xs:=[.sl true [],iV x1.2.1,iV x1.2.2]) (ys:=[.sl false [],iV x1.2.1,iV x1.2.2]) (.cons (.not) (.cons (.refl _) (.cons (.refl _) (.nil))))
 ·refine Qao _ _ h (fun x2 hy=>((Qs1 false false x1.1 0 false x2 hy).fr [0] [] rfl rfl rfl)) (fun x2 hy h=>?_);refine Qad h (fun hb h=>?_) (fun hb h=>?_)
  ·refine view (Qdn _ _) rfl ?_;refine Qad h (fun hb h=>?_) (fun hb h=>?_)
   ·refine And.intro (by decide +kernel) (And.intro rfl ?_);refine Qbu (l:=x1.1) (c:=Qag) (c' := Qag) h (fun _=>rfl) (fun _=>rfl) (by decide) (fun x3 hi h=>?_);refine Qav (t:=Qfu) h ?_;exact .tup (xs:=[.sl true [],iV x3.From,iV 7]) (ys:=[.sl false [],iV x3.From,iV 7]) (.cons (.not) (.cons (.refl _) (.cons (.refl _) (.nil))))
   ·refine vrfl ?_;refine Qav (t:=Qfu) h ?_;exact .tup (xs:=[.sl true [],iV (p0.length:Int),iV 7]) (ys:=[.sl false [],iV (p0.length:Int),iV 7]) (.cons (.not) (.cons (.refl _) (.cons (.refl _) (.nil))))
  ·refine Qat [.sl false (x2.1.map Qaa)] Qg0 h (fun x4 hy=>(Q6s x2.1 x4 hy)) (fun x4 hy h=>?_);refine Qad h (fun hb h=>?_) (fun hb h=>?_)
   ·refine Qav (t:=Qfu) h ?_;exact .tup (xs:=[.sl true [],iV 0,iV 5]) (ys:=[.sl false [],iV 0,iV 5]) (.cons (.not) (.cons (.refl _) (.cons (.refl _) (.nil))))
   ·refine Qat [.sl false (x2.1.map Qaa)] Qit h (fun x5 hy=>(Q81 x2.1 x5 hy)) (fun x5 hy h=>?_);refine Qad h (fun hb h=>?_) (fun hb h=>?_)
    ·refine Qav (t:=Qfu) h ?_;exact .tup (xs:=[.sl true [],iV 0,iV 8]) (ys:=[.sl false [],iV 0,iV 8]) (.cons (.not) (.cons (.refl _) (.cons (.refl _) (.nil))))
    ·refine Qav (t:=Qfu) h ?_;exact .refl _
def Qfy (p0:(List Qah)) (p1:(List UInt8)) (v5:Int):Option (Unit⊕Bool) :=
 if(decide (v5 ≥ 0)) then
  idx p0 v5>>=fun x4 =>
  if(x4.Name==p1) then
   idx p0 v5>>=fun x5 =>
   some (.inr x5.Secret)
  else
   Qfy p0 p1 (wr (v5-1))
 else
  some (.inl ())
 partial_fixpoint
theorem Qacj:∀ (p0:(List Qah)) (p1:(List UInt8)),(∀ (v5:Int) (o1:Unit⊕Bool),Qfy p0 p1 v5=some o1→TL (0,0) Tryz.prog 25 Q0r (JP2 (0,0) 25 o1 (.exit 0) (Qqp p0 p1) .ret (Qqq p0 p1)) (Qlo p0 p1 v5)):=by
 intro p0 p1;refine Qfy.partial_correctness p0 p1 _ ?_;intro Qfy' iQfy v5 o1 h;refine TL.round (Qas mixed tbOk (lv:=Qv4) _ _ _ ?_);refine Qad h (fun hb h=>?_) (fun hb h=>?_)
 ·refine Qbu (l:=p0) (c:=Qal) (c' := Qal) h (fun _=>rfl) (fun _=>rfl) (by decide) (fun x4 hi h=>?_);refine Qad h (fun hb h=>?_) (fun hb h=>?_)
  ·refine Qbu (l:=p0) (c:=Qal) (c' := Qal) h (fun _=>rfl) (fun _=>rfl) (by decide) (fun x5 hi h=>?_);exact JP2.b h (Le.tz 0 0 rfl rfl rfl)
  ·refine TL.le (τ := Qlo p0 p1 (wr (v5-1))) ?_ ((iQfy (wr (v5-1)) _ h));exact Le.tz 0 0 rfl rfl rfl
 ·exact JP2.a h (Le.tz 0 0 rfl rfl rfl)
def Qqt (p0:(List Qah)) (p1:(List UInt8)):Option (Bool) :=
 (Qfy p0 p1 (wr ((p0.length:Int)-1)))>>=fun o1 =>
 match o1 with
 | .inl y2 =>
  some false
 | .inr y3 =>
  some y3
theorem Q7b:∀ (p0:(List Qah)) (p1:(List UInt8)) (o:Bool),Qqt p0 p1=some o→PCall Tryz.prog 58 [.sl false (p0.map Qal),sV p1] (Qoj o):=by
 intro p0 p1 o h;unfold Qqt at h;refine PCall.ofB mixed tbOk Qv4 Tryz.func58 rfl (by kernel_rfl) (Nat.le_of_ble_eq_true rfl) ?_;refine view (Qdn _ _) rfl ?_;refine Qam h (fun o1 ho hk=>?_);refine Exists.intro (JP2 _ _ o1 (.exit 0) (Qqp p0 p1) .ret (Qqq p0 p1)) (And.intro (Qkn (τ := Qlo p0 p1 (wr ((p0.length:Int)-1))) ?_ (TL.loop (Qacj p0 p1 (wr ((p0.length:Int)-1)) o1 ho))) (Qin (fun y2 hy=>?_) (fun y3 hy=>?_)))
 ·exact Le.tz 0 0 rfl rfl rfl
 ·have h:=(by rw[hy] at hk; exact hk);refine Qav (t:=Qoj) h ?_;exact .refl _
 ·have h:=(by rw[hy] at hk; exact hk);refine Qav (t:=Qoj) h ?_;exact .refl _
mutual
def Qkw (p0:Qab) (p1:(List Qah)):Option (Bool) :=
 if(p0.Kind==7) then
  some true
 else
  if(p0.Kind==4) then
   Qqt p1 p0.Name>>=fun x1 =>
   some x1
  else
   ( if(p0.Kind != 5) then
     some (p0.Kind != 6)
    else
     some false:Option (Bool))>>=fun o2 =>
   if o2 then
    some false
   else
    (Qjb p0 p1 0)>>=fun o3 =>
    match o3 with
    | .inl y4 =>
     some false
    | .inr y5 =>
     some true
 partial_fixpoint
def Qjb (p0:Qab) (p1:(List Qah)) (v5:Int):Option (Unit⊕Unit) :=
 if(decide (v5<(p0.L.length:Int))) then
  idx p0.L v5>>=fun x6 =>
  Qkw x6 p1>>=fun x7 =>
  if x7 then
   some (.inr ())
  else
   Qjb p0 p1 (wr (v5+1))
 else
  some (.inl ())
 partial_fixpoint
end
theorem Q7c:∀ (p1:(List Qah)),(∀ (p0:Qab) (o:Bool),Qkw p0 p1=some o→PCall Tryz.prog 24 [.agg [iV p0.Kind,sV p0.Name,sV p0.Text,iV p0.N,.sl false (p0.L.map Qaa),.sl false (p0.Then.map Qaa),.sl false (p0.Else.map Qaa)],.sl false (p1.map Qal)] (Qff o))∧(∀ (p0:Qab) (v5:Int) (o3:Unit⊕Unit),Qjb p0 p1 v5=some o3→TL (0,0) Tryz.prog 38 Q31 (JP2 (0,0) 38 o3 (.exit 0) (Qsd p0 p1) .ret (Qse p0 p1)) (Qmu p0 p1 v5)):=by
 intro p1;refine Qkw.mutual_partial_correctness p1 _ _ ?_ ?_
 ·intro Qjb' iQjb p0 o h;refine PCall.ofB mixed tbOk Qy9 Tryz.func24 rfl (by kernel_rfl) (Nat.le_of_ble_eq_true rfl) ?_;refine Qad h (fun hb h=>?_) (fun hb h=>?_)
  ·refine Qav (t:=Qff) h ?_;exact .refl _
  ·refine Qad h (fun hb h=>?_) (fun hb h=>?_)
   ·refine Qat [.sl false (p1.map Qal),sV p0.Name] Qoj h (fun x1 hy=>(Q7b p1 p0.Name x1 hy)) (fun x1 hy h=>?_);refine Qav (t:=Qff) h ?_;exact .refl _
   ·refine Qam h (fun o2 ho hk=>?_);refine Exists.intro (JP1 _ _ o2 .normal (Q30 p0 p1)) (And.intro ?_ (Qbe ?_))
    ·have h:=ho;refine Qad h (fun hb h=>?_) (fun hb h=>?_)
     ·refine JP1.a h ?_;exact Le.tz 1 0 rfl rfl rfl
     ·refine JP1.a h ?_;exact Le.tz 1 0 rfl rfl rfl
    ·have h:=hk;refine Qad h (fun hb h=>?_) (fun hb h=>?_)
     ·refine Qav (t:=Qff) h ?_;exact .refl _
     ·refine Qam h (fun o3 ho hk=>?_);refine Exists.intro (JP2 _ _ o3 (.exit 0) (Qsd p0 p1) .ret (Qse p0 p1)) (And.intro (Qkn (τ := Qmu p0 p1 0) ?_ (TL.loop (iQjb p0 0 o3 ho))) (Qin (fun y4 hy=>?_) (fun y5 hy=>?_)))
      ·exact Le.tz 1 0 rfl rfl rfl
      ·have h:=(by rw[hy] at hk; exact hk);refine Qav (t:=Qff) h ?_;exact .refl _
      ·have h:=(by rw[hy] at hk; exact hk);refine Qav (t:=Qff) h ?_;exact .refl _
 ·intro Qkw' Qjb' iQkw iQjb p0 v5 o3 h;refine TL.round (Qas mixed tbOk (lv:=Qy9) _ _ _ ?_);refine view (Qdn _ _) rfl ?_;refine Qad h (fun hb h=>?_) (fun hb h=>?_)
  ·refine Qbu (l:=p0.L) (c:=Qaa) (c' := Qa5) h Qap (fun _=>rfl) (by decide) (fun x6 hi h=>?_);refine Qat [.agg [iV x6.Kind,sV x6.Name,sV x6.Text,iV x6.N,.sl false (x6.L.map Qaa),.sl false (x6.Then.map Qaa),.sl false (x6.Else.map Qaa)],.sl false (p1.map Qal)] Qff h (fun x7 hy=>(iQkw x6 x7 hy)) (fun x7 hy h=>?_);refine Qad h (fun hb h=>?_) (fun hb h=>?_)
   ·exact JP2.b h (Le.tz 1 0 rfl rfl rfl)
   ·refine TL.le (τ := Qmu p0 p1 (wr (v5+1))) ?_ ((iQjb p0 (wr (v5+1)) _ h));exact Le.tz 1 0 rfl rfl rfl
  ·exact JP2.a h (Le.tz 1 0 rfl rfl rfl)
theorem Qzb:∀ (p0:Qab) (p1:(List Qah)) (o:Bool),Qkw p0 p1=some o→PCall Tryz.prog 24 [.agg [iV p0.Kind,sV p0.Name,sV p0.Text,iV p0.N,.sl false (p0.L.map Qaa),.sl false (p0.Then.map Qaa),.sl false (p0.Else.map Qaa)],.sl false (p1.map Qal)] (Qff o):=fun p0 p1=>(Q7c p1).1 p0
def Qd0 (p0:(List UInt8)):Option ((List Qae)) :=
 Qnr p0>>=fun x1 =>
 some ([(Qae.mk [109] x1.1)])
theorem Qh2:∀ (p0:(List UInt8)) (o:(List Qae)),Qd0 p0=some o→PCall Tryz.prog 59 [sV p0] (Qep o):=by
 intro p0 o h;unfold Qd0 at h;refine PCall.ofB mixed tbOk Qt8 Tryz.func59 rfl (by kernel_rfl) (Nat.le_of_ble_eq_true rfl) ?_;refine Qat [sV p0] Qfu h (fun x1 hy=>(Q7a p0 x1 hy)) (fun x1 hy h=>?_);refine Qav (t:=Qep) h ?_;exact .p (.not)
def Qh3:Option (Unit) :=
 some ()
theorem Que:∀ (o:Unit),Qh3  = some o→PCall Tryz.prog 62 [] (Qi3 o):=by
 intro o h;unfold Qh3 at h;refine PCall.ofB mixed tbOk Qt9 Tryz.func62 rfl (by kernel_rfl) (Nat.le_of_ble_eq_true rfl) ?_;refine Qav (t:=Qi3) h ?_;exact .refl _
def Qd1 (p0:Qab) (p1:(List Qah)) (v5:Int):Option (Unit⊕Bool) :=
 if(decide (v5 ≥ 0)) then
  idx p1 v5>>=fun x4 =>
  if(x4.Name==p0.Name) then
   idx p1 v5>>=fun x5 =>
   some (.inr x5.Secret)
  else
   Qd1 p0 p1 (wr (v5-1))
 else
  some (.inl ())
 partial_fixpoint
theorem Q85:∀ (p0:Qab) (p1:(List Qah)),(∀ (v5:Int) (o1:Unit⊕Bool),Qd1 p0 p1 v5=some o1→TL (0,0) Tryz.prog 39 Qva (JP2 (0,0) 39 o1 (.exit 1) (Qme p0 p1) .ret (Qmf p0 p1)) (Qhw p0 p1 v5)):=by
 intro p0 p1;refine Qd1.partial_correctness p0 p1 _ ?_;intro Qd1' iQd1 v5 o1 h;refine TL.round (Qas mixed tbOk (lv:=Qqr) _ _ _ ?_);refine Qad h (fun hb h=>?_) (fun hb h=>?_)
 ·refine And.intro (by decide +kernel) (And.intro rfl ?_);refine Qbu (l:=p1) (c:=Qal) (c' := Qal) h (fun _=>rfl) (fun _=>rfl) (by decide) (fun x4 hi h=>?_);refine Qad h (fun hb h=>?_) (fun hb h=>?_)
  ·refine Qbu (l:=p1) (c:=Qal) (c' := Qal) h (fun _=>rfl) (fun _=>rfl) (by decide) (fun x5 hi h=>?_);exact JP2.b h (Le.tz 2 0 rfl rfl rfl)
  ·refine TL.le (τ := Qhw p0 p1 (wr (v5-1))) ?_ ((iQd1 (wr (v5-1)) _ h));exact Le.tz 2 0 rfl rfl rfl
 ·exact JP2.a h (Le.tz 2 0 rfl rfl rfl)
mutual
def Qdc (p0:Qab) (p1:(List Qah)):Option (Bool) :=
 if(p0.Kind==7) then
  some true
 else
  if(p0.Kind==4) then
   (Qd1 p0 p1 (wr ((p1.length:Int)-1)))>>=fun o1 =>
   match o1 with
   | .inl y2 =>
    some false
   | .inr y3 =>
    some y3
  else
   ( if(p0.Kind==5) then
     some (p0.Kind==5)
    else
     some (p0.Kind==6):Option (Bool))>>=fun o6 =>
   if o6 then
    Qa2 p0.L p1>>=fun x7 =>
    some x7
   else
    some false
 partial_fixpoint
def Qa2 (p0:(List Qab)) (h0_0:(List Qah)):Option (Bool) :=
 Qbg p0 h0_0>>=fun x1 =>
 some (decide (x1 ≥ 0))
 partial_fixpoint
def Qbg (p0:(List Qab)) (h0_0:(List Qah)):Option (Int) :=
 (Qau p0 h0_0 0)>>=fun o1 =>
 match o1 with
 | .inl y2 =>
  some (-1)
 | .inr y3 =>
  some y3
 partial_fixpoint
def Qau (p0:(List Qab)) (h0_0:(List Qah)) (v8:Int):Option (Unit⊕Int) :=
 if(decide (v8<(p0.length:Int))) then
  idx p0 v8>>=fun x4 =>
  Qm0 x4 h0_0>>=fun x5 =>
  if x5 then
   some (.inr v8)
  else
   Qau p0 h0_0 (wr (v8+1))
 else
  some (.inl ())
 partial_fixpoint
def Qm0 (p0:Qab) (h0_0:(List Qah)):Option (Bool) :=
 Qdc p0 h0_0>>=fun x1 =>
 some x1
 partial_fixpoint
end
theorem Qwo:∀ (p1:(List Qah)),(∀ (p0:Qab) (o:Bool),Qdc p0 p1=some o→PCall Tryz.prog 23 [.agg [iV p0.Kind,sV p0.Name,sV p0.Text,iV p0.N,.sl false (p0.L.map Qaa),.sl false (p0.Then.map Qaa),.sl false (p0.Else.map Qaa)],.sl false (p1.map Qal)] (Qb4 o))∧(∀ (p0:(List Qab)) (o:Bool),Qa2 p0 p1=some o→CallOK Tryz.prog 56 [.p (.sl false (p0.map Qaa)),.fn (.func 57) [] [.ptr 0 0]] ⟨[[.p (.sl false (p1.map Qal))]],[]⟩ (Qbr o) ⟨[[.p (.sl false (p1.map Qal))]],[]⟩)∧(∀ (p0:(List Qab)) (o:Int),Qbg p0 p1=some o→CallOK Tryz.prog 83 [.p (.sl false (p0.map Qaa)),.fn (.func 57) [] [.ptr 0 0]] ⟨[[.p (.sl false (p1.map Qal))]],[]⟩ (Qbf o) ⟨[[.p (.sl false (p1.map Qal))]],[]⟩)∧(∀ (p0:(List Qab)) (v8:Int) (o1:Unit⊕Int),Qau p0 p1 v8=some o1→TL (1,0) Tryz.prog 19 Qdj (JP2 (1,0) 19 o1 (.exit 0) (Qbp p0 p1) .ret (Qbq p0 p1)) (Qba p0 p1 v8))∧(∀ (p0:Qab) (o:Bool),Qm0 p0 p1=some o→CallOK Tryz.prog 57 [.p (.agg [iV p0.Kind,sV p0.Name,sV p0.Text,iV p0.N,.sl false (p0.L.map Qaa),.sl false (p0.Then.map Qaa),.sl false (p0.Else.map Qaa)]),.ptr 0 0] ⟨[[.p (.sl false (p1.map Qal))]],[]⟩ (Qo8 o) ⟨[[.p (.sl false (p1.map Qal))]],[]⟩):=by
 intro p1;refine Qdc.mutual_partial_correctness p1 _ _ _ _ _ ?_ ?_ ?_ ?_ ?_
 ·intro Qa2' iQa2 p0 o h;refine PCall.ofB mixed tbOk Qqr Tryz.func23 rfl (by kernel_rfl) (Nat.le_of_ble_eq_true rfl) ?_;refine Qad h (fun hb h=>?_) (fun hb h=>?_)
  ·refine Qav (t:=Qb4) h ?_;exact .refl _
  ·refine Qad h (fun hb h=>?_) (fun hb h=>?_)
   ·refine view (Qdn _ _) rfl ?_;refine Qam h (fun o1 ho hk=>?_);refine Exists.intro (JP2 _ _ o1 (.exit 1) (Qme p0 p1) .ret (Qmf p0 p1)) (And.intro (Qkn (τ := Qhw p0 p1 (wr ((p1.length:Int)-1))) ?_ (TL.loop (Q85 p0 p1 (wr ((p1.length:Int)-1)) o1 ho))) (Qin (fun y2 hy=>?_) (fun y3 hy=>?_)))
    ·exact Le.tz 2 0 rfl rfl rfl
    ·have h:=(by rw[hy] at hk; exact hk);refine Qav (t:=Qb4) h ?_;exact .refl _
    ·have h:=(by rw[hy] at hk; exact hk);refine Qav (t:=Qb4) h ?_;exact .refl _
   ·refine Qam h (fun o6 ho hk=>?_);refine Exists.intro (JP1 _ _ o6 .normal (Qvb p0 p1)) (And.intro ?_ (Qbe ?_))
    ·have h:=ho;refine Qad h (fun hb h=>?_) (fun hb h=>?_)
     ·refine JP1.a h ?_;exact Le.tz 2 0 rfl rfl rfl
     ·refine JP1.a h ?_;exact Le.tz 2 0 rfl rfl rfl
    ·have h:=hk;refine Qad h (fun hb h=>?_) (fun hb h=>?_)
     ·refine Qao _ _ h (fun x7 hy=>((iQa2 p0.L x7 hy).fr [1] [] rfl rfl rfl)) (fun x7 hy h=>?_);refine Qav (t:=Qb4) h ?_;exact .refl _
     ·refine Qav (t:=Qb4) h ?_;exact .refl _
 ·intro Qbg' iQbg p0 o h;refine CallOK.ofB mixed tbOk Qdh Tryz.func56 rfl (by kernel_rfl) (Nat.le_of_ble_eq_true rfl) rfl rfl rfl ?_;refine Qao _ _ h (fun x1 hy=>((iQbg p0 x1 hy).fr [0] [] rfl rfl rfl)) (fun x1 hy h=>?_);refine Exists.intro _ (And.intro (Le.refl _ _ _) ?_);exact Qa6 (t:=Qbr) (ss:=fun o=>⟨[[.p (.sl false (p1.map Qal))]],[]⟩) h ⟨[],rfl,.refl _,.refl _,rfl⟩
 ·intro Qau' iQau p0 o h;refine CallOK.ofB mixed tbOk Qbx Tryz.func83 rfl (by kernel_rfl) (Nat.le_of_ble_eq_true rfl) rfl rfl rfl ?_;refine view (Qdn _ _) rfl ?_;refine Qam h (fun o1 ho hk=>?_);refine Exists.intro (JP2 _ _ o1 (.exit 0) (Qbp p0 p1) .ret (Qbq p0 p1)) (And.intro (Qkn (τ := Qba p0 p1 0) ?_ (TL.loop (iQau p0 0 o1 ho))) (Qin (fun y2 hy=>?_) (fun y3 hy=>?_)))
  ·exact Le.tz 1 0 rfl rfl rfl
  ·have h:=(by rw[hy] at hk; exact hk);refine Exists.intro _ (And.intro (Le.refl _ _ _) ?_);exact Qa6 (t:=Qbf) (ss:=fun o=>⟨[[.p (.sl false (p1.map Qal))]],[]⟩) h ⟨[],rfl,.refl _,.refl _,rfl⟩
  ·have h:=(by rw[hy] at hk; exact hk);refine Exists.intro _ (And.intro (Le.refl _ _ _) ?_);exact Qa6 (t:=Qbf) (ss:=fun o=>⟨[[.p (.sl false (p1.map Qal))]],[]⟩) h ⟨[],rfl,.refl _,.refl _,rfl⟩
 ·intro Qau' Qm0' iQau iQm0 p0 v8 o1 h;refine TL.round (Qas mixed tbOk (lv:=Qbx) _ _ _ ?_);refine Qad h (fun hb h=>?_) (fun hb h=>?_)
  ·refine Qbu (l:=p0) (c:=Qaa) (c' := Qa5) h Qap (fun _=>rfl) (by decide) (fun x4 hi h=>?_);refine Qao _ _ h (fun x5 hy=>((iQm0 x4 x5 hy).fr [0] [] rfl rfl rfl)) (fun x5 hy h=>?_);refine Qad h (fun hb h=>?_) (fun hb h=>?_)
   ·exact JP2.b h (Le.tz 1 0 rfl rfl rfl)
   ·refine TL.le (τ := Qba p0 p1 (wr (v8+1))) ?_ ((iQau p0 (wr (v8+1)) _ h));exact Le.tz 1 0 rfl rfl rfl
  ·exact JP2.a h (Le.tz 1 0 rfl rfl rfl)
 ·intro Qdc' iQdc p0 o h;refine CallOK.ofB mixed tbOk Qvc Tryz.func57 rfl (by kernel_rfl) (Nat.le_of_ble_eq_true rfl) rfl rfl rfl ?_;refine Qat [.agg [iV p0.Kind,sV p0.Name,sV p0.Text,iV p0.N,.sl false (p0.L.map Qaa),.sl false (p0.Then.map Qaa),.sl false (p0.Else.map Qaa)],.sl false (p1.map Qal)] Qb4 h (fun x1 hy=>(iQdc p0 x1 hy)) (fun x1 hy h=>?_);refine Exists.intro _ (And.intro (Le.refl _ _ _) ?_);exact Qa6 (t:=Qo8) (ss:=fun o=>⟨[[.p (.sl false (p1.map Qal))]],[]⟩) h ⟨[],rfl,.refl _,.refl _,rfl⟩
theorem Qh4:∀ (p0:Qab) (p1:(List Qah)) (o:Bool),Qdc p0 p1=some o→PCall Tryz.prog 23 [.agg [iV p0.Kind,sV p0.Name,sV p0.Text,iV p0.N,.sl false (p0.L.map Qaa),.sl false (p0.Then.map Qaa),.sl false (p0.Else.map Qaa)],.sl false (p1.map Qal)] (Qb4 o):=fun p0 p1=>(Qwo p1).1 p0
def Qbn (p0:(List Qah)):Option ((List Qah)) :=
 appL 32 [] p0
theorem Qec:∀ (p0:(List Qah)) (o:(List Qah)),Qbn p0=some o→CallOK Tryz.prog 88 [.p (.sl false (p0.map Qal))] ⟨[],[]⟩ (Qcz o) ⟨[],[1]⟩:=by
 intro p0 o h;unfold Qbn at h;have h:(appL 32 ([]:List Qah) p0>>=fun r=>some r)=some o:=by rw[h]; rfl
 refine CallOK.ofB mixed tbOk Qhz Tryz.func88 rfl (by kernel_rfl) (Nat.le_of_ble_eq_true rfl) rfl rfl rfl ?_;refine⟨rfl,rfl,rfl,fun b hb=>?_⟩;cases b with
 | true =>
  refine bT ?_;obtain rfl:=List.map_eq_nil_iff.1 (hb rfl);have h:some ([]:List Qah)=some o:=h;refine Exists.intro _ (And.intro (Le.xnil (.s 2) 46 3 rfl) ?_);exact Qa6 (t:=Qcz) (ss:=fun o=>⟨[],[1]⟩) h ⟨[0],rfl,.refl _,.refl _,rfl⟩
 | false =>
  refine bF ?_;refine Q2w (a:=([]:List Qah)) (b:=p0) (c:=Qal) h (.refl _) (.refl _) (fun _=>rfl) (.inl rfl) (fun r hi h=>?_);refine Exists.intro _ (And.intro (Le.refl _ _ _) ?_);exact Qa6 (t:=Qcz) (ss:=fun o=>⟨[],[1]⟩) h ⟨[0],rfl,.refl _,.refl _,rfl⟩
instance Qzc:Lean.Order.CCPO ((List UInt8)→Bool→(List (Qaf×Int))→Option (((List UInt8)×Bool×(List (Qaf×Int)))⊕((List UInt8)×Bool×(List (Qaf×Int))))):=inferInstance
instance Qzd:Lean.Order.CCPO ((List Qab)→(List Qah)→Int→(List UInt8)→Bool→(List (Qaf×Int))→Option (((List UInt8)×Bool×(List (Qaf×Int)))⊕((List UInt8)×Bool×(List (Qaf×Int))))):=inferInstance
mutual
def Qbb (p1:(List UInt8)) (p2:(List Qab)) (p3:(List Qah)) (h0_0:(List Qae)) (h0_2:(List UInt8)) (h0_3:Bool) (h1_0:(List (Qaf×Int))):Option ((List UInt8)×Bool×(List (Qaf×Int))) :=
 (Qbc p1 p2 p3 h0_0 0 h0_2 h0_3 h1_0)>>=fun o1 =>
 match o1 with
 | .inl y2 =>
  some (y2.1,y2.2.1,y2.2.2)
 | .inr y3 =>
  some (y3.1,y3.2.1,y3.2.2)
 partial_fixpoint
def Qbc (p1:(List UInt8)) (p2:(List Qab)) (p3:(List Qah)) (h0_0:(List Qae)) (v14:Int) (h0_2_:(List UInt8)) (h0_3_:Bool) (h1_0_:(List (Qaf×Int))):Option (((List UInt8)×Bool×(List (Qaf×Int)))⊕((List UInt8)×Bool×(List (Qaf×Int)))) :=
 if(decide (v14<(p2.length:Int))) then
  idx p2 v14>>=fun x4 =>
  if h0_3_ then
   some (.inr (h0_2_,h0_3_,h1_0_))
  else
   if(x4.Kind==8) then
    Qbc p1 p2 p3 h0_0 (wr (v14+1)) h0_2_ h0_3_ h1_0_
   else
    idx x4.L 0>>=fun x5 =>
    Qdc x5 p3>>=fun x6 =>
    Qbn p3>>=fun x7 =>
    ( if(x4.Kind==9) then
      if x6 then
       Qh3>>=fun x12 =>
       some (.inl x7)
      else
       some (.inl x7)
     else
      ( if(x4.Kind==10) then
        some (x4.Kind==10)
       else
        some (x4.Kind==11):Option (Bool))>>=fun o13 =>
      if o13 then
       if x6 then
        some (.inr (.inr ()))
       else
        if(x4.Kind==11) then
         appL 32 x7 [(Qah.mk x4.Name 0 false)]>>=fun x14 =>
         some (.inl x14)
        else
         some (.inl x7)
      else
       if(x4.Kind==12) then
        appL 32 x7 [(Qah.mk x4.Name 0 x6)]>>=fun x15 =>
        some (.inl x15)
       else
        if(x4.Kind==13) then
         Qed (Qaf.mk x4.Name x6) h0_0 h0_2_ h0_3_ h1_0_>>=fun x16 =>
         some (.inr (.inl (x16.1,x16.2.1,x16.2.2)))
        else
         some (.inl x7):Option ((List Qah)⊕((List UInt8)×Bool×(List (Qaf×Int)))⊕Unit))>>=fun o8 =>
    match o8 with
    | .inl y9 =>
     Qbb p1 x4.Then y9 h0_0 h0_2_ h0_3_ h1_0_>>=fun x17 =>
     Qbb p1 x4.Else p3 h0_0 x17.1 x17.2.1 x17.2.2>>=fun x18 =>
     Qbc p1 p2 p3 h0_0 (wr (v14+1)) x18.1 x18.2.1 x18.2.2
    | .inr (.inl y10) =>
     Qbc p1 p2 p3 h0_0 (wr (v14+1)) y10.1 y10.2.1 y10.2.2
    | .inr (.inr y11) =>
     some (.inr (p1,true,h1_0_))
 else
  some (.inl (h0_2_,h0_3_,h1_0_))
 partial_fixpoint
def Qed (p1:Qaf) (h0_0:(List Qae)) (h0_2:(List UInt8)) (h0_3:Bool) (h1_0:(List (Qaf×Int))):Option ((List UInt8)×Bool×(List (Qaf×Int))) :=
 if(decide (((mget (fun(a b:Qaf)=>(a.name_==b.name_&&(a.it_==b.it_&&true))) p1 h1_0).getD 0)>0)) then
  some (h0_2,h0_3,h1_0)
 else
  Qgb h0_0 p1.name_>>=fun x1 =>
  Qbb p1.name_ x1.1 ([(Qah.mk [103,114,111,117,112] 0 false),(Qah.mk [105,116] 0 p1.it_)]) h0_0 h0_2 h0_3 (mset (fun(a b:Qaf)=>(a.name_==b.name_&&(a.it_==b.it_&&true))) p1 1 h1_0)>>=fun x2 =>
  some (x2.1,x2.2.1,x2.2.2)
 partial_fixpoint
end
theorem Qns:∀ (h0_0:(List Qae)),(∀ (p1:(List UInt8)) (p2:(List Qab)) (p3:(List Qah)) (h0_2:(List UInt8)) (h0_3:Bool) (h1_0:(List (Qaf×Int))) (o:(List UInt8)×Bool×(List (Qaf×Int))),Qbb p1 p2 p3 h0_0 h0_2 h0_3 h1_0=some o→CallOK Tryz.prog 85 [.ptr 0 0,.p (sV p1),.p (.sl false (p2.map Qaa)),.p (.sl false (p3.map Qal))] ⟨[[.p (.sl false (h0_0.map Qaj)),.mh 1,.p (sV h0_2),.p (bV h0_3),.fn (.func 62) [] []],[mpD (fun x =>.agg (Qan x)) iV h1_0]],[]⟩ (Qd7 o) ⟨[[.p (.sl false (h0_0.map Qaj)),.mh 1,.p (sV o.1),.p (bV o.2.1),.fn (.func 62) [] []],[mpD (fun x =>.agg (Qan x)) iV o.2.2]],[]⟩)∧(∀ (p1:(List UInt8)) (p2:(List Qab)) (p3:(List Qah)) (v14:Int) (h0_2_:(List UInt8)) (h0_3_:Bool) (h1_0_:(List (Qaf×Int))) (o1:((List UInt8)×Bool×(List (Qaf×Int)))⊕((List UInt8)×Bool×(List (Qaf×Int)))),Qbc p1 p2 p3 h0_0 v14 h0_2_ h0_3_ h1_0_=some o1→TL (2,0) Tryz.prog 93 Qmz (JP2 (2,0) 93 o1 (.exit 0) (Qgh p1 p2 p3 h0_0) .ret (Qgi p1 p2 p3 h0_0)) (Qb8 p1 p2 p3 h0_0 v14 h0_2_ h0_3_ h1_0_))∧(∀ (p1:Qaf) (h0_2:(List UInt8)) (h0_3:Bool) (h1_0:(List (Qaf×Int))) (o:(List UInt8)×Bool×(List (Qaf×Int))),Qed p1 h0_0 h0_2 h0_3 h1_0=some o→CallOK Tryz.prog 117 [.ptr 0 0,.p (.agg [sV p1.name_,bV p1.it_])] ⟨[[.p (.sl false (h0_0.map Qaj)),.mh 1,.p (sV h0_2),.p (bV h0_3),.fn (.func 62) [] []],[mpD (fun x =>.agg (Qan x)) iV h1_0]],[]⟩ (Qgk o) ⟨[[.p (.sl false (h0_0.map Qaj)),.mh 1,.p (sV o.1),.p (bV o.2.1),.fn (.func 62) [] []],[mpD (fun x =>.agg (Qan x)) iV o.2.2]],[]⟩):=by
 intro h0_0;refine Qbb.mutual_partial_correctness h0_0 _ _ _ ?_ ?_ ?_
 ·intro Qbc' iQbc p1 p2 p3 h0_2 h0_3 h1_0 o h;refine CallOK.ofB mixed tbOk Qhy Tryz.func85 rfl (by kernel_rfl) (Nat.le_of_ble_eq_true rfl) rfl rfl rfl ?_;refine view (Qdn _ _) rfl ?_;refine Qam h (fun o1 ho hk=>?_);refine Exists.intro (JP2 _ _ o1 (.exit 0) (Qgh p1 p2 p3 h0_0) .ret (Qgi p1 p2 p3 h0_0)) (And.intro (Qkn (τ := Qb8 p1 p2 p3 h0_0 0 h0_2 h0_3 h1_0) ?_ (TL.loop (iQbc p1 p2 p3 0 h0_2 h0_3 h1_0 o1 ho))) (Qin (fun y2 hy=>?_) (fun y3 hy=>?_)))
  ·exact Le.tz 2 0 rfl rfl rfl
  ·have h:=(by rw[hy] at hk; exact hk);refine Exists.intro _ (And.intro (Le.refl _ _ _) ?_);refine Qa6 (t:=Qd7) (ss:=fun o=>⟨[[.p (.sl false (h0_0.map Qaj)),.mh 1,.p (sV o.1),.p (bV o.2.1),.fn (.func 62) [] []],[mpD (fun x =>.agg (Qan x)) iV o.2.2]],[]⟩) h ?_;exact⟨[],rfl,.refl _,.refl _,rfl⟩
  ·have h:=(by rw[hy] at hk; exact hk);refine Exists.intro _ (And.intro (Le.refl _ _ _) ?_);refine Qa6 (t:=Qd7) (ss:=fun o=>⟨[[.p (.sl false (h0_0.map Qaj)),.mh 1,.p (sV o.1),.p (bV o.2.1),.fn (.func 62) [] []],[mpD (fun x =>.agg (Qan x)) iV o.2.2]],[]⟩) h ?_;exact⟨[],rfl,.refl _,.refl _,rfl⟩
 ·intro Qbb' Qbc' Qed' iQbb iQbc iQed p1 p2 p3 v14 h0_2_ h0_3_ h1_0_ o1 h;refine TL.round (Qas mixed tbOk (lv:=Qhy) _ _ _ ?_);refine Qad h (fun hb h=>?_) (fun hb h=>?_)
  ·refine Qbu (l:=p2) (c:=Qaa) (c' := Qa5) h Qap (fun _=>rfl) (by decide) (fun x4 hi h=>?_);refine Qad h (fun hb h=>?_) (fun hb h=>?_)
   ·exact JP2.b h (Le.trans (τ := ⟨[],⟨[[.p (.sl false (h0_0.map Qaj)),.mh 1,.p (sV h0_2_),.p (bV h0_3_),.fn (.func 62) [] []],[mpD (fun x =>.agg (Qan x)) iV h1_0_],[.p (iV x4.Kind),.p (sV x4.Name),.p (sV x4.Text),.p (iV x4.N),.p (.sl false (x4.L.map Qaa)),.p (.sl false (x4.Then.map Qaa)),.p (.sl false (x4.Else.map Qaa))]],[]⟩⟩) (Le.weak (.nil) (.refl _) rfl) (Le.tz 2 0 rfl rfl rfl))
   ·refine Qad h (fun hb h=>?_) (fun hb h=>?_)
    ·refine TL.le (τ := Qb8 p1 p2 p3 h0_0 (wr (v14+1)) h0_2_ h0_3_ h1_0_) ?_ ((iQbc p1 p2 p3 (wr (v14+1)) h0_2_ h0_3_ h1_0_ _ h));exact Le.tz 2 0 rfl rfl rfl
    ·refine Qbu (l:=x4.L) (c:=Qaa) (c' := Qa5) h Qap (fun _=>rfl) (by decide) (fun x5 hi h=>?_);refine Qat [.agg [iV x5.Kind,sV x5.Name,sV x5.Text,iV x5.N,.sl false (x5.L.map Qaa),.sl false (x5.Then.map Qaa),.sl false (x5.Else.map Qaa)],.sl false (p3.map Qal)] Qb4 h (fun x6 hy=>(Qh4 x5 p3 x6 hy)) (fun x6 hy h=>?_);refine Qao _ _ h (fun x7 hy=>((Qec p3 x7 hy).fr [] [] rfl rfl rfl)) (fun x7 hy h=>?_);refine Qam h (fun o8 ho hk=>?_);refine Exists.intro (JP3 _ _ o8 .normal (Qmv p1 p2 p3 h0_0 v14 h0_2_ h0_3_ h1_0_ x4) (.exit 1) (Qmw p1 p2 p3 h0_0 v14 h0_2_ h0_3_ h1_0_ x4) .ret (Qmx p1 p2 p3 h0_0 v14 h0_2_ h0_3_ h1_0_ x4)) (And.intro ?_ (Qai2 (fun y9 hy=>?_) (fun y10 hy=>?_) (fun y11 hy=>?_)))
     ·have h:=ho;refine Qad h (fun hb h=>?_) (fun hb h=>?_)
      ·refine Qad h (fun hb h=>?_) (fun hb h=>?_)
       ·refine Qat [] Qi3 h (fun x12 hy=>(Que x12 hy)) (fun x12 hy h=>?_);refine JP3.a h ?_;exact Le.tz 3 1 rfl rfl rfl
       ·refine JP3.a h ?_;exact Le.tz 3 1 rfl rfl rfl
      ·refine Qam h (fun o13 ho hk=>?_);refine Exists.intro (JP1 _ _ o13 .normal (Qmy p1 p2 p3 h0_0 v14 h0_2_ h0_3_ h1_0_ x4 x6 x7)) (And.intro ?_ (Qbe ?_))
       ·have h:=ho;refine Qad h (fun hb h=>?_) (fun hb h=>?_)
        ·refine JP1.a h ?_;exact Le.tz 3 1 rfl rfl rfl
        ·refine JP1.a h ?_;exact Le.tz 3 1 rfl rfl rfl
       ·have h:=hk;refine Qad h (fun hb h=>?_) (fun hb h=>?_)
        ·refine Qad h (fun hb h=>?_) (fun hb h=>?_)
         ·refine JP3.c h ?_;exact Le.tz 3 1 rfl rfl rfl
         ·refine Qad h (fun hb h=>?_) (fun hb h=>?_)
          ·refine Qsk (a:=x7) (b:=[(Qah.mk x4.Name 0 false)]) (c:=Qal) h (.refl _) (fun _=>rfl) rfl (fun x14 hi h=>?_);refine JP3.a h ?_;exact Le.trans (τ := ⟨[(0,.ptr 0 0),(1,.p (sV p1)),(3,.p (.sl false (p3.map Qal))),(9,.ptr 2 0),(11,.x 0 2 (.sl 46 3 (x14.map Qal))),(12,.p (.sl false (p2.map Qaa))),(13,.p (iV (p2.length:Int))),(14,.p (iV v14))],⟨[[.p (.sl false (h0_0.map Qaj)),.mh 1,.p (sV h0_2_),.p (bV h0_3_),.fn (.func 62) [] []],[mpD (fun x =>.agg (Qan x)) iV h1_0_],[.p (iV x4.Kind),.p (sV x4.Name),.p (sV x4.Text),.p (iV x4.N),.p (.sl false (x4.L.map Qaa)),.p (.sl false (x4.Then.map Qaa)),.p (.sl false (x4.Else.map Qaa))]],[2]⟩⟩) (Le.tz 3 1 rfl rfl rfl) ((Le.ver (.s 11) 0 2 1 rfl rfl rfl rfl).trans (Le.tz 3 1 rfl rfl rfl))
          ·refine JP3.a h ?_;exact Le.tz 3 1 rfl rfl rfl
        ·refine Qad h (fun hb h=>?_) (fun hb h=>?_)
         ·refine Qsk (a:=x7) (b:=[(Qah.mk x4.Name 0 x6)]) (c:=Qal) h (.refl _) (fun _=>rfl) rfl (fun x15 hi h=>?_);refine JP3.a h ?_;exact Le.trans (τ := ⟨[(0,.ptr 0 0),(1,.p (sV p1)),(3,.p (.sl false (p3.map Qal))),(9,.ptr 2 0),(11,.x 0 2 (.sl 46 3 (x15.map Qal))),(12,.p (.sl false (p2.map Qaa))),(13,.p (iV (p2.length:Int))),(14,.p (iV v14))],⟨[[.p (.sl false (h0_0.map Qaj)),.mh 1,.p (sV h0_2_),.p (bV h0_3_),.fn (.func 62) [] []],[mpD (fun x =>.agg (Qan x)) iV h1_0_],[.p (iV x4.Kind),.p (sV x4.Name),.p (sV x4.Text),.p (iV x4.N),.p (.sl false (x4.L.map Qaa)),.p (.sl false (x4.Then.map Qaa)),.p (.sl false (x4.Else.map Qaa))]],[2]⟩⟩) (Le.tz 3 1 rfl rfl rfl) ((Le.ver (.s 11) 0 2 1 rfl rfl rfl rfl).trans (Le.tz 3 1 rfl rfl rfl))
         ·refine Qad h (fun hb h=>?_) (fun hb h=>?_)
          ·refine Qao _ _ h (fun x16 hy=>((iQed (Qaf.mk x4.Name x6) h0_2_ h0_3_ h1_0_ x16 hy).fr [0,1] [] rfl rfl rfl)) (fun x16 hy h=>?_);refine JP3.b h ?_;exact Le.tz 3 1 rfl rfl rfl
          ·refine JP3.a h ?_;exact Le.tz 3 1 rfl rfl rfl
     ·have h:=(by rw[hy] at hk; exact hk);refine Exists.intro _ (And.intro (Le.frzv (.s 11) 0 1 rfl rfl rfl rfl) ?_);refine Qao _ _ h (fun x17 hy=>((iQbb p1 x4.Then y9 h0_2_ h0_3_ h1_0_ x17 hy).fr [0,1] [] rfl rfl rfl)) (fun x17 hy h=>?_);refine Qao _ _ h (fun x18 hy=>((iQbb p1 x4.Else p3 x17.1 x17.2.1 x17.2.2 x18 hy).fr [0,1] [] rfl rfl rfl)) (fun x18 hy h=>?_);refine TL.le (τ := Qb8 p1 p2 p3 h0_0 (wr (v14+1)) x18.1 x18.2.1 x18.2.2) ?_ ((iQbc p1 p2 p3 (wr (v14+1)) x18.1 x18.2.1 x18.2.2 _ h));exact Le.tz 2 0 rfl rfl rfl
     ·have h:=(by rw[hy] at hk; exact hk);refine TL.le (τ := Qb8 p1 p2 p3 h0_0 (wr (v14+1)) y10.1 y10.2.1 y10.2.2) ?_ ((iQbc p1 p2 p3 (wr (v14+1)) y10.1 y10.2.1 y10.2.2 _ h));exact Le.tz 2 0 rfl rfl rfl
     ·have h:=(by rw[hy] at hk; exact hk);exact JP2.b h (Le.tz 2 0 rfl rfl rfl)
  ·exact JP2.a h (Le.tz 2 0 rfl rfl rfl)
 ·intro Qbb' iQbb p1 h0_2 h0_3 h1_0 o h;refine CallOK.ofB mixed tbOk Qqs Tryz.func117 rfl (by kernel_rfl) (Nat.le_of_ble_eq_true rfl) rfl rfl rfl ?_;refine And.intro (by decide +kernel) (And.intro rfl ?_);refine And.intro rfl ?_;refine Qpx (l:=h1_0) (k:=p1) (fun(a b:Qaf)=>(a.name_==b.name_&&(a.it_==b.it_&&true))) (ck:=(fun x =>.agg (Qan x))) (ca:=iV) (z0:=0) (by exact rfl) (by exact rfl) (by exact rfl) (by exact fun _ _=>rfl) (by exact rfl) (by exact .refl _) ?_;refine Qad h (fun hb h=>?_) (fun hb h=>?_)
  ·refine Exists.intro _ (And.intro (Le.refl _ _ _) ?_);refine Qa6 (t:=Qgk) (ss:=fun o=>⟨[[.p (.sl false (h0_0.map Qaj)),.mh 1,.p (sV o.1),.p (bV o.2.1),.fn (.func 62) [] []],[mpD (fun x =>.agg (Qan x)) iV o.2.2]],[]⟩) h ?_;exact⟨[],rfl,.refl _,.refl _,rfl⟩
  ·refine And.intro (by decide +kernel) (And.intro (by decide +kernel) (And.intro rfl ?_));refine Q6h (l:=h1_0) (k:=p1) (x:=1) (fun(a b:Qaf)=>(a.name_==b.name_&&(a.it_==b.it_&&true))) (ck:=(fun x =>.agg (Qan x))) (ca:=iV) (by exact rfl) (by exact rfl) (by exact rfl) (by exact .refl _) (by exact fun _ _=>rfl) ?_;refine And.intro (by decide +kernel) (And.intro rfl ?_);refine Qd4 [.sl false (h0_0.map Qaj),sV p1.name_] Qes h (fun x1 hy=>(Qhs h0_0 p1.name_ x1 hy)) (fun x1 hy h=>?_);refine Qao _ _ h (fun x2 hy=>((iQbb p1.name_ x1.1 ([(Qah.mk [103,114,111,117,112] 0 false),(Qah.mk [105,116] 0 p1.it_)]) h0_2 h0_3 (mset (fun(a b:Qaf)=>(a.name_==b.name_&&(a.it_==b.it_&&true))) p1 1 h1_0) x2 hy).fr [0,1] [] rfl rfl rfl).weakC (.cons (.refl _) (.cons (.refl _) (.cons (.refl _) (.cons (.p (.not)) (.nil)))))) (fun x2 hy h=>?_);refine Exists.intro _ (And.intro (Le.refl _ _ _) ?_);refine Qa6 (t:=Qgk) (ss:=fun o=>⟨[[.p (.sl false (h0_0.map Qaj)),.mh 1,.p (sV o.1),.p (bV o.2.1),.fn (.func 62) [] []],[mpD (fun x =>.agg (Qan x)) iV o.2.2]],[]⟩) h ?_;exact⟨[],rfl,.refl _,.refl _,rfl⟩
theorem Qom:∀ (p1:(List UInt8)) (p2:(List Qab)) (p3:(List Qah)) (h0_0:(List Qae)) (h0_2:(List UInt8)) (h0_3:Bool) (h1_0:(List (Qaf×Int))) (o:(List UInt8)×Bool×(List (Qaf×Int))),Qbb p1 p2 p3 h0_0 h0_2 h0_3 h1_0=some o→CallOK Tryz.prog 85 [.ptr 0 0,.p (sV p1),.p (.sl false (p2.map Qaa)),.p (.sl false (p3.map Qal))] ⟨[[.p (.sl false (h0_0.map Qaj)),.mh 1,.p (sV h0_2),.p (bV h0_3),.fn (.func 62) [] []],[mpD (fun x =>.agg (Qan x)) iV h1_0]],[]⟩ (Qd7 o) ⟨[[.p (.sl false (h0_0.map Qaj)),.mh 1,.p (sV o.1),.p (bV o.2.1),.fn (.func 62) [] []],[mpD (fun x =>.agg (Qan x)) iV o.2.2]],[]⟩:=fun p1 p2 p3 h0_0 h0_2 h0_3 h1_0=>(Qns h0_0).1 p1 p2 p3 h0_2 h0_3 h1_0
def Qcr (p0:(List Qae)) (p1:(List UInt8)):Option ((List UInt8)×Int) :=
 Qi0 p0>>=fun x1 =>
 if(x1.2 != 0) then
  some (x1.1,x1.2)
 else
  Qgb p0 p1>>=fun x2 =>
  if(!x2.2) then
   some ([],4)
  else
   Qbb p1 x2.1 ([(Qah.mk [103,114,111,117,112] 0 false)]) p0 [] false []>>=fun x3 =>
   if x3.2.1 then
    some (x3.1,205)
   else
    some ([],0)
end Go.Proofs.YtfgegilhjlnohaaGreat
end
