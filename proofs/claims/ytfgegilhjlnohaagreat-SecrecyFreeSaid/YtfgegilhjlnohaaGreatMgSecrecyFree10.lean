/- The proof's texts, part 10 of 13: the walks by a logic in which data are by value, the plain laws, and at the end the law, for every input. -/
import Derived.Test.YtfgegilhjlnohaaGreatMgSecrecyFree9

noncomputable section
set_option linter.unusedVariables false
set_option linter.unusedSimpArgs false
set_option maxRecDepth 100000
set_option maxHeartbeats 4000000
namespace Go.Proofs.YtfgegilhjlnohaaGreat
open Go.RowKit
structure Qal where
 Name:(List UInt8)
 K:Int
 Secret:Bool
def Qau (x:Qal):List V:=[sV x.Name,iV x.K,bV x.Secret]
structure Qch where
 Where:(List UInt8)
 Bad:Bool
 Tells:Bool
structure Qag where
 name_:(List UInt8)
 it_:Bool
def Qao (x:Qag):List V:=[sV x.name_,bV x.it_]
structure Qai where
 Kind:Int
 Text:(List UInt8)
 N:Int
 From:Int
 To:Int
def Qah (x:Qai):List V:=[iV x.Kind,sV x.Text,iV x.N,iV x.From,iV x.To]
def Qy5 (y:Int×Bool):D :=.tup [.p (iV y.1),.p (bV y.2)]
def Qlk (y:(List Qai)×Int×Int):D :=.tup [.p (.sl false (y.1.map Qah)),.p (iV y.2.1),.p (iV y.2.2)]
def Qqo:List (Nat×List Nat):=[(0,[0]),(1,[0,12]),(2,[2,3,4]),(3,[0,5]),(4,[0,5,6]),(5,[0,5,6,17]),(6,[0,5,6,7]),(7,[0,5,6,7,23]),(8,[0,5,7]),(9,[0,5,7,37]),(10,[2,3,4]),(11,[0,5,7]),(12,[0,5,6]),(13,[0,5,6,52]),(14,[0,5,6]),(15,[0,5,6]),(16,[0,5,6,62]),(17,[2,3,4]),(18,[0,5,6,8,9]),(19,[0,5,6,8,71]),(20,[2,3,4]),(21,[0,5,8]),(22,[0,5,6,8]),(23,[0,5,6,81]),(24,[2,3,4]),(1000005,[0,5,6]),(1000015,[0,5,6]),(2007005,[]),(2013005,[])]
def Q18 (p0:(List UInt8)) (x4:Int) (o5:(List Qai)):St:=⟨[(0,.p (sV p0)),(5,.own 0 147 5 (o5.map Qah)),(7,.p (iV x4))],⟨[],[(o5.map Qah).length]⟩⟩
def Q19 (p0:(List UInt8)) (x8:(List Qai)) (o10:Int):St:=⟨[(0,.p (sV p0)),(5,.own 0 147 5 (x8.map Qah)),(6,.p (iV o10))],⟨[],[(x8.map Qah).length]⟩⟩
def Ql5 (p0:(List UInt8)) (v5_:(List Qai)) (v6_:Int):St:=⟨[(0,.p (sV p0)),(5,.own 0 147 5 (v5_.map Qah)),(6,.p (iV v6_))],⟨[],[(v5_.map Qah).length]⟩⟩
def Qrc (p0:(List UInt8)) (y14:(List Qai)×Int):St:=⟨[(0,.p (sV p0)),(5,.own 0 147 5 (y14.1.map Qah)),(6,.p (iV y14.2))],⟨[],[(y14.1.map Qah).length]⟩⟩
def Qrd (p0:(List UInt8)) (y15:Int):St:=⟨[(2,.p (.sl true [])),(3,.p (iV y15)),(4,.p (iV 7))],⟨[],[]⟩⟩
def Q2a:Code:=((Qaz (Tryz.f115.body.getD .skip)).getD 1 .skip)
def Ql6 (p0:(List UInt8)) (v5:(List Qai)) (v6:Int):St:=⟨[(0,.p (sV p0)),(5,.own 0 147 5 (v5.map Qah)),(6,.p (iV v6))],⟨[],[(v5.map Qah).length]⟩⟩
def Qre (p0:(List UInt8)) (y2:(List Qai)):St:=⟨[(5,.own 0 147 5 (y2.map Qah))],⟨[],[(y2.map Qah).length]⟩⟩
def Qrf (p0:(List UInt8)) (y3:(List Qai)×Int×Int):St:=⟨[(2,.p (.sl false (y3.1.map Qah))),(3,.p (iV y3.2.1)),(4,.p (iV y3.2.2))],⟨[],[]⟩⟩
def Q2b:Code:=((Qaz (Tryz.f115.body.getD .skip)).getD 0 .skip)
def Qv1 (y:Bool):D :=.p (bV y)
def Qabt:List (Nat×List Nat):=[(0,[0]),(1,[2]),(3000001,[])]
def Q4d  (o1:Bool):St:=⟨[(2,.p (bV o1))],⟨[],[]⟩⟩
def Qn9 (y:Int):D :=.p (iV y)
def Qw2:List (Nat×List Nat):=[(0,[0,1]),(1,[0,1,14]),(2,[0,1]),(3,[4]),(1000001,[0,1]),(3000001,[])]
def Q2c (p0:(List UInt8)) (v1:Int) (o2:Bool):St:=⟨[(0,.p (sV p0)),(1,.p (iV v1)),(14,.p (bV o2))],⟨[],[]⟩⟩
def Ql7 (p0:(List UInt8)) (v1:Int):St:=⟨[(0,.p (sV p0)),(1,.p (iV v1))],⟨[],[]⟩⟩
def Qrg (p0:(List UInt8)) (o1:Int):St:=⟨[(1,.p (iV o1))],⟨[],[]⟩⟩
def Q2d:Code:=((Qaz (Tryz.f140.body.getD .skip)).getD 0 .skip)
def Qt6 (y:Int):D :=.p (iV y)
def Q2e:List (Nat×List Nat):=[(0,[0,1,2]),(1,[0,1,2,17]),(2,[0,1,2]),(3,[6]),(1000001,[0,1,2]),(3000001,[])]
def Q8i (p0:(List UInt8)) (p1:(List UInt8)) (v2:Int) (o2:Bool):St:=⟨[(0,.p (sV p0)),(1,.p (sV p1)),(2,.p (iV v2)),(17,.p (bV o2))],⟨[],[]⟩⟩
def Qoz (p0:(List UInt8)) (p1:(List UInt8)) (v2:Int):St:=⟨[(0,.p (sV p0)),(1,.p (sV p1)),(2,.p (iV v2))],⟨[],[]⟩⟩
def Qvg (p0:(List UInt8)) (p1:(List UInt8)) (o1:Int):St:=⟨[(2,.p (iV o1))],⟨[],[]⟩⟩
def Q8j:Code:=((Qaz (Tryz.f139.body.getD .skip)).getD 0 .skip)
def Qll (y:Qai×Bool):D :=.tup [.p (.agg [iV y.1.Kind,sV y.1.Text,iV y.1.N,iV y.1.From,iV y.1.To]),.p (bV y.2)]
def Qt7:List (Nat×List Nat):=[(0,[0,1,4]),(1,[0,1,4,6]),(2,[0,1,4,6,7]),(3,[0,1,4,6,7,24]),(4,[1,4,6]),(5,[4,6]),(6,[4,5]),(7,[0,1,4,6,7,8]),(8,[0,1,4,6,7,8,9]),(9,[0,1,4,6,7,8,9,33]),(10,[0,1,4,6,7,8,9]),(11,[0,1,4,6,7,8,9,40]),(12,[4,6]),(13,[4,5]),(14,[0,1,4,6,7,48]),(15,[1,4,10,11]),(16,[4,5]),(17,[0,1,4,6,7,12]),(18,[0,1,4,6,7,12,64]),(19,[0,1,4,12,86]),(20,[0,1,4,12]),(21,[4,5]),(22,[0,1,4,6,12,106]),(23,[0,1,4,12,116]),(24,[0,1,4,12]),(25,[1,4,12,13,14]),(26,[4,5]),(27,[4,5]),(1000009,[0,1,4,6,7,8,9]),(1000019,[0,1,4,12]),(1000023,[0,1,4,12]),(3000019,[]),(3000022,[]),(3000023,[])]
def Qqp (p0:(List UInt8)) (p1:Int) (x1:UInt8) (v9:Int):St:=⟨[(0,.p (sV p0)),(1,.p (iV p1)),(4,.ptr 0 0),(6,.ptr 1 0),(7,.p (nV .u8 (x1.toNat:Int))),(8,.p (sV [46,40,41,44,61])),(9,.p (iV v9))],⟨[[.p (iV 0),.p (sV []),.p (iV 0),.p (iV 0),.p (iV 0)],[.p (iV 0),.p (sV []),.p (iV 0),.p (iV p1),.p (iV (wr (p1+1)))]],[]⟩⟩
def Qw3 (p0:(List UInt8)) (p1:Int) (x1:UInt8) (y4:Unit):St:=⟨[(0,.p (sV p0)),(1,.p (iV p1)),(4,.ptr 0 0),(6,.ptr 1 0),(7,.p (nV .u8 (x1.toNat:Int)))],⟨[[.p (iV 0),.p (sV []),.p (iV 0),.p (iV 0),.p (iV 0)],[.p (iV 0),.p (sV []),.p (iV 0),.p (iV p1),.p (iV (wr (p1+1)))]],[]⟩⟩
def Qw4 (p0:(List UInt8)) (p1:Int) (x1:UInt8) (y5:Int×Int):St:=⟨[(4,.ptr 0 0),(5,.p (bV true))],⟨[[.p (iV y5.1),.p (sV []),.p (iV 0),.p (iV p1),.p (iV (wr (p1+1)))],[.p (iV y5.2),.p (sV []),.p (iV 0),.p (iV p1),.p (iV (wr (p1+1)))]],[]⟩⟩
def Qabu:Code:=((Qaz (Tryz.f142.body.getD .skip)).getD 0 .skip)
def Qabv (p0:(List UInt8)) (p1:Int) (v12:Int) (o11:Bool):St:=⟨[(0,.p (sV p0)),(1,.p (iV p1)),(4,.ptr 0 0),(12,.p (iV v12)),(86,.p (bV o11))],⟨[[.p (iV 0),.p (sV []),.p (iV 0),.p (iV 0),.p (iV 0)],[.p (iV 0),.p (sV []),.p (iV 0),.p (iV p1),.p (iV (wr (p1+1)))]],[]⟩⟩
def Qqq (p0:(List UInt8)) (p1:Int) (v12:Int):St:=⟨[(0,.p (sV p0)),(1,.p (iV p1)),(4,.ptr 0 0),(12,.p (iV v12))],⟨[[.p (iV 0),.p (sV []),.p (iV 0),.p (iV 0),.p (iV 0)],[.p (iV 0),.p (sV []),.p (iV 0),.p (iV p1),.p (iV (wr (p1+1)))]],[]⟩⟩
def Qw5 (p0:(List UInt8)) (p1:Int) (o10:Int):St:=⟨[(0,.p (sV p0)),(1,.p (iV p1)),(4,.ptr 0 0),(12,.p (iV o10))],⟨[[.p (iV 0),.p (sV []),.p (iV 0),.p (iV 0),.p (iV 0)],[.p (iV 0),.p (sV []),.p (iV 0),.p (iV p1),.p (iV (wr (p1+1)))]],[]⟩⟩
def Qabw:Code:=((Qaz (Tryz.f142.body.getD .skip)).getD 1 .skip)
def Qabx (p0:(List UInt8)) (p1:Int) (o20:Bool):St:=⟨[(0,.p (sV p0)),(1,.p (iV p1)),(4,.ptr 0 0),(6,.ptr 1 0),(12,.p (iV (wr (p1+1)))),(106,.p (bV o20))],⟨[[.p (iV 0),.p (sV []),.p (iV 0),.p (iV 0),.p (iV 0)],[.p (iV 0),.p (sV []),.p (iV 0),.p (iV p1),.p (iV (wr (p1+1)))]],[]⟩⟩
def Qaby (p0:(List UInt8)) (p1:Int) (v12:Int) (o23:Bool):St:=⟨[(0,.p (sV p0)),(1,.p (iV p1)),(4,.ptr 0 0),(12,.p (iV v12)),(116,.p (bV o23))],⟨[[.p (iV 0),.p (sV []),.p (iV 0),.p (iV 0),.p (iV 0)],[.p (iV 0),.p (sV []),.p (iV 0),.p (iV p1),.p (iV (wr (p1+1)))]],[]⟩⟩
def Qqr (p0:(List UInt8)) (p1:Int) (v12:Int):St:=⟨[(0,.p (sV p0)),(1,.p (iV p1)),(4,.ptr 0 0),(12,.p (iV v12))],⟨[[.p (iV 0),.p (sV []),.p (iV 0),.p (iV 0),.p (iV 0)],[.p (iV 0),.p (sV []),.p (iV 0),.p (iV p1),.p (iV (wr (p1+1)))]],[]⟩⟩
def Qw6 (p0:(List UInt8)) (p1:Int) (o22:Int):St:=⟨[(0,.p (sV p0)),(1,.p (iV p1)),(4,.ptr 0 0),(12,.p (iV o22))],⟨[[.p (iV 0),.p (sV []),.p (iV 0),.p (iV 0),.p (iV 0)],[.p (iV 0),.p (sV []),.p (iV 0),.p (iV p1),.p (iV (wr (p1+1)))]],[]⟩⟩
def Qabz:Code:=((Qaz (Tryz.f142.body.getD .skip)).getD 2 .skip)
def Qoa (y:(List UInt8)×Int):D :=.tup [.p (sV y.1),.p (iV y.2)]
def Qw7:List (Nat×List Nat):=[(0,[0,1]),(1,[0,1,6]),(2,[0,1,6]),(3,[0,1,6,15]),(4,[0,1,6,19]),(5,[4,5]),(6,[0,1,6,26]),(7,[0,1,6,31]),(8,[4,5]),(9,[0,1,6,7]),(10,[0,1,6,7,37]),(11,[0,1,6]),(12,[0,1,6,7,41]),(13,[0,1,6]),(14,[0,1,6,49]),(15,[0,1,6]),(16,[4,5]),(17,[0,1,6]),(18,[0,1,6,8,9]),(19,[0,1,6,9,79]),(20,[4,5]),(21,[0,1,6,9]),(22,[0,1,6]),(23,[4,5]),(1000003,[0,1,6]),(3000009,[]),(3000014,[]),(3000019,[])]
def Q2f (p0:(List UInt8)) (v1:Int) (v6:(List UInt8)) (o6:Int):St:=⟨[(0,.p (sV p0)),(1,.p (iV v1)),(6,.p (sV v6)),(7,.p (nV .u8 o6))],⟨[],[]⟩⟩
def Q2g (p0:(List UInt8)) (v1:Int) (v6:(List UInt8)) (o8:Bool):St:=⟨[(0,.p (sV p0)),(1,.p (iV v1)),(6,.p (sV v6)),(49,.p (bV o8))],⟨[],[]⟩⟩
def Q2h (p0:(List UInt8)) (v1:Int) (v6:(List UInt8)) (x10:Int×Int) (o11:Bool):St:=⟨[(0,.p (sV p0)),(1,.p (iV v1)),(6,.p (sV v6)),(9,.p (iV x10.2)),(79,.p (bV o11))],⟨[],[]⟩⟩
def Qei (p0:(List UInt8)) (v1:Int) (v6:(List UInt8)):St:=⟨[(0,.p (sV p0)),(1,.p (iV v1)),(6,.p (sV v6))],⟨[],[]⟩⟩
def Qrh (p0:(List UInt8)) (y2:Unit):St:=⟨[],⟨[],[]⟩⟩
def Qri (p0:(List UInt8)) (y3:(List UInt8)×Int):St:=⟨[(4,.p (sV y3.1)),(5,.p (iV y3.2))],⟨[],[]⟩⟩
def Q2i:Code:=((Qaz (Tryz.f159.body.getD .skip)).getD 0 .skip)
def Qg3 (y:(List Qab)×Int×Int):D :=.tup [.p (.sl false (y.1.map Qaa)),.p (iV y.2.1),.p (iV y.2.2)]
def Qab0:List (Nat×List Nat):=[(0,[0]),(1,[0,5,6,7]),(2,[0,5,6,7,17]),(3,[2,3,4]),(4,[0,5,8]),(5,[0,5,8,9]),(6,[0,5,8,9,28]),(7,[0,5,8,35]),(8,[2,3,4]),(9,[2,3,4]),(10,[9,48]),(11,[2,3,4]),(12,[9,51]),(13,[2,3,4]),(14,[2,3,4])]
def Qob (y:Bool):D :=.p (bV y)
def Qv2:List (Nat×List Nat):=[(0,[0,1]),(1,[4]),(3000001,[])]
def Qtb (h0_0:(List Qai)) (h0_1:Int) (h0_2:Bool) (o1:Bool):St:=⟨[(4,.p (bV o1))],⟨[[.p (.sl false (h0_0.map Qah)),.p (iV h0_1),.p (bV h0_2)]],[]⟩⟩
def Qgf (y:(List Qab)×Int×Bool):D :=.p (.sl false (y.1.map Qaa))
def Qnm:List (Nat×List Nat):=[(0,[0,1,2]),(1,[0,1,2,7]),(2,[0,1,2,7,27]),(3,[0,1,2,7,29]),(4,[0,1,2,7,8]),(5,[0,1,2,7,8,9]),(6,[0,1,2,7,8,9,45]),(7,[0,1,2,7]),(8,[0,1,2,7]),(9,[0,1,2,7,73]),(10,[6]),(11,[0,1,2,7]),(12,[0,1,2,7,80]),(13,[0,1,2,7]),(14,[0,1,2,7]),(15,[6]),(1000002,[0,1,2,7]),(3000002,[]),(3000006,[]),(3000009,[]),(9000005,[1,0,0,0]),(9000006,[5,0,0,0,6,0,0,0,7,0,0,0]),(9000007,[4,0,0,0,5,0,0,0,6,0,0,0,9,0,0,0,10,0,0,0,11,1,7,0]),(9000008,[4,0,0,0]),(9000014,[4,0,0,0])]
def Qtc (p1:Bool) (p2:Bool) (h0_0:(List Qai)) (v7:(List Qab)) (h0_1_:Int) (h0_2_:Bool) (o4:Bool):St:=⟨[(0,.ptr 0 0),(1,.p (bV p1)),(2,.p (bV p2)),(7,.x 0 1 (.sl 38 7 (v7.map Qaa))),(27,.p (bV o4))],⟨[[.p (.sl false (h0_0.map Qah)),.p (iV h0_1_),.p (bV h0_2_)]],[1]⟩⟩
def Qtd (p1:Bool) (p2:Bool) (h0_0:(List Qai)) (v7:(List Qab)) (x6:Qai×Int×Bool) (o7:Bool):St:=⟨[(0,.ptr 0 0),(1,.p (bV p1)),(2,.p (bV p2)),(7,.x 0 1 (.sl 38 7 (v7.map Qaa))),(8,.p (sV x6.1.Text)),(9,.p (iV (wr ((v7.length:Int)-1)))),(45,.p (bV o7))],⟨[[.p (.sl false (h0_0.map Qah)),.p (iV x6.2.1),.p (bV x6.2.2)]],[1]⟩⟩
def Qte (p1:Bool) (p2:Bool) (h0_0:(List Qai)) (v7:(List Qab)) (h0_1_:Int) (h0_2_:Bool) (o12:Bool):St:=⟨[(0,.ptr 0 0),(1,.p (bV p1)),(2,.p (bV p2)),(7,.x 0 1 (.sl 38 7 (v7.map Qaa))),(73,.p (bV o12))],⟨[[.p (.sl false (h0_0.map Qah)),.p (iV h0_1_),.p (bV h0_2_)]],[1]⟩⟩
def Qcg (p1:Bool) (p2:Bool) (h0_0:(List Qai)) (v7:(List Qab)) (h0_1_:Int) (h0_2_:Bool):St:=⟨[(0,.ptr 0 0),(1,.p (bV p1)),(2,.p (bV p2)),(7,.x 0 1 (.sl 38 7 (v7.map Qaa)))],⟨[[.p (.sl false (h0_0.map Qah)),.p (iV h0_1_),.p (bV h0_2_)]],[1]⟩⟩
def Qj2 (p1:Bool) (p2:Bool) (h0_0:(List Qai)) (y2:(List Qab)×Int×Bool):St:=⟨[(7,.x 0 1 (.sl 38 7 (y2.1.map Qaa)))],⟨[[.p (.sl false (h0_0.map Qah)),.p (iV y2.2.1),.p (bV y2.2.2)]],[1]⟩⟩
def Qj3 (p1:Bool) (p2:Bool) (h0_0:(List Qai)) (y3:(List Qab)×Int×Bool):St:=⟨[(6,.x 0 1 (.sl 38 7 (y3.1.map Qaa)))],⟨[[.p (.sl false (h0_0.map Qah)),.p (iV y3.2.1),.p (bV y3.2.2)]],[1]⟩⟩
def Qtf:Code:=((Qaz (Tryz.f116.body.getD .skip)).getD 0 .skip)
def Qkn (y:Qab×Int×Bool):D :=.p (.agg [iV y.1.Kind,sV y.1.Name,sV y.1.Text,iV y.1.N,.sl false (y.1.L.map Qaa),.sl false (y.1.Then.map Qaa),.sl false (y.1.Else.map Qaa)])
def Qoc:List (Nat×List Nat):=[(0,[0,2]),(1,[0,2,3]),(2,[0,2,3,7]),(3,[0,2,3]),(4,[0,2,3]),(5,[2]),(1000002,[0,2,3]),(5000004,[3,1005,1008]),(8000004,[2])]
def Qg4 (h0_0:(List Qai)) (h0_1_:Int) (h0_2_:Bool) (h2_0:Int) (h2_1:(List UInt8)) (h2_2:(List UInt8)) (h2_3:Int) (h2_4:(List Qab)) (h2_5:(List Qab)) (h2_6:(List Qab)):St:=⟨[(0,.ptr 0 0),(2,.ptr 1 0),(3,.ptr 2 0)],⟨[[.p (.sl false (h0_0.map Qah)),.p (iV h0_1_),.p (bV h0_2_)],[.p (iV 0),.p (sV []),.p (sV []),.p (iV 0),.p (.sl true []),.p (.sl true []),.p (.sl true [])],[.p (iV h2_0),.p (sV h2_1),.p (sV h2_2),.p (iV h2_3),.p (.sl false (h2_4.map Qaa)),.p (.sl false (h2_5.map Qaa)),.p (.sl false (h2_6.map Qaa))]],[]⟩⟩
def Qlm (h0_0:(List Qai)) (o2:Int×Bool×Int×(List UInt8)×(List UInt8)×Int×(List Qab)×(List Qab)×(List Qab)):St:=⟨[(2,.ptr 1 0),(3,.ptr 2 0)],⟨[[.p (.sl false (h0_0.map Qah)),.p (iV o2.1),.p (bV o2.2.1)],[.p (iV 0),.p (sV []),.p (sV []),.p (iV 0),.p (.sl true []),.p (.sl true []),.p (.sl true [])],[.p (iV o2.2.2.1),.p (sV o2.2.2.2.1),.p (sV o2.2.2.2.2.1),.p (iV o2.2.2.2.2.2.1),.p (.sl false (o2.2.2.2.2.2.2.1.map Qaa)),.p (.sl false (o2.2.2.2.2.2.2.2.1.map Qaa)),.p (.sl false (o2.2.2.2.2.2.2.2.2.map Qaa))]],[]⟩⟩
def Qum:Code:=((Qaz (Tryz.f162.body.getD .skip)).getD 0 .skip)
def Qfo (y:Qab×Int×Bool):D :=.p (.agg [iV y.1.Kind,sV y.1.Name,sV y.1.Text,iV y.1.N,.sl false (y.1.L.map Qaa),.sl false (y.1.Then.map Qaa),.sl false (y.1.Else.map Qaa)])
def Qun:List (Nat×List Nat):=[(0,[0,2]),(1,[0,2,7]),(2,[0,2]),(3,[0,2,3]),(4,[0,2,3]),(5,[0,2,3]),(6,[0,2,3,20]),(7,[0,2,3]),(8,[0,2,3]),(9,[2,3]),(10,[2]),(11,[0,2,34]),(12,[0,2,4]),(13,[0,2,4,37]),(14,[0,2,4]),(15,[0,2,4]),(16,[0,2,4]),(17,[0,2,4,46]),(18,[0,2,4]),(19,[0,2,4]),(20,[0,2,4]),(21,[0,2,4]),(22,[0,2,4]),(23,[2,4]),(24,[2]),(25,[0,2,5]),(26,[0,2,5,69]),(27,[0,2,5]),(28,[0,2,5]),(29,[0,2,5]),(30,[0,2,5]),(31,[2,5]),(32,[2]),(2006007,[]),(2013005,[]),(2017005,[]),(2026009,[]),(3000011,[])]
def Qro (h0_0:(List Qai)) (x3:Qab×Int×Bool) (x5:(List Qab)×Int×Bool) (o6:Int×Bool×(List Qab)):St:=⟨[(0,.ptr 0 0),(2,.ptr 1 0),(3,.ptr 2 0)],⟨[[.p (.sl false (h0_0.map Qah)),.p (iV o6.1),.p (bV o6.2.1)],[.p (iV 0),.p (sV []),.p (sV []),.p (iV 0),.p (.sl true []),.p (.sl true []),.p (.sl true [])],[.p (iV 10),.p (sV []),.p (sV []),.p (iV 0),.p (.sl true ([x3.1].map Qaa)),.p (.sl false (x5.1.map Qaa)),.p (.sl false (o6.2.2.map Qaa))]],[]⟩⟩
def Qrp (h0_0:(List Qai)) (h0_1:Int) (h0_2:Bool) (o11:Bool):St:=⟨[(0,.ptr 0 0),(2,.ptr 1 0),(34,.p (bV o11))],⟨[[.p (.sl false (h0_0.map Qah)),.p (iV h0_1),.p (bV h0_2)],[.p (iV 0),.p (sV []),.p (sV []),.p (iV 0),.p (.sl true []),.p (.sl true []),.p (.sl true [])]],[]⟩⟩
def Qrq (h0_0:(List Qai)) (h0_1:Int) (h0_2:Bool) (o14:Int):St:=⟨[(0,.ptr 0 0),(2,.ptr 1 0),(4,.ptr 2 0)],⟨[[.p (.sl false (h0_0.map Qah)),.p (iV h0_1),.p (bV h0_2)],[.p (iV 0),.p (sV []),.p (sV []),.p (iV 0),.p (.sl true []),.p (.sl true []),.p (.sl true [])],[.p (iV o14),.p (sV []),.p (sV []),.p (iV 0),.p (.sl true []),.p (.sl true []),.p (.sl true [])]],[]⟩⟩
def Qrr (h0_0:(List Qai)) (o14:Int) (x17:(List UInt8)×Int×Bool) (o18:Int×Bool):St:=⟨[(0,.ptr 0 0),(2,.ptr 1 0),(4,.ptr 2 0)],⟨[[.p (.sl false (h0_0.map Qah)),.p (iV o18.1),.p (bV o18.2)],[.p (iV 0),.p (sV []),.p (sV []),.p (iV 0),.p (.sl true []),.p (.sl true []),.p (.sl true [])],[.p (iV o14),.p (sV x17.1),.p (sV []),.p (iV 0),.p (.sl true []),.p (.sl true []),.p (.sl true [])]],[]⟩⟩
def Qrs (h0_0:(List Qai)) (o27:Int×Bool×Int×(List UInt8)):St:=⟨[(0,.ptr 0 0),(2,.ptr 1 0),(5,.ptr 2 0)],⟨[[.p (.sl false (h0_0.map Qah)),.p (iV o27.1),.p (bV o27.2.1)],[.p (iV 0),.p (sV []),.p (sV []),.p (iV 0),.p (.sl true []),.p (.sl true []),.p (.sl true [])],[.p (iV o27.2.2.1),.p (sV o27.2.2.2),.p (sV []),.p (iV 0),.p (.sl true []),.p (.sl true []),.p (.sl true [])]],[]⟩⟩
def Qod (_:Int×Bool):D :=.tup []
def Qv3:List (Nat×List Nat):=[(0,[])]
def Qrj (_:Int×Bool):D :=.tup []
def Qyb:List (Nat×List Nat):=[(0,[0,1]),(1,[0]),(2,[])]
def Qbx (y:Qab×Int×Bool):D :=.p (.agg [iV y.1.Kind,sV y.1.Name,sV y.1.Text,iV y.1.N,.sl false (y.1.L.map Qaa),.sl false (y.1.Then.map Qaa),.sl false (y.1.Else.map Qaa)])
def Qnn:List (Nat×List Nat):=[(0,[0,2]),(1,[0,2,7]),(2,[2]),(3,[0,2,13]),(4,[2]),(5,[0,2,19]),(6,[2]),(7,[2]),(8,[0,2,24]),(9,[2]),(10,[2]),(11,[0,2,29]),(12,[0,2]),(13,[0,2]),(14,[0,2,3]),(15,[2,3]),(16,[2]),(17,[0,2,4]),(18,[0,2,4,66]),(19,[2]),(20,[0,2,4]),(21,[0,2,4]),(22,[0,2,4,72]),(23,[2,4]),(24,[2]),(25,[0,2,4,5]),(26,[0,2,4,5,84]),(27,[0,2,4,5]),(28,[0,2,4,5]),(29,[0,2,4,5,95]),(30,[0,2,4,5,97]),(31,[0,2,4,5]),(32,[2,4]),(33,[2]),(1000026,[0,2,4,5]),(3000014,[]),(3000026,[]),(5000014,[17]),(5000028,[3,1001,1007]),(8000028,[2])]
def Qtg (h0_0:(List Qai)) (o13:Int×Bool×Int×(List UInt8)×Int×Int×Int):St:=⟨[(0,.ptr 0 0),(2,.ptr 1 0),(3,.ptr 2 0)],⟨[[.p (.sl false (h0_0.map Qah)),.p (iV o13.1),.p (bV o13.2.1)],[.p (iV 0),.p (sV []),.p (sV []),.p (iV 0),.p (.sl true []),.p (.sl true []),.p (.sl true [])],[.p (iV o13.2.2.1),.p (sV o13.2.2.2.1),.p (iV o13.2.2.2.2.1),.p (iV o13.2.2.2.2.2.1),.p (iV o13.2.2.2.2.2.2)]],[]⟩⟩
def Qth (h0_0:(List Qai)) (x21:(List UInt8)×Int×Bool) (v5:Int) (h0_1_:Int) (h0_2_:Bool) (h2_4:(List Qab)) (o27:Bool):St:=⟨[(0,.ptr 0 0),(2,.ptr 1 0),(4,.ptr 2 0),(5,.p (iV v5)),(84,.p (bV o27))],⟨[[.p (.sl false (h0_0.map Qah)),.p (iV h0_1_),.p (bV h0_2_)],[.p (iV 0),.p (sV []),.p (sV []),.p (iV 0),.p (.sl true []),.p (.sl true []),.p (.sl true [])],[.p (iV 6),.p (sV x21.1),.p (sV []),.p (iV 0),.own 0 38 7 (h2_4.map Qaa),.p (.sl true []),.p (.sl true [])]],[(h2_4.map Qaa).length]⟩⟩
def Qef (h0_0:(List Qai)) (x21:(List UInt8)×Int×Bool) (v5:Int) (h0_1_:Int) (h0_2_:Bool) (h2_4:(List Qab)):St:=⟨[(0,.ptr 0 0),(2,.ptr 1 0),(4,.ptr 2 0),(5,.p (iV v5))],⟨[[.p (.sl false (h0_0.map Qah)),.p (iV h0_1_),.p (bV h0_2_)],[.p (iV 0),.p (sV []),.p (sV []),.p (iV 0),.p (.sl true []),.p (.sl true []),.p (.sl true [])],[.p (iV 6),.p (sV x21.1),.p (sV []),.p (iV 0),.own 0 38 7 (h2_4.map Qaa),.p (.sl true []),.p (.sl true [])]],[(h2_4.map Qaa).length]⟩⟩
def Qj4 (h0_0:(List Qai)) (x21:(List UInt8)×Int×Bool) (o26:Int×Bool×(List Qab)):St:=⟨[(0,.ptr 0 0),(2,.ptr 1 0),(4,.ptr 2 0)],⟨[[.p (.sl false (h0_0.map Qah)),.p (iV o26.1),.p (bV o26.2.1)],[.p (iV 0),.p (sV []),.p (sV []),.p (iV 0),.p (.sl true []),.p (.sl true []),.p (.sl true [])],[.p (iV 6),.p (sV x21.1),.p (sV []),.p (iV 0),.own 0 38 7 (o26.2.2.map Qaa),.p (.sl true []),.p (.sl true [])]],[(o26.2.2.map Qaa).length]⟩⟩
def Qti:Code:=((Qaz (Tryz.f173.body.getD .skip)).getD 0 .skip)
def Qd8 (y:Bool):D :=.p (bV y)
def Qzp:List (Nat×List Nat):=[(0,[0,1]),(1,[4]),(3000001,[])]
def Qw8 (h0_0:(List Qai)) (h0_1:Int) (h0_2:Bool) (o1:Bool):St:=⟨[(4,.p (bV o1))],⟨[[.p (.sl false (h0_0.map Qah)),.p (iV h0_1),.p (bV h0_2)]],[]⟩⟩
def Qpx (y:(List UInt8)×Int×Bool):D :=.p (sV y.1)
def Qw9:List (Nat×List Nat):=[(0,[0]),(1,[2]),(3000001,[]),(5000001,[17])]
def Quo (h0_0:(List Qai)) (o1:(List UInt8)×Int×Bool):St:=⟨[(2,.p (sV o1.1))],⟨[[.p (.sl false (h0_0.map Qah)),.p (iV o1.2.1),.p (bV o1.2.2)]],[]⟩⟩
def Qko (y:Qai×Int×Bool):D :=.p (.agg [iV y.1.Kind,sV y.1.Text,iV y.1.N,iV y.1.From,iV y.1.To])
def Qxa:List (Nat×List Nat):=[(0,[0,1,4]),(1,[0,4,12]),(2,[4]),(3,[4]),(4,[0,4]),(5,[4]),(3000001,[])]
def Qup (h0_0:(List Qai)) (h0_1:Int) (h0_2:Bool) (o1:Bool):St:=⟨[(0,.ptr 0 0),(4,.ptr 1 0),(12,.p (bV o1))],⟨[[.p (.sl false (h0_0.map Qah)),.p (iV h0_1),.p (bV h0_2)],[.p (iV 0),.p (sV []),.p (iV 0),.p (iV 0),.p (iV 0)]],[]⟩⟩
def Qpy (y:Bool):D :=.p (bV y)
def Qxb:List (Nat×List Nat):=[(0,[0,1]),(1,[4]),(3000001,[])]
def Quq (h0_0:(List Qai)) (h0_1:Int) (h0_2:Bool) (o1:Bool):St:=⟨[(4,.p (bV o1))],⟨[[.p (.sl false (h0_0.map Qah)),.p (iV h0_1),.p (bV h0_2)]],[]⟩⟩
def Qih (y:Int):D :=.p (iV y)
def Qy6:List (Nat×List Nat):=[(0,[0,1,2]),(1,[0,1,2,7]),(2,[0,1,2,7,8]),(3,[0,1,2,7,8,19]),(4,[0,1,2,7,8]),(5,[0,1,2,7,8]),(6,[0,1,2,7,8,56]),(7,[0,1,2,7,8,9]),(8,[0,1,2,7,8]),(9,[6]),(1000003,[0,1,2,7,8]),(3000003,[]),(3000006,[])]
def Q4e (p0:(List Qae)) (p1:(List Qab)) (p2:Int) (v7:Int) (v8:Int) (o2:Bool):St:=⟨[(0,.p (.sl false (p0.map Qaf))),(1,.p (.sl false (p1.map Qaa))),(2,.p (iV p2)),(7,.p (iV v7)),(8,.p (iV v8)),(19,.p (bV o2))],⟨[],[]⟩⟩
def Q4f (p0:(List Qae)) (p1:(List Qab)) (p2:Int) (v7:Int) (v8:Int) (x4:Int) (x6:Int) (o7:Bool):St:=⟨[(0,.p (.sl false (p0.map Qaf))),(1,.p (.sl false (p1.map Qaa))),(2,.p (iV p2)),(7,.p (iV (wr ((wr ((wr (v7+1))+x4))+x6)))),(8,.p (iV v8)),(56,.p (bV o7))],⟨[],[]⟩⟩
def Qjh (p0:(List Qae)) (p1:(List Qab)) (p2:Int) (v7:Int) (v8:Int):St:=⟨[(0,.p (.sl false (p0.map Qaf))),(1,.p (.sl false (p1.map Qaa))),(2,.p (iV p2)),(7,.p (iV v7)),(8,.p (iV v8))],⟨[],[]⟩⟩
def Qtj (p0:(List Qae)) (p1:(List Qab)) (p2:Int) (o1:Int):St:=⟨[(7,.p (iV o1))],⟨[],[]⟩⟩
def Q4g:Code:=((Qaz (Tryz.f60.body.getD .skip)).getD 0 .skip)
def Qix (y:Bool):D :=.p (bV y)
def Q2j:List (Nat×List Nat):=[(0,[0]),(1,[0,3]),(2,[0,3,7]),(3,[0,3]),(4,[0,3,42]),(5,[2]),(6,[2]),(1000002,[0,3]),(3000004,[])]
def Q8k (p0:(List Qab)) (v3:Int) (o4:Bool):St:=⟨[(0,.p (.sl false (p0.map Qaa))),(3,.p (iV v3)),(42,.p (bV o4))],⟨[],[]⟩⟩
def Qo0 (p0:(List Qab)) (v3:Int):St:=⟨[(0,.p (.sl false (p0.map Qaa))),(3,.p (iV v3))],⟨[],[]⟩⟩
def Qvh (p0:(List Qab)) (y2:Unit):St:=⟨[],⟨[],[]⟩⟩
def Qvi (p0:(List Qab)) (y3:Unit):St:=⟨[(2,.p (bV false))],⟨[],[]⟩⟩
def Q8l:Code:=((Qaz (Tryz.f32.body.getD .skip)).getD 0 .skip)
def Qfp (y:(List Qae)×Bool):D :=.tup [.p (.sl false (y.1.map Qaf)),.p (bV y.2)]
def Qur:List (Nat×List Nat):=[(0,[0,1]),(1,[0,1]),(2,[0,1,7]),(3,[0,1,18]),(4,[4,5]),(5,[0,8]),(6,[4,5])]
def Qde (y:Bool):D :=.p (bV y)
def Qho:List (Nat×List Nat):=[(0,[0,1]),(1,[0,1,5]),(2,[0,1,5,7]),(3,[0,1,5,7,9]),(4,[0,1,39]),(5,[4]),(6,[0,1,10]),(7,[0,1,10,44]),(8,[0,1,10]),(9,[0,1,10,53]),(10,[4]),(11,[0,1,11,12]),(12,[4]),(1000007,[0,1,10]),(3000004,[]),(3000012,[])]
def Qmi (p1:(List UInt8)) (x1:(List Qae)×Bool) (o4:Bool):St:=⟨[(0,.p (.sl false (x1.1.map Qaf))),(1,.p (sV p1)),(39,.p (bV o4))],⟨[],[]⟩⟩
def Qdp (p1:(List UInt8)) (x1:(List Qae)×Bool) (v10:Int):St:=⟨[(0,.p (.sl false (x1.1.map Qaf))),(1,.p (sV p1)),(10,.p (iV v10))],⟨[],[]⟩⟩
def Qf4 (p1:(List UInt8)) (x1:(List Qae)×Bool) (y7:Unit):St:=⟨[(0,.p (.sl false (x1.1.map Qaf))),(1,.p (sV p1))],⟨[],[]⟩⟩
def Qf5 (p1:(List UInt8)) (x1:(List Qae)×Bool) (y8:Bool):St:=⟨[(4,.p (bV y8))],⟨[],[]⟩⟩
def Qmj:Code:=((Qaz (Tryz.f7.body.getD .skip)).getD 0 .skip)
def Qmk  (o13:Bool):St:=⟨[(4,.p (bV o13))],⟨[],[]⟩⟩
def Qd9 (y:Bool):D :=.p (bV y)
def Qus:List (Nat×List Nat):=[(0,[]),(1,[1]),(2,[1,2]),(3,[1,2,4]),(4,[1,2,4,5,6]),(5,[1,2,4,5,6,8]),(6,[0]),(3000006,[])]
def Qrt  (o7:Bool):St:=⟨[(0,.p (bV o7))],⟨[],[]⟩⟩
def Qe5 (y:(List Qae)):D :=.p (.sl false (y.map Qaf))
def Qxc:List (Nat×List Nat):=[(0,[0]),(1,[3]),(2,[2])]
def Qe6 (y:(List UInt8)×Int):D :=.tup [.p (sV y.1),.p (iV y.2)]
def Qzq:List (Nat×List Nat):=[(0,[0,1]),(1,[4,5])]
def Qkp (_:Unit):D :=.tup []
def Qxd:List (Nat×List Nat):=[]
def Qct (y:Bool):D :=.p (bV y)
def Qtk:List (Nat×List Nat):=[(0,[2,3]),(1,[2,3,7]),(2,[2,3,7,8]),(3,[4]),(4,[2,3,7,10]),(5,[2,3,5]),(6,[2,3,5,16]),(7,[2,3,5]),(8,[2,3,5,26]),(9,[4]),(10,[2,3,7,32]),(11,[2,3,32]),(12,[4]),(13,[4]),(1000006,[2,3,5]),(2010005,[])]
def Qji (p0:Qab) (p1:(List Qal)) (v5:Int):St:=⟨[(2,.ptr 0 0),(3,.ptr 1 0),(5,.p (iV v5))],⟨[[.p (iV p0.Kind),.p (sV p0.Name),.p (sV p0.Text),.p (iV p0.N),.p (.sl false (p0.L.map Qaa)),.p (.sl false (p0.Then.map Qaa)),.p (.sl false (p0.Else.map Qaa))],[.p (.sl false (p1.map Qau))]],[]⟩⟩
def Qoe (p0:Qab) (p1:(List Qal)) (y2:Unit):St:=⟨[],⟨[[.p (iV p0.Kind),.p (sV p0.Name),.p (sV p0.Text),.p (iV p0.N),.p (.sl false (p0.L.map Qaa)),.p (.sl false (p0.Then.map Qaa)),.p (.sl false (p0.Else.map Qaa))],[.p (.sl false (p1.map Qau))]],[]⟩⟩
def Qof (p0:Qab) (p1:(List Qal)) (y3:Bool):St:=⟨[(4,.p (bV y3))],⟨[[.p (iV p0.Kind),.p (sV p0.Name),.p (sV p0.Text),.p (iV p0.N),.p (.sl false (p0.L.map Qaa)),.p (.sl false (p0.Then.map Qaa)),.p (.sl false (p0.Else.map Qaa))],[.p (.sl false (p1.map Qau))]],[]⟩⟩
def Qyc:Code:=((Qaz (Tryz.f23.body.getD .skip)).getD 0 .skip)
def Qyd (p0:Qab) (p1:(List Qal)) (o6:Bool):St:=⟨[(2,.ptr 0 0),(3,.ptr 1 0),(32,.p (bV o6))],⟨[[.p (iV p0.Kind),.p (sV p0.Name),.p (sV p0.Text),.p (iV p0.N),.p (.sl false (p0.L.map Qaa)),.p (.sl false (p0.Then.map Qaa)),.p (.sl false (p0.Else.map Qaa))],[.p (.sl false (p1.map Qau))]],[]⟩⟩
def Qrk (y:Bool):D :=.p (bV y)
def Qye:List (Nat×List Nat):=[(0,[1,2]),(1,[3])]
def Qg5 (y:Bool):D :=.p (bV y)
def Qzr:List (Nat×List Nat):=[(0,[0,1]),(1,[0,1,5]),(2,[5,7]),(3,[4]),(3000003,[])]
def Qxe (x1:(List UInt8)×Int×Int) (o2:Bool):St:=⟨[(4,.p (bV o2))],⟨[[.p (iV x1.2.2)]],[]⟩⟩
def Qpz (_:Int):D :=.tup []
def Qxf:List (Nat×List Nat):=[(0,[])]
def Qbp (y:(List UInt8)×Int):D :=.tup [.p (sV y.1),.p (iV y.2)]
def Qkq:List (Nat×List Nat):=[(0,[0,1,2]),(1,[0,1,2,8,9]),(2,[0,1,2,8,9,19]),(3,[6,7]),(4,[0,1,2,10,11]),(5,[0,1,2,10,29]),(6,[6,7]),(7,[1,10,12]),(8,[12]),(9,[12,44]),(10,[6,7]),(11,[6,7]),(9000007,[1,0,0,0])]
def Qbq (y:(List UInt8)×Int×Int):D :=.tup [.p (sV y.1),.p (iV y.2.1)]
def Qkr:List (Nat×List Nat):=[(0,[0,1,2]),(1,[0,1,2,8,9]),(2,[0,1,2,8,9,19]),(3,[6,7]),(4,[0,1,2,10,11]),(5,[0,1,2,10,29]),(6,[6,7]),(7,[1,10,12]),(8,[12]),(9,[12,44]),(10,[6,7]),(11,[6,7]),(9000007,[1,0,0,0])]
def Qeg (_:(List UInt8)×Bool×(List (Qag×Int))):D :=.tup []
def Qjj:List (Nat×List Nat):=[(0,[0,1,3,12,13,14]),(1,[0,1,3,12,13,14,15]),(2,[0,1,3,9,12,13,14]),(3,[0,1,3,9,12,13,14,21]),(4,[0,1,3,9,12,13,14,24]),(5,[0,1,3,9,10,12,13,14]),(6,[0,1,3,9,10,11,12,13,14]),(7,[0,1,3,9,10,11,12,13,14,34]),(8,[0,1,3,9,10,11,12,13,14,34,35]),(9,[0,1,3,9,11,12,13,14,37]),(10,[0,1,3,9,11,12,13,14]),(11,[0,1,3,9,10,11,12,13,14,34,43]),(12,[0,1,3,9,10,11,12,13,14,34,43]),(13,[0,1,3,9,11,12,13,14,46]),(14,[]),(15,[0,1,3,9,11,12,13,14,56]),(16,[0,1,3,9,11,12,13,14]),(17,[0,1,3,9,10,11,12,13,14,34,63]),(18,[0,1,3,9,11,12,13,14]),(19,[0,1,3,9,10,11,12,13,14,72]),(20,[0,1,3,12,13,14]),(21,[0,1,3,9,12,13,14]),(22,[0,1,3,12,13,14]),(23,[0,1,3,12,13,14]),(1000001,[0,1,3,12,13,14]),(2007042,[]),(2011005,[]),(9000016,[5,0,0,0]),(9000018,[6,0,0,0]),(9500021,[])]
def Qo1 (p1:(List UInt8)) (p2:(List Qab)) (p3:(List Qal)) (h0_0:(List Qae)) (v14:Int) (h0_2_:(List UInt8)) (h0_3_:Bool) (h1_0_:(List (Qag×Int))) (x4:Qab) (y9:(List Qal)):St:=⟨[(0,.ptr 0 0),(1,.p (sV p1)),(3,.p (.sl false (p3.map Qau))),(9,.ptr 2 0),(11,.x 0 1 (.sl 46 3 (y9.map Qau))),(12,.p (.sl false (p2.map Qaa))),(13,.p (iV (p2.length:Int))),(14,.p (iV v14))],⟨[[.p (.sl false (h0_0.map Qaf)),.mh 1,.p (sV h0_2_),.p (bV h0_3_),.fn (.func 62) [] []],[mpD (fun x =>.agg (Qao x)) iV h1_0_],[.p (iV x4.Kind),.p (sV x4.Name),.p (sV x4.Text),.p (iV x4.N),.p (.sl false (x4.L.map Qaa)),.p (.sl false (x4.Then.map Qaa)),.p (.sl false (x4.Else.map Qaa))]],[1]⟩⟩
def Qo2 (p1:(List UInt8)) (p2:(List Qab)) (p3:(List Qal)) (h0_0:(List Qae)) (v14:Int) (h0_2_:(List UInt8)) (h0_3_:Bool) (h1_0_:(List (Qag×Int))) (x4:Qab) (y10:(List UInt8)×Bool×(List (Qag×Int))):St:=⟨[(0,.ptr 0 0),(1,.p (sV p1)),(3,.p (.sl false (p3.map Qau))),(12,.p (.sl false (p2.map Qaa))),(13,.p (iV (p2.length:Int))),(14,.p (iV v14))],⟨[[.p (.sl false (h0_0.map Qaf)),.mh 1,.p (sV y10.1),.p (bV y10.2.1),.fn (.func 62) [] []],[mpD (fun x =>.agg (Qao x)) iV y10.2.2],[.p (iV x4.Kind),.p (sV x4.Name),.p (sV x4.Text),.p (iV x4.N),.p (.sl false (x4.L.map Qaa)),.p (.sl false (x4.Then.map Qaa)),.p (.sl false (x4.Else.map Qaa))]],[1]⟩⟩
def Qo3 (p1:(List UInt8)) (p2:(List Qab)) (p3:(List Qal)) (h0_0:(List Qae)) (v14:Int) (h0_2_:(List UInt8)) (h0_3_:Bool) (h1_0_:(List (Qag×Int))) (x4:Qab) (y11:Unit):St:=⟨[],⟨[[.p (.sl false (h0_0.map Qaf)),.mh 1,.p (sV p1),.p (bV true),.fn (.func 62) [] []],[mpD (fun x =>.agg (Qao x)) iV h1_0_],[.p (iV x4.Kind),.p (sV x4.Name),.p (sV x4.Text),.p (iV x4.N),.p (.sl false (x4.L.map Qaa)),.p (.sl false (x4.Then.map Qaa)),.p (.sl false (x4.Else.map Qaa))]],[1]⟩⟩
def Qo4 (p1:(List UInt8)) (p2:(List Qab)) (p3:(List Qal)) (h0_0:(List Qae)) (v14:Int) (h0_2_:(List UInt8)) (h0_3_:Bool) (h1_0_:(List (Qag×Int))) (x4:Qab) (x6:Bool) (x7:(List Qal)) (o13:Bool):St:=⟨[(0,.ptr 0 0),(1,.p (sV p1)),(3,.p (.sl false (p3.map Qau))),(9,.ptr 2 0),(10,.p (bV x6)),(11,.x 0 1 (.sl 46 3 (x7.map Qau))),(12,.p (.sl false (p2.map Qaa))),(13,.p (iV (p2.length:Int))),(14,.p (iV v14)),(34,.p (iV x4.Kind)),(43,.p (bV o13))],⟨[[.p (.sl false (h0_0.map Qaf)),.mh 1,.p (sV h0_2_),.p (bV h0_3_),.fn (.func 62) [] []],[mpD (fun x =>.agg (Qao x)) iV h1_0_],[.p (iV x4.Kind),.p (sV x4.Name),.p (sV x4.Text),.p (iV x4.N),.p (.sl false (x4.L.map Qaa)),.p (.sl false (x4.Then.map Qaa)),.p (.sl false (x4.Else.map Qaa))]],[1]⟩⟩
def Qcb (p1:(List UInt8)) (p2:(List Qab)) (p3:(List Qal)) (h0_0:(List Qae)) (v14:Int) (h0_2_:(List UInt8)) (h0_3_:Bool) (h1_0_:(List (Qag×Int))):St:=⟨[(0,.ptr 0 0),(1,.p (sV p1)),(3,.p (.sl false (p3.map Qau))),(12,.p (.sl false (p2.map Qaa))),(13,.p (iV (p2.length:Int))),(14,.p (iV v14))],⟨[[.p (.sl false (h0_0.map Qaf)),.mh 1,.p (sV h0_2_),.p (bV h0_3_),.fn (.func 62) [] []],[mpD (fun x =>.agg (Qao x)) iV h1_0_]],[]⟩⟩
def Qhp (p1:(List UInt8)) (p2:(List Qab)) (p3:(List Qal)) (h0_0:(List Qae)) (y2:(List UInt8)×Bool×(List (Qag×Int))):St:=⟨[],⟨[[.p (.sl false (h0_0.map Qaf)),.mh 1,.p (sV y2.1),.p (bV y2.2.1),.fn (.func 62) [] []],[mpD (fun x =>.agg (Qao x)) iV y2.2.2]],[]⟩⟩
def Qhq (p1:(List UInt8)) (p2:(List Qab)) (p3:(List Qal)) (h0_0:(List Qae)) (y3:(List UInt8)×Bool×(List (Qag×Int))):St:=⟨[],⟨[[.p (.sl false (h0_0.map Qaf)),.mh 1,.p (sV y3.1),.p (bV y3.2.1),.fn (.func 62) [] []],[mpD (fun x =>.agg (Qao x)) iV y3.2.2]],[]⟩⟩
def Qo5:Code:=((Qaz (Tryz.f85.body.getD .skip)).getD 0 .skip)
def Qdn (_:(List UInt8)×Bool×(List (Qag×Int))×Int):D :=.tup []
def Qhx:List (Nat×List Nat):=[(0,[0,1,3,12,13,14]),(1,[0,1,3,12,13,14,15]),(2,[0,1,3,9,12,13,14]),(3,[0,1,3,9,12,13,14,21]),(4,[0,1,3,9,12,13,14,24]),(5,[0,1,3,9,10,12,13,14]),(6,[0,1,3,9,10,11,12,13,14]),(7,[0,1,3,9,10,11,12,13,14,34]),(8,[0,1,3,9,10,11,12,13,14,34,35]),(9,[0,1,3,9,11,12,13,14,37]),(10,[0,1,3,9,11,12,13,14]),(11,[0,1,3,9,10,11,12,13,14,34,43]),(12,[0,1,3,9,10,11,12,13,14,34,43]),(13,[0,1,3,9,11,12,13,14,46]),(14,[]),(15,[0,1,3,9,11,12,13,14,56]),(16,[0,1,3,9,11,12,13,14]),(17,[0,1,3,9,10,11,12,13,14,34,63]),(18,[0,1,3,9,11,12,13,14]),(19,[0,1,3,9,10,11,12,13,14,72]),(20,[0,1,3,12,13,14]),(21,[0,1,3,9,12,13,14]),(22,[0,1,3,12,13,14]),(23,[0,1,3,12,13,14]),(1000001,[0,1,3,12,13,14]),(2007042,[]),(2011005,[]),(9000016,[5,0,0,0]),(9000018,[6,0,0,0]),(9500021,[])]
def Qno (p1:(List UInt8)) (p2:(List Qab)) (p3:(List Qal)) (h0_0:(List Qae)) (v14:Int) (h0_2_:(List UInt8)) (h0_3_:Bool) (h1_0_:(List (Qag×Int))) (h2_0_:Int) (x4:Qab) (y9:(List Qal)×Int):St:=⟨[(0,.ptr 0 0),(1,.p (sV p1)),(3,.p (.sl false (p3.map Qau))),(9,.ptr 3 0),(11,.x 0 1 (.sl 46 3 (y9.1.map Qau))),(12,.p (.sl false (p2.map Qaa))),(13,.p (iV (p2.length:Int))),(14,.p (iV v14))],⟨[[.p (.sl false (h0_0.map Qaf)),.mh 1,.p (sV h0_2_),.p (bV h0_3_),.fn (.func 64) [] [.ptr 2 0]],[mpD (fun x =>.agg (Qao x)) iV h1_0_],[.p (iV y9.2)],[.p (iV x4.Kind),.p (sV x4.Name),.p (sV x4.Text),.p (iV x4.N),.p (.sl false (x4.L.map Qaa)),.p (.sl false (x4.Then.map Qaa)),.p (.sl false (x4.Else.map Qaa))]],[1]⟩⟩
def Qnp (p1:(List UInt8)) (p2:(List Qab)) (p3:(List Qal)) (h0_0:(List Qae)) (v14:Int) (h0_2_:(List UInt8)) (h0_3_:Bool) (h1_0_:(List (Qag×Int))) (h2_0_:Int) (x4:Qab) (y10:(List UInt8)×Bool×(List (Qag×Int))×Int):St:=⟨[(0,.ptr 0 0),(1,.p (sV p1)),(3,.p (.sl false (p3.map Qau))),(12,.p (.sl false (p2.map Qaa))),(13,.p (iV (p2.length:Int))),(14,.p (iV v14))],⟨[[.p (.sl false (h0_0.map Qaf)),.mh 1,.p (sV y10.1),.p (bV y10.2.1),.fn (.func 64) [] [.ptr 2 0]],[mpD (fun x =>.agg (Qao x)) iV y10.2.2.1],[.p (iV y10.2.2.2)],[.p (iV x4.Kind),.p (sV x4.Name),.p (sV x4.Text),.p (iV x4.N),.p (.sl false (x4.L.map Qaa)),.p (.sl false (x4.Then.map Qaa)),.p (.sl false (x4.Else.map Qaa))]],[1]⟩⟩
def Qnq (p1:(List UInt8)) (p2:(List Qab)) (p3:(List Qal)) (h0_0:(List Qae)) (v14:Int) (h0_2_:(List UInt8)) (h0_3_:Bool) (h1_0_:(List (Qag×Int))) (h2_0_:Int) (x4:Qab) (y11:Unit):St:=⟨[],⟨[[.p (.sl false (h0_0.map Qaf)),.mh 1,.p (sV p1),.p (bV true),.fn (.func 64) [] [.ptr 2 0]],[mpD (fun x =>.agg (Qao x)) iV h1_0_],[.p (iV h2_0_)],[.p (iV x4.Kind),.p (sV x4.Name),.p (sV x4.Text),.p (iV x4.N),.p (.sl false (x4.L.map Qaa)),.p (.sl false (x4.Then.map Qaa)),.p (.sl false (x4.Else.map Qaa))]],[1]⟩⟩
def Qnr (p1:(List UInt8)) (p2:(List Qab)) (p3:(List Qal)) (h0_0:(List Qae)) (v14:Int) (h0_2_:(List UInt8)) (h0_3_:Bool) (h1_0_:(List (Qag×Int))) (h2_0_:Int) (x4:Qab) (x6:Bool) (x7:(List Qal)) (o13:Bool):St:=⟨[(0,.ptr 0 0),(1,.p (sV p1)),(3,.p (.sl false (p3.map Qau))),(9,.ptr 3 0),(10,.p (bV x6)),(11,.x 0 1 (.sl 46 3 (x7.map Qau))),(12,.p (.sl false (p2.map Qaa))),(13,.p (iV (p2.length:Int))),(14,.p (iV v14)),(34,.p (iV x4.Kind)),(43,.p (bV o13))],⟨[[.p (.sl false (h0_0.map Qaf)),.mh 1,.p (sV h0_2_),.p (bV h0_3_),.fn (.func 64) [] [.ptr 2 0]],[mpD (fun x =>.agg (Qao x)) iV h1_0_],[.p (iV h2_0_)],[.p (iV x4.Kind),.p (sV x4.Name),.p (sV x4.Text),.p (iV x4.N),.p (.sl false (x4.L.map Qaa)),.p (.sl false (x4.Then.map Qaa)),.p (.sl false (x4.Else.map Qaa))]],[1]⟩⟩
def Qby (p1:(List UInt8)) (p2:(List Qab)) (p3:(List Qal)) (h0_0:(List Qae)) (v14:Int) (h0_2_:(List UInt8)) (h0_3_:Bool) (h1_0_:(List (Qag×Int))) (h2_0_:Int):St:=⟨[(0,.ptr 0 0),(1,.p (sV p1)),(3,.p (.sl false (p3.map Qau))),(12,.p (.sl false (p2.map Qaa))),(13,.p (iV (p2.length:Int))),(14,.p (iV v14))],⟨[[.p (.sl false (h0_0.map Qaf)),.mh 1,.p (sV h0_2_),.p (bV h0_3_),.fn (.func 64) [] [.ptr 2 0]],[mpD (fun x =>.agg (Qao x)) iV h1_0_],[.p (iV h2_0_)]],[]⟩⟩
def Qgg (p1:(List UInt8)) (p2:(List Qab)) (p3:(List Qal)) (h0_0:(List Qae)) (y2:(List UInt8)×Bool×(List (Qag×Int))×Int):St:=⟨[],⟨[[.p (.sl false (h0_0.map Qaf)),.mh 1,.p (sV y2.1),.p (bV y2.2.1),.fn (.func 64) [] [.ptr 2 0]],[mpD (fun x =>.agg (Qao x)) iV y2.2.2.1],[.p (iV y2.2.2.2)]],[]⟩⟩
def Qgh (p1:(List UInt8)) (p2:(List Qab)) (p3:(List Qal)) (h0_0:(List Qae)) (y3:(List UInt8)×Bool×(List (Qag×Int))×Int):St:=⟨[],⟨[[.p (.sl false (h0_0.map Qaf)),.mh 1,.p (sV y3.1),.p (bV y3.2.1),.fn (.func 64) [] [.ptr 2 0]],[mpD (fun x =>.agg (Qao x)) iV y3.2.2.1],[.p (iV y3.2.2.2)]],[]⟩⟩
def Qns:Code:=((Qaz (Tryz.f85.body.getD .skip)).getD 0 .skip)
def Qht (_:(List UInt8)×Bool×(List (Qag×Int))):D :=.tup []
def Qtl:List (Nat×List Nat):=[(0,[0,3]),(1,[0,3,12]),(2,[0,3]),(3,[0,3,4]),(4,[]),(5000001,[2005]),(9000002,[5,0,0,0]),(9800002,[5]),(7000002,[0,3,16,17])]
def Qgd (_:(List UInt8)×Bool×(List (Qag×Int))×Int):D :=.tup []
def Qqs:List (Nat×List Nat):=[(0,[0,3]),(1,[0,3,12]),(2,[0,3]),(3,[0,3,4]),(4,[]),(5000001,[2005]),(9000002,[5,0,0,0]),(9800002,[5]),(7000002,[0,3,16,17])]
def Qc1 (y:(List Qal)):D :=.x 0 1 (.sl 46 3 (y.map Qau))
def Qjk:List (Nat×List Nat):=[(0,[0]),(1,[0,4]),(2,[2]),(3,[2]),(9000001,[1,0,0,0]),(9000003,[2,0,0,0])]
def Qbv (y:Bool):D :=.p (bV y)
def Qdq:List (Nat×List Nat):=[(0,[0,1]),(1,[4])]
def Qbi (y:Int):D :=.p (iV y)
def Qb2:List (Nat×List Nat):=[(0,[0,1]),(1,[0,1,7,8]),(2,[0,1,7,8,9]),(3,[0,1,5,7,8]),(4,[0,1,5,7,8,16]),(5,[4]),(6,[0,1,7,8]),(7,[4]),(1000002,[0,1,7,8])]
def Qbd (p0:(List Qab)) (h0_0:(List Qal)) (v8:Int):St:=⟨[(0,.p (.sl false (p0.map Qaa))),(1,.fn (.func 57) [] [.ptr 0 0]),(7,.p (iV (p0.length:Int))),(8,.p (iV v8))],⟨[[.p (.sl false (h0_0.map Qau))]],[]⟩⟩
def Qbt (p0:(List Qab)) (h0_0:(List Qal)) (y2:Unit):St:=⟨[],⟨[[.p (.sl false (h0_0.map Qau))]],[]⟩⟩
def Qbu (p0:(List Qab)) (h0_0:(List Qal)) (y3:Int):St:=⟨[(4,.p (iV y3))],⟨[[.p (.sl false (h0_0.map Qau))]],[]⟩⟩
def Qds:Code:=((Qaz (Tryz.f83.body.getD .skip)).getD 0 .skip)
def Qt8 (p0:(List UInt8)):Option (Int×Bool) :=
 need (p0.length≤9223372036854775807)>>=fun _ =>
 some (Q1h p0)
theorem Q8m:∀ (p0:(List UInt8)) (o:Int×Bool),Qt8 p0=some o→PCall Tryz.prog 160 [sV p0] (Qy5 o):=by
 intro p0 o h;unfold Qt8 at h;obtain⟨h1,h⟩:=Qaaw h;cases h;exact Qagr _ h1
def Qxg (p0:Int):Option (Bool) :=
 ( if(p0==32) then
   some true
  else
   if(p0==9) then
    some true
   else
    if(p0==10) then
     some true
    else
     some (p0==13):Option (Bool))>>=fun o1 =>
 some o1
theorem Qab1:∀ (p0:Int) (o:Bool),Qxg p0=some o→PCall Tryz.prog 158 [nV .u8 p0] (Qv1 o):=by
 intro p0 o h;unfold Qxg at h;refine PCall.ofB mixed tbOk Qabt Tryz.func158 rfl (by kernel_rfl) (Nat.le_of_ble_eq_true rfl) ?_;refine Qaj h (fun o1 ho hk=>?_);refine Exists.intro (JP1 _ _ o1 .normal (Q4d )) (And.intro ?_ (Qa5 ?_))
 ·have h:=ho;refine Qac h (fun hb h=>?_) (fun hb h=>?_)
  ·refine bT ?_;refine bT ?_;refine JP1.a h ?_;exact Le.tz 0 0 rfl rfl rfl
  ·refine Qac h (fun hb h=>?_) (fun hb h=>?_)
   ·refine bT ?_;refine JP1.a h ?_;exact Le.tz 0 0 rfl rfl rfl
   ·refine Qac h (fun hb h=>?_) (fun hb h=>?_)
    ·refine JP1.a h ?_;exact Le.tz 0 0 rfl rfl rfl
    ·refine JP1.a h ?_;exact Le.tz 0 0 rfl rfl rfl
 ·have h:=hk;refine Qar (t:=Qv1) h ?_;exact .refl _
def Qfq (p0:(List UInt8)) (v1:Int):Option (Int) :=
 ( if(decide (v1<(p0.length:Int))) then
   idx p0 v1>>=fun x3 =>
   Qxg (x3.toNat:Int)>>=fun x4 =>
   some x4
  else
   some false:Option (Bool))>>=fun o2 =>
 if o2 then
  Qfq p0 (wr (v1+1))
 else
  some v1
 partial_fixpoint
theorem Qag0:∀ (p0:(List UInt8)),(∀ (v1:Int) (o1:Int),Qfq p0 v1=some o1→TL (0,0) Tryz.prog 18 Q2d (JP1 (0,0) 18 o1 (.exit 0) (Qrg p0)) (Ql7 p0 v1)):=by
 intro p0;refine Qfq.partial_correctness p0 _ ?_;intro Qfq' iQfq v1 o1 h;refine TL.round (Qaq mixed tbOk (lv:=Qw2) _ _ _ ?_);refine Qaj h (fun o2 ho hk=>?_);refine Exists.intro (JP1 _ _ o2 .normal (Q2c p0 v1)) (And.intro ?_ (Qa5 ?_))
 ·have h:=ho;refine vrfl ?_;refine Qac h (fun hb h=>?_) (fun hb h=>?_)
  ·refine Qdg h (fun x3 hi h=>?_);refine Qam [nV .u8 (x3.toNat:Int)] Qv1 h (fun x4 hy=>(Qab1 (x3.toNat:Int) x4 hy)) (fun x4 hy h=>?_);refine JP1.a h ?_;exact Le.tz 0 0 rfl rfl rfl
  ·refine JP1.a h ?_;exact Le.tz 0 0 rfl rfl rfl
 ·have h:=hk;refine Qac h (fun hb h=>?_) (fun hb h=>?_)
  ·refine TL.le (τ := Ql7 p0 (wr (v1+1))) ?_ ((iQfq (wr (v1+1)) _ h));exact Le.tz 0 0 rfl rfl rfl
  ·exact JP1.a h (Le.tz 0 0 rfl rfl rfl)
def Qks (p0:(List UInt8)) (p1:Int):Option (Int) :=
 (Qfq p0 p1)>>=fun o1 =>
 some o1
theorem Qxh:∀ (p0:(List UInt8)) (p1:Int) (o:Int),Qks p0 p1=some o→PCall Tryz.prog 140 [sV p0,iV p1] (Qn9 o):=by
 intro p0 p1 o h;unfold Qks at h;refine PCall.ofB mixed tbOk Qw2 Tryz.func140 rfl (by kernel_rfl) (Nat.le_of_ble_eq_true rfl) ?_;refine Qaj h (fun o1 ho hk=>?_);refine Exists.intro (JP1 _ _ o1 (.exit 0) (Qrg p0)) (And.intro (Qhn (τ := Ql7 p0 p1) ?_ (TL.loop (Qag0 p0 p1 o1 ho))) (Qa5 ?_))
 ·exact Le.tz 0 0 rfl rfl rfl
 have h:=hk;refine Qar (t:=Qn9) h ?_;exact .refl _
def Qkt (p0:(List UInt8)) (p1:Int) (x1:UInt8) (v9:Int):Option (Unit⊕(Int×Int)) :=
 if(decide (v9<([46,40,41,44,61].length:Int))) then
  idx ([46,40,41,44,61]:List UInt8) v9>>=fun x6 =>
  if((x6.toNat:Int)==(x1.toNat:Int)) then
   idx ([7,8,9,10,11]:List Int) v9>>=fun x7 =>
   some (.inr (x7,x7))
  else
   Qkt p0 p1 x1 (wr (v9+1))
 else
  some (.inl ())
 partial_fixpoint
theorem Qakn:∀ (p0:(List UInt8)) (p1:Int) (x1:UInt8),(∀ (v9:Int) (o3:Unit⊕(Int×Int)),Qkt p0 p1 x1 v9=some o3→TL (0,0) Tryz.prog 133 Qabu (JP2 (0,0) 133 o3 (.exit 0) (Qw3 p0 p1 x1) .ret (Qw4 p0 p1 x1)) (Qqp p0 p1 x1 v9)):=by
 intro p0 p1 x1;refine Qkt.partial_correctness p0 p1 x1 _ ?_;intro Qkt' iQkt v9 o3 h;refine TL.round (Qaq mixed tbOk (lv:=Qt7) _ _ _ ?_);refine vrfl ?_;refine Qac h (fun hb h=>?_) (fun hb h=>?_)
 ·refine Qdg h (fun x6 hi h=>?_);refine Qac h (fun hb h=>?_) (fun hb h=>?_)
  ·refine Qa7 (l:=[7,8,9,10,11]) (c:=cInt) (c' := cInt) h (fun _=>rfl) (fun _=>rfl) (by decide) (fun x7 hi h=>?_);exact JP2.b h (Le.tz 2 0 rfl rfl rfl)
  ·refine TL.le (τ := Qqp p0 p1 x1 (wr (v9+1))) ?_ ((iQkt (wr (v9+1)) _ h));exact Le.tz 2 0 rfl rfl rfl
 ·exact JP2.a h (Le.tz 2 0 rfl rfl rfl)
def Qku (p0:(List UInt8)) (p1:Int) (v12:Int):Option (Int) :=
 ( if(decide (v12<(p0.length:Int))) then
   idx p0 v12>>=fun x12 =>
   Qf0 (x12.toNat:Int)>>=fun x13 =>
   if x13 then
    some true
   else
    idx p0 v12>>=fun x14 =>
    Qfz (x14.toNat:Int)>>=fun x15 =>
    if x15 then
     some true
    else
     idx p0 v12>>=fun x16 =>
     some ((x16.toNat:Int)==95)
  else
   some false:Option (Bool))>>=fun o11 =>
 if o11 then
  Qku p0 p1 (wr (v12+1))
 else
  some v12
 partial_fixpoint
theorem Qako:∀ (p0:(List UInt8)) (p1:Int),(∀ (v12:Int) (o10:Int),Qku p0 p1 v12=some o10→TL (0,0) Tryz.prog 133 Qabw (JP1 (0,0) 133 o10 (.exit 2) (Qw5 p0 p1)) (Qqq p0 p1 v12)):=by
 intro p0 p1;refine Qku.partial_correctness p0 p1 _ ?_;intro Qku' iQku v12 o10 h;refine TL.round (Qaq mixed tbOk (lv:=Qt7) _ _ _ ?_);refine Qaj h (fun o11 ho hk=>?_);refine Exists.intro (JP1 _ _ o11 .normal (Qabv p0 p1 v12)) (And.intro ?_ (Qa5 ?_))
 ·have h:=ho;refine vrfl ?_;refine Qac h (fun hb h=>?_) (fun hb h=>?_)
  ·refine Qdg h (fun x12 hi h=>?_);refine Qam [nV .u8 (x12.toNat:Int)] Qkd h (fun x13 hy=>(Qn8 (x12.toNat:Int) x13 hy)) (fun x13 hy h=>?_);refine Qac h (fun hb h=>?_) (fun hb h=>?_)
   ·refine bT ?_;refine JP1.a h ?_;exact Le.tz 2 0 rfl rfl rfl
   ·refine Qdg h (fun x14 hi h=>?_);refine Qam [nV .u8 (x14.toNat:Int)] Qkc h (fun x15 hy=>(Qn7 (x14.toNat:Int) x15 hy)) (fun x15 hy h=>?_);refine Qac h (fun hb h=>?_) (fun hb h=>?_)
    ·refine JP1.a h ?_;exact Le.tz 2 0 rfl rfl rfl
    ·refine Qdg h (fun x16 hi h=>?_);refine JP1.a h ?_;exact Le.tz 2 0 rfl rfl rfl
  ·refine JP1.a h ?_;exact Le.tz 2 0 rfl rfl rfl
 ·have h:=hk;refine Qac h (fun hb h=>?_) (fun hb h=>?_)
  ·refine TL.le (τ := Qqq p0 p1 (wr (v12+1))) ?_ ((iQku (wr (v12+1)) _ h));exact Le.tz 2 0 rfl rfl rfl
  ·exact JP1.a h (Le.tz 2 0 rfl rfl rfl)
def Qkv (p0:(List UInt8)) (p1:Int) (v12:Int):Option (Int) :=
 ( if(decide (v12<(p0.length:Int))) then
   idx p0 v12>>=fun x24 =>
   Qfz (x24.toNat:Int)>>=fun x25 =>
   some x25
  else
   some false:Option (Bool))>>=fun o23 =>
 if o23 then
  Qkv p0 p1 (wr (v12+1))
 else
  some v12
 partial_fixpoint
theorem Qakp:∀ (p0:(List UInt8)) (p1:Int),(∀ (v12:Int) (o22:Int),Qkv p0 p1 v12=some o22→TL (0,0) Tryz.prog 133 Qabz (JP1 (0,0) 133 o22 (.exit 4) (Qw6 p0 p1)) (Qqr p0 p1 v12)):=by
 intro p0 p1;refine Qkv.partial_correctness p0 p1 _ ?_;intro Qkv' iQkv v12 o22 h;refine TL.round (Qaq mixed tbOk (lv:=Qt7) _ _ _ ?_);refine Qaj h (fun o23 ho hk=>?_);refine Exists.intro (JP1 _ _ o23 .normal (Qaby p0 p1 v12)) (And.intro ?_ (Qa5 ?_))
 ·have h:=ho;refine vrfl ?_;refine Qac h (fun hb h=>?_) (fun hb h=>?_)
  ·refine Qdg h (fun x24 hi h=>?_);refine Qam [nV .u8 (x24.toNat:Int)] Qkc h (fun x25 hy=>(Qn7 (x24.toNat:Int) x25 hy)) (fun x25 hy h=>?_);refine JP1.a h ?_;exact Le.tz 2 0 rfl rfl rfl
  ·refine JP1.a h ?_;exact Le.tz 2 0 rfl rfl rfl
 ·have h:=hk;refine Qac h (fun hb h=>?_) (fun hb h=>?_)
  ·refine TL.le (τ := Qqr p0 p1 (wr (v12+1))) ?_ ((iQkv (wr (v12+1)) _ h));exact Le.tz 2 0 rfl rfl rfl
  ·exact JP1.a h (Le.tz 2 0 rfl rfl rfl)
def Qdf (p0:(List UInt8)) (v1:Int) (v6:(List UInt8)):Option (Unit⊕((List UInt8)×Int)) :=
 if(decide (v1<(p0.length:Int))) then
  idx p0 v1>>=fun x4 =>
  if((x4.toNat:Int)==34) then
   some (.inr (v6,(wr (v1+1))))
  else
   idx p0 v1>>=fun x5 =>
   if((x5.toNat:Int)==92) then
    if((wr (v1+1))==(p0.length:Int)) then
     some (.inr ([],(-1)))
    else
     ( idx p0 (wr (v1+1))>>=fun x7 =>
      some (x7.toNat:Int):Option (Int))>>=fun o6 =>
     if(o6==110) then
      need (v6.length+[10].length≤9223372036854775807)>>=fun _ =>
      Qdf p0 (wr (v1+2)) (v6++[10])
     else
      if(o6==116) then
       need (v6.length+[9].length≤9223372036854775807)>>=fun _ =>
       Qdf p0 (wr (v1+2)) (v6++[9])
      else
       ( if(o6==34) then
         some true
        else
         some (o6==92):Option (Bool))>>=fun o8 =>
       if o8 then
        cutL p0 (wr (v1+1)) (wr (v1+2))>>=fun x9 =>
        need (v6.length+x9.length≤9223372036854775807)>>=fun _ =>
        Qdf p0 (wr (v1+2)) (v6++x9)
       else
        some (.inr ([],(-1)))
   else
    Qmg p0 v1>>=fun x10 =>
    ( if(x10.1==10) then
      some true
     else
      if(x10.1==13) then
       some true
      else
       if(x10.1==65533) then
        some (x10.2==1)
       else
        some false:Option (Bool))>>=fun o11 =>
    if o11 then
     some (.inr ([],(-1)))
    else
     cutL p0 v1 (wr (v1+x10.2))>>=fun x12 =>
     need (v6.length+x12.length≤9223372036854775807)>>=fun _ =>
     Qdf p0 (wr (v1+x10.2)) (v6++x12)
 else
  some (.inl ())
 partial_fixpoint
theorem Qag1:∀ (p0:(List UInt8)),(∀ (v1:Int) (v6:(List UInt8)) (o1:Unit⊕((List UInt8)×Int)),Qdf p0 v1 v6=some o1→TL (0,0) Tryz.prog 91 Q2i (JP2 (0,0) 91 o1 (.exit 0) (Qrh p0) .ret (Qri p0)) (Qei p0 v1 v6)):=by
 intro p0;refine Qdf.partial_correctness p0 _ ?_;intro Qdf' iQdf v1 v6 o1 h;refine TL.round (Qaq mixed tbOk (lv:=Qw7) _ _ _ ?_);refine vrfl ?_;refine Qac h (fun hb h=>?_) (fun hb h=>?_)
 ·refine Qdg h (fun x4 hi h=>?_);refine Qac h (fun hb h=>?_) (fun hb h=>?_)
  ·exact JP2.b h (Le.tz 0 0 rfl rfl rfl)
  ·refine Qdg h (fun x5 hi h=>?_);refine Qac h (fun hb h=>?_) (fun hb h=>?_)
   ·refine vrfl ?_;refine Qac h (fun hb h=>?_) (fun hb h=>?_)
    ·exact JP2.b h (Le.tz 0 0 rfl rfl rfl)
    ·refine Qaj h (fun o6 ho hk=>?_);refine Exists.intro (JP1 _ _ o6 .normal (Q2f p0 v1 v6)) (And.intro ?_ (Qa5 ?_))
     ·have h:=ho;refine Qdg h (fun x7 hi h=>?_);refine JP1.a h ?_;exact Le.tz 0 0 rfl rfl rfl
     ·have h:=hk;refine Qac h (fun hb h=>?_) (fun hb h=>?_)
      ·refine Qr6 h (fun h=>?_);refine TL.le (τ := Qei p0 (wr (v1+2)) (v6++[10])) ?_ ((iQdf (wr (v1+2)) (v6++[10]) _ h));exact Le.tz 0 0 rfl rfl rfl
      ·refine Qac h (fun hb h=>?_) (fun hb h=>?_)
       ·refine Qr6 h (fun h=>?_);refine TL.le (τ := Qei p0 (wr (v1+2)) (v6++[9])) ?_ ((iQdf (wr (v1+2)) (v6++[9]) _ h));exact Le.tz 0 0 rfl rfl rfl
       ·refine Qaj h (fun o8 ho hk=>?_);refine Exists.intro (JP1 _ _ o8 .normal (Q2g p0 v1 v6)) (And.intro ?_ (Qa5 ?_))
        ·have h:=ho;refine Qac h (fun hb h=>?_) (fun hb h=>?_)
         ·refine JP1.a h ?_;exact Le.tz 0 0 rfl rfl rfl
         ·refine JP1.a h ?_;exact Le.tz 0 0 rfl rfl rfl
        ·have h:=hk;refine Qac h (fun hb h=>?_) (fun hb h=>?_)
         ·refine Qi2 (some (wr (v1+1))) (some (wr (v1+2))) h (fun x9 hi h=>?_);refine Qr6 h (fun h=>?_);refine TL.le (τ := Qei p0 (wr (v1+2)) (v6++x9)) ?_ ((iQdf (wr (v1+2)) (v6++x9) _ h));exact Le.tz 0 0 rfl rfl rfl
         ·exact JP2.b h (Le.tz 0 0 rfl rfl rfl)
   ·refine Qam [sV p0,iV v1] Qmo h (fun x10 hy=>(Q14 p0 v1 x10 hy)) (fun x10 hy h=>?_);refine Qaj h (fun o11 ho hk=>?_);refine Exists.intro (JP1 _ _ o11 .normal (Q2h p0 v1 v6 x10)) (And.intro ?_ (Qa5 ?_))
    ·have h:=ho;refine Qac h (fun hb h=>?_) (fun hb h=>?_)
     ·refine bT ?_;refine JP1.a h ?_;exact Le.tz 0 0 rfl rfl rfl
     ·refine Qac h (fun hb h=>?_) (fun hb h=>?_)
      ·refine JP1.a h ?_;exact Le.tz 0 0 rfl rfl rfl
      ·refine Qac h (fun hb h=>?_) (fun hb h=>?_)
       ·refine JP1.a h ?_;exact Le.tz 0 0 rfl rfl rfl
       ·refine JP1.a h ?_;exact Le.tz 0 0 rfl rfl rfl
    ·have h:=hk;refine Qac h (fun hb h=>?_) (fun hb h=>?_)
     ·exact JP2.b h (Le.tz 0 0 rfl rfl rfl)
     ·refine Qi2 (some v1) (some (wr (v1+x10.2))) h (fun x12 hi h=>?_);refine Qr6 h (fun h=>?_);refine TL.le (τ := Qei p0 (wr (v1+x10.2)) (v6++x12)) ?_ ((iQdf (wr (v1+x10.2)) (v6++x12) _ h));exact Le.tz 0 0 rfl rfl rfl
 ·exact JP2.a h (Le.tz 0 0 rfl rfl rfl)
def Qmr (p0:(List UInt8)) (p1:Int):Option ((List UInt8)×Int) :=
 (Qdf p0 (wr (p1+1)) [])>>=fun o1 =>
 match o1 with
 | .inl y2 =>
  some ([],(-1))
 | .inr y3 =>
  some (y3.1,y3.2)
theorem Q8n:∀ (p0:(List UInt8)) (p1:Int) (o:(List UInt8)×Int),Qmr p0 p1=some o→PCall Tryz.prog 159 [sV p0,iV p1] (Qoa o):=by
 intro p0 p1 o h;unfold Qmr at h;refine PCall.ofB mixed tbOk Qw7 Tryz.func159 rfl (by kernel_rfl) (Nat.le_of_ble_eq_true rfl) ?_;refine Qaj h (fun o1 ho hk=>?_);refine Exists.intro (JP2 _ _ o1 (.exit 0) (Qrh p0) .ret (Qri p0)) (And.intro (Qhn (τ := Qei p0 (wr (p1+1)) []) ?_ (TL.loop (Qag1 p0 (wr (p1+1)) [] o1 ho))) (Qfx (fun y2 hy=>?_) (fun y3 hy=>?_)))
 ·exact Le.tz 0 0 rfl rfl rfl
 ·have h:=(by rw[hy] at hk; exact hk);refine Qar (t:=Qoa) h ?_;exact .refl _
 ·have h:=(by rw[hy] at hk; exact hk);refine Qar (t:=Qoa) h ?_;exact .refl _
def Qyf (p0:(List UInt8)) (p1:Int):Option (Qai×Bool) :=
 idx p0 p1>>=fun x1 =>
 Qe4 p0 [125,125] p1>>=fun x2 =>
 if x2 then
  some ((Qai.mk 3 [] 0 p1 (wr (p1+2))),true)
 else
  (Qkt p0 p1 x1 0)>>=fun o3 =>
  match o3 with
  | .inl y4 =>
   if((x1.toNat:Int)==34) then
    Qmr p0 p1>>=fun x8 =>
    some ((Qai.mk 5 x8.1 0 p1 x8.2),(decide (x8.2>0)))
   else
    Qf0 (x1.toNat:Int)>>=fun x9 =>
    if x9 then
     (Qku p0 p1 (wr (p1+1)))>>=fun o10 =>
     cutL p0 p1 o10>>=fun x17 =>
     cutL p0 p1 o10>>=fun x18 =>
     Qh6 x18>>=fun x19 =>
     some ((Qai.mk 4 x17 0 p1 o10),x19)
    else
     ( if((x1.toNat:Int)==45) then
       some true
      else
       Qfz (x1.toNat:Int)>>=fun x21 =>
       some x21:Option (Bool))>>=fun o20 =>
     if o20 then
      (Qkv p0 p1 (wr (p1+1)))>>=fun o22 =>
      cutL p0 p1 o22>>=fun x26 =>
      Qt8 x26>>=fun x27 =>
      some ((Qai.mk 6 [] x27.1 p1 o22),x27.2)
     else
      some ((Qai.mk 0 [] 0 p1 (wr (p1+1))),false)
  | .inr y5 =>
   some ((Qai.mk y5.1 [] 0 p1 (wr (p1+1))),true)
theorem Qag2:∀ (p0:(List UInt8)) (p1:Int) (o:Qai×Bool),Qyf p0 p1=some o→PCall Tryz.prog 142 [sV p0,iV p1] (Qll o):=by
 intro p0 p1 o h;unfold Qyf at h;refine PCall.ofB mixed tbOk Qt7 Tryz.func142 rfl (by kernel_rfl) (Nat.le_of_ble_eq_true rfl) ?_;refine Qdg h (fun x1 hi h=>?_);refine Qam [sV p0,sV [125,125],iV p1] Qir h (fun x2 hy=>(Qmf p0 [125,125] p1 x2 hy)) (fun x2 hy h=>?_);refine Qac h (fun hb h=>?_) (fun hb h=>?_)
 ·refine Qar (t:=Qll) h ?_;exact .refl _
 ·refine Qaj h (fun o3 ho hk=>?_);refine Exists.intro (JP2 _ _ o3 (.exit 0) (Qw3 p0 p1 x1) .ret (Qw4 p0 p1 x1)) (And.intro (Qhn (τ := Qqp p0 p1 x1 0) ?_ (TL.loop (Qakn p0 p1 x1 0 o3 ho))) (Qfx (fun y4 hy=>?_) (fun y5 hy=>?_)))
  ·exact Le.tz 2 0 rfl rfl rfl
  ·have h:=(by rw[hy] at hk; exact hk);refine Qac h (fun hb h=>?_) (fun hb h=>?_)
   ·refine Qam [sV p0,iV p1] Qoa h (fun x8 hy=>(Q8n p0 p1 x8 hy)) (fun x8 hy h=>?_);refine Qar (t:=Qll) h ?_;exact .refl _
   ·refine Qam [nV .u8 (x1.toNat:Int)] Qkd h (fun x9 hy=>(Qn8 (x1.toNat:Int) x9 hy)) (fun x9 hy h=>?_);refine Qac h (fun hb h=>?_) (fun hb h=>?_)
    ·refine Qaj h (fun o10 ho hk=>?_);refine Exists.intro (JP1 _ _ o10 (.exit 2) (Qw5 p0 p1)) (And.intro (Qhn (τ := Qqq p0 p1 (wr (p1+1))) ?_ (TL.loop (Qako p0 p1 (wr (p1+1)) o10 ho))) (Qa5 ?_))
     ·exact Le.tz 2 0 rfl rfl rfl
     have h:=hk;refine And.intro (by decide +kernel) (And.intro rfl ?_);refine Qi2 (some p1) (some o10) h (fun x17 hi h=>?_);refine Qi2 (some p1) (some o10) h (fun x18 hi h=>?_);refine Qdm [sV x18] Qhf h (fun x19 hy=>(Qni x18 x19 hy)) (fun x19 hy h=>?_);refine Qar (t:=Qll) h ?_;exact .refl _
    ·refine Qaj h (fun o20 ho hk=>?_);refine Exists.intro (JP1 _ _ o20 .normal (Qabx p0 p1)) (And.intro ?_ (Qa5 ?_))
     ·have h:=ho;refine Qac h (fun hb h=>?_) (fun hb h=>?_)
      ·refine JP1.a h ?_;exact Le.tz 2 0 rfl rfl rfl
      ·refine Qam [nV .u8 (x1.toNat:Int)] Qkc h (fun x21 hy=>(Qn7 (x1.toNat:Int) x21 hy)) (fun x21 hy h=>?_);refine JP1.a h ?_;exact Le.tz 2 0 rfl rfl rfl
     ·have h:=hk;refine Qac h (fun hb h=>?_) (fun hb h=>?_)
      ·refine Qaj h (fun o22 ho hk=>?_);refine Exists.intro (JP1 _ _ o22 (.exit 4) (Qw6 p0 p1)) (And.intro (Qhn (τ := Qqr p0 p1 (wr (p1+1))) ?_ (TL.loop (Qakp p0 p1 (wr (p1+1)) o22 ho))) (Qa5 ?_))
       ·exact Le.tz 2 0 rfl rfl rfl
       have h:=hk;refine Qi2 (some p1) (some o22) h (fun x26 hi h=>?_);refine Qam [sV x26] Qy5 h (fun x27 hy=>(Q8m x26 x27 hy)) (fun x27 hy h=>?_);refine Qar (t:=Qll) h ?_;exact .refl _
      ·refine Qar (t:=Qll) h ?_;exact .refl _
  ·have h:=(by rw[hy] at hk; exact hk);refine Qar (t:=Qll) h ?_;exact .refl _
def Qfr (p0:(List UInt8)) (v5_:(List Qai)) (v6_:Int):Option (((List Qai)×Int)⊕Int) :=
 Qks p0 v6_>>=fun x16 =>
 if(x16==(p0.length:Int)) then
  some (.inr x16)
 else
  Qyf p0 x16>>=fun x17 =>
  if(!x17.2) then
   some (.inr x16)
  else
   appL 48 v5_ [x17.1]>>=fun x18 =>
   if(x17.1.Kind==3) then
    some (.inl (x18,x17.1.To))
   else
    Qfr p0 x18 x17.1.To
 partial_fixpoint
theorem Qag3:∀ (p0:(List UInt8)),(∀ (v5_:(List Qai)) (v6_:Int) (o13:((List Qai)×Int)⊕Int),Qfr p0 v5_ v6_=some o13→TL (0,0) Tryz.prog 83 Q2a (JP2 (0,0) 83 o13 (.exit 2) (Qrc p0) .ret (Qrd p0)) (Ql5 p0 v5_ v6_)):=by
 intro p0;refine Qfr.partial_correctness p0 _ ?_;intro Qfr' iQfr v5_ v6_ o13 h;refine TL.round (Qaq mixed tbOk (lv:=Qqo) _ _ _ ?_);refine Qam [sV p0,iV v6_] Qn9 h (fun x16 hy=>(Qxh p0 v6_ x16 hy)) (fun x16 hy h=>?_);refine vrfl ?_;refine Qac h (fun hb h=>?_) (fun hb h=>?_)
 ·exact JP2.b h (Le.tz 0 0 rfl rfl rfl)
 ·refine Qam [sV p0,iV x16] Qll h (fun x17 hy=>(Qag2 p0 x16 x17 hy)) (fun x17 hy h=>?_);refine Qac h (fun hb h=>?_) (fun hb h=>?_)
  ·exact JP2.b h (Le.tz 0 0 rfl rfl rfl)
  ·refine Qlv (a:=v5_) (b:=[x17.1]) (c:=Qah) h (.refl _) (fun _=>rfl) rfl (fun x18 hi h=>?_);refine Qac h (fun hb h=>?_) (fun hb h=>?_)
   ·exact JP2.a h (Le.tz 0 1 rfl rfl rfl)
   ·refine TL.le (τ := Ql5 p0 x18 x17.1.To) ?_ ((iQfr x18 x17.1.To _ h));exact Le.tz 0 1 rfl rfl rfl
def Qii (p0:(List UInt8)) (p1:(List UInt8)) (v2:Int):Option (Int) :=
 ( if(decide (v2<(p0.length:Int))) then
   Qe4 p0 p1 v2>>=fun x3 =>
   some (!x3)
  else
   some false:Option (Bool))>>=fun o2 =>
 if o2 then
  Qii p0 p1 (wr (v2+1))
 else
  some v2
 partial_fixpoint
theorem Qajp:∀ (p0:(List UInt8)) (p1:(List UInt8)),(∀ (v2:Int) (o1:Int),Qii p0 p1 v2=some o1→TL (0,0) Tryz.prog 21 Q8j (JP1 (0,0) 21 o1 (.exit 0) (Qvg p0 p1)) (Qoz p0 p1 v2)):=by
 intro p0 p1;refine Qii.partial_correctness p0 p1 _ ?_;intro Qii' iQii v2 o1 h;refine TL.round (Qaq mixed tbOk (lv:=Q2e) _ _ _ ?_);refine Qaj h (fun o2 ho hk=>?_);refine Exists.intro (JP1 _ _ o2 .normal (Q8i p0 p1 v2)) (And.intro ?_ (Qa5 ?_))
 ·have h:=ho;refine vrfl ?_;refine Qac h (fun hb h=>?_) (fun hb h=>?_)
  ·refine Qam [sV p0,sV p1,iV v2] Qir h (fun x3 hy=>(Qmf p0 p1 v2 x3 hy)) (fun x3 hy h=>?_);refine JP1.a h ?_;exact Le.tz 0 0 rfl rfl rfl
  ·refine JP1.a h ?_;exact Le.tz 0 0 rfl rfl rfl
 ·have h:=hk;refine Qac h (fun hb h=>?_) (fun hb h=>?_)
  ·refine TL.le (τ := Qoz p0 p1 (wr (v2+1))) ?_ ((iQii (wr (v2+1)) _ h));exact Le.tz 0 0 rfl rfl rfl
  ·exact JP1.a h (Le.tz 0 0 rfl rfl rfl)
def Qqt (p0:(List UInt8)) (p1:(List UInt8)) (p2:Int):Option (Int) :=
 (Qii p0 p1 p2)>>=fun o1 =>
 some o1
theorem Q2k:∀ (p0:(List UInt8)) (p1:(List UInt8)) (p2:Int) (o:Int),Qqt p0 p1 p2=some o→PCall Tryz.prog 139 [sV p0,sV p1,iV p2] (Qt6 o):=by
 intro p0 p1 p2 o h;unfold Qqt at h;refine PCall.ofB mixed tbOk Q2e Tryz.func139 rfl (by kernel_rfl) (Nat.le_of_ble_eq_true rfl) ?_;refine Qaj h (fun o1 ho hk=>?_);refine Exists.intro (JP1 _ _ o1 (.exit 0) (Qvg p0 p1)) (And.intro (Qhn (τ := Qoz p0 p1 p2) ?_ (TL.loop (Qajp p0 p1 p2 o1 ho))) (Qa5 ?_))
 ·exact Le.tz 0 0 rfl rfl rfl
 have h:=hk;refine Qar (t:=Qt6) h ?_;exact .refl _
def Qfs (p0:(List UInt8)) (v5:(List Qai)) (v6:Int):Option ((List Qai)⊕((List Qai)×Int×Int)) :=
 if(decide (v6<(p0.length:Int))) then
  Qqt p0 [123,123] v6>>=fun x4 =>
  ( if(decide (x4>v6)) then
    cutL p0 v6 x4>>=fun x6 =>
    appL 48 v5 [(Qai.mk 1 x6 0 v6 x4)]>>=fun x7 =>
    some x7
   else
    some v5:Option ((List Qai)))>>=fun o5 =>
  if(x4==(p0.length:Int)) then
   some (.inr (o5,0,0))
  else
   appL 48 o5 ([(Qai.mk 2 [] 0 x4 (wr (x4+2)))])>>=fun x8 =>
   Qks p0 (wr (x4+2))>>=fun x9 =>
   ( Qe4 p0 [35] x9>>=fun x11 =>
    if x11 then
     Qqt p0 [125,125] x9>>=fun x12 =>
     some x12
    else
     some x9:Option (Int))>>=fun o10 =>
   (Qfr p0 x8 o10)>>=fun o13 =>
   match o13 with
   | .inl y14 =>
    Qfs p0 y14.1 y14.2
   | .inr y15 =>
    some (.inr ([],y15,7))
 else
  some (.inl v5)
 partial_fixpoint
theorem Qag4:∀ (p0:(List UInt8)),(∀ (v5:(List Qai)) (v6:Int) (o1:(List Qai)⊕((List Qai)×Int×Int)),Qfs p0 v5 v6=some o1→TL (0,0) Tryz.prog 83 Q2b (JP2 (0,0) 83 o1 (.exit 0) (Qre p0) .ret (Qrf p0)) (Ql6 p0 v5 v6)):=by
 intro p0;refine Qfs.partial_correctness p0 _ ?_;intro Qfs' iQfs v5 v6 o1 h;refine TL.round (Qaq mixed tbOk (lv:=Qqo) _ _ _ ?_);refine vrfl ?_;refine Qac h (fun hb h=>?_) (fun hb h=>?_)
 ·refine Qam [sV p0,sV [123,123],iV v6] Qt6 h (fun x4 hy=>(Q2k p0 [123,123] v6 x4 hy)) (fun x4 hy h=>?_);refine Qaj h (fun o5 ho hk=>?_);refine Exists.intro (JP1 _ _ o5 .normal (Q18 p0 x4)) (And.intro ?_ (Qa5 ?_))
  ·have h:=ho;refine Qac h (fun hb h=>?_) (fun hb h=>?_)
   ·refine Qi2 (some v6) (some x4) h (fun x6 hi h=>?_);refine Qlv (a:=v5) (b:=[(Qai.mk 1 x6 0 v6 x4)]) (c:=Qah) h (.refl _) (fun _=>rfl) rfl (fun x7 hi h=>?_);refine JP1.a h ?_;exact Le.tz 0 1 rfl rfl rfl
   ·refine JP1.a h ?_;exact Le.tz 0 1 rfl rfl rfl
  ·have h:=hk;refine vrfl ?_;refine Qac h (fun hb h=>?_) (fun hb h=>?_)
   ·exact JP2.b h (Le.tz 0 0 rfl rfl rfl)
   ·refine Qlv (a:=o5) (b:=[(Qai.mk 2 [] 0 x4 (wr (x4+2)))]) (c:=Qah) h (.refl _) (fun _=>rfl) rfl (fun x8 hi h=>?_);refine Qam [sV p0,iV (wr (x4+2))] Qn9 h (fun x9 hy=>(Qxh p0 (wr (x4+2)) x9 hy)) (fun x9 hy h=>?_);refine Qaj h (fun o10 ho hk=>?_);refine Exists.intro (JP1 _ _ o10 .normal (Q19 p0 x8)) (And.intro ?_ (Qa5 ?_))
    ·have h:=ho;refine Qam [sV p0,sV [35],iV x9] Qir h (fun x11 hy=>(Qmf p0 [35] x9 x11 hy)) (fun x11 hy h=>?_);refine Qac h (fun hb h=>?_) (fun hb h=>?_)
     ·refine Qam [sV p0,sV [125,125],iV x9] Qt6 h (fun x12 hy=>(Q2k p0 [125,125] x9 x12 hy)) (fun x12 hy h=>?_);refine JP1.a h ?_;exact Le.tz 0 1 rfl rfl rfl
     ·refine JP1.a h ?_;exact Le.tz 0 1 rfl rfl rfl
    ·have h:=hk;refine Qaj h (fun o13 ho hk=>?_);refine Exists.intro (JP2 _ _ o13 (.exit 2) (Qrc p0) .ret (Qrd p0)) (And.intro (Qhn (τ := Ql5 p0 x8 o10) ?_ (TL.loop (Qag3 p0 x8 o10 o13 ho))) (Qfx (fun y14 hy=>?_) (fun y15 hy=>?_)))
     ·exact Le.tz 0 1 rfl rfl rfl
     ·have h:=(by rw[hy] at hk; exact hk);refine TL.le (τ := Ql6 p0 y14.1 y14.2) ?_ ((iQfs y14.1 y14.2 _ h));exact Le.tz 0 1 rfl rfl rfl
     ·have h:=(by rw[hy] at hk; exact hk);exact JP2.b h (Le.tow 0 0 rfl (.cons rfl (.p (.not)) (.cons rfl (.refl _) (.cons rfl (.refl _) (.nil)))) (.refl _) rfl)
 ·exact JP2.a h (Le.tz 0 1 rfl rfl rfl)
def Qms (p0:(List UInt8)):Option ((List Qai)×Int×Int) :=
 if(decide ((p0.length:Int)>65536)) then
  some ([],0,6)
 else
  (Qfs p0 [] 0)>>=fun o1 =>
  match o1 with
  | .inl y2 =>
   some (y2,0,0)
  | .inr y3 =>
   some (y3.1,y3.2.1,y3.2.2)
theorem Q8o:∀ (p0:(List UInt8)) (o:(List Qai)×Int×Int),Qms p0=some o→PCall Tryz.prog 115 [sV p0] (Qlk o):=by
 intro p0 o h;unfold Qms at h;refine PCall.ofB mixed tbOk Qqo Tryz.func115 rfl (by kernel_rfl) (Nat.le_of_ble_eq_true rfl) ?_;refine vrfl ?_;refine Qac h (fun hb h=>?_) (fun hb h=>?_)
 ·refine Qar (t:=Qlk) h ?_;exact .tup (xs:=[.sl true [],iV 0,iV 6]) (ys:=[.sl false [],iV 0,iV 6]) (.cons (.not) (.cons (.refl _) (.cons (.refl _) (.nil))))
 ·refine Qaj h (fun o1 ho hk=>?_);refine Exists.intro (JP2 _ _ o1 (.exit 0) (Qre p0) .ret (Qrf p0)) (And.intro (Qhn (τ := Ql6 p0 [] 0) ?_ (TL.loop (Qag4 p0 [] 0 o1 ho))) (Qfx (fun y2 hy=>?_) (fun y3 hy=>?_)))
  ·exact Le.trans (τ := ⟨[(0,.p (sV p0)),(5,.p (.sl true [])),(6,.p (iV 0))],⟨[],[]⟩⟩) (Le.tz 0 0 rfl rfl rfl) ((Le.own 5 147 5 rfl Q1c).trans (Le.tz 0 1 rfl rfl rfl))
  ·have h:=(by rw[hy] at hk; exact hk);refine Qar (t:=Qlk) h ?_;exact .refl _
  ·have h:=(by rw[hy] at hk; exact hk);refine Qar (t:=Qlk) h ?_;exact .refl _
def Qat (p1:Int) (h0_0:(List Qai)) (h0_1:Int) (h0_2:Bool):Option (Bool) :=
 ( if(!h0_2) then
   if(decide (h0_1<(h0_0.length:Int))) then
    idx h0_0 h0_1>>=fun x2 =>
    some (x2.Kind==p1)
   else
    some false
  else
   some false:Option (Bool))>>=fun o1 =>
 some o1
theorem Qa3:∀ (p1:Int) (h0_0:(List Qai)) (h0_1:Int) (h0_2:Bool) (o:Bool),Qat p1 h0_0 h0_1 h0_2=some o→CallOK Tryz.prog 143 [.ptr 0 0,.p (iV p1)] ⟨[[.p (.sl false (h0_0.map Qah)),.p (iV h0_1),.p (bV h0_2)]],[]⟩ (Qd8 o) ⟨[[.p (.sl false (h0_0.map Qah)),.p (iV h0_1),.p (bV h0_2)]],[]⟩:=by
 intro p1 h0_0 h0_1 h0_2 o h;unfold Qat at h;refine CallOK.ofB mixed tbOk Qzp Tryz.func143 rfl (by kernel_rfl) (Nat.le_of_ble_eq_true rfl) rfl rfl rfl ?_;refine Qaj h (fun o1 ho hk=>?_);refine Exists.intro (JP1 _ _ o1 .normal (Qw8 h0_0 h0_1 h0_2)) (And.intro ?_ (Qa5 ?_))
 ·have h:=ho;refine And.intro (by decide +kernel) (And.intro rfl ?_);refine Qac h (fun hb h=>?_) (fun hb h=>?_)
  ·refine view (Qax _ _) rfl ?_;refine Qac h (fun hb h=>?_) (fun hb h=>?_)
   ·refine Qa7 (l:=h0_0) (c:=Qah) (c' := Qah) h (fun _=>rfl) (fun _=>rfl) (by decide) (fun x2 hi h=>?_);refine JP1.a h ?_;exact Le.tz 1 0 rfl rfl rfl
   ·refine JP1.a h ?_;exact Le.tz 1 0 rfl rfl rfl
  ·refine bF ?_;refine JP1.a h ?_;exact Le.tz 1 0 rfl rfl rfl
 ·have h:=hk;refine Exists.intro _ (And.intro (Le.refl _ _ _) ?_);exact Qbb (t:=Qd8) (ss:=fun o=>⟨[[.p (.sl false (h0_0.map Qah)),.p (iV h0_1),.p (bV h0_2)]],[]⟩) h ⟨[],rfl,.refl _,.refl _,rfl⟩
def Qb8 (p1:(List UInt8)) (h0_0:(List Qai)) (h0_1:Int) (h0_2:Bool):Option (Bool) :=
 ( Qat 2 h0_0 h0_1 h0_2>>=fun x2 =>
  if x2 then
   if(decide ((wr (h0_1+1))<(h0_0.length:Int))) then
    idx h0_0 (wr (h0_1+1))>>=fun x3 =>
    if(x3.Kind==4) then
     idx h0_0 (wr (h0_1+1))>>=fun x4 =>
     some (x4.Text==p1)
    else
     some false
   else
    some false
  else
   some false:Option (Bool))>>=fun o1 =>
 some o1
theorem Qft:∀ (p1:(List UInt8)) (h0_0:(List Qai)) (h0_1:Int) (h0_2:Bool) (o:Bool),Qb8 p1 h0_0 h0_1 h0_2=some o→CallOK Tryz.prog 145 [.ptr 0 0,.p (sV p1)] ⟨[[.p (.sl false (h0_0.map Qah)),.p (iV h0_1),.p (bV h0_2)]],[]⟩ (Qob o) ⟨[[.p (.sl false (h0_0.map Qah)),.p (iV h0_1),.p (bV h0_2)]],[]⟩:=by
 intro p1 h0_0 h0_1 h0_2 o h;unfold Qb8 at h;refine CallOK.ofB mixed tbOk Qv2 Tryz.func145 rfl (by kernel_rfl) (Nat.le_of_ble_eq_true rfl) rfl rfl rfl ?_;refine Qaj h (fun o1 ho hk=>?_);refine Exists.intro (JP1 _ _ o1 .normal (Qtb h0_0 h0_1 h0_2)) (And.intro ?_ (Qa5 ?_))
 ·have h:=ho;refine And.intro (by decide +kernel) (And.intro rfl ?_);refine Qqg (fun x2=>(Qd8 x2).ren [0] []) h (fun x2 hy=>(Qa3 2 h0_0 h0_1 h0_2 x2 hy).fd rfl rfl [0] rfl rfl) (fun x2 hy h=>?_);refine Qac h (fun hb h=>?_) (fun hb h=>?_)
  ·refine view (Qax _ _) rfl ?_;refine Qac h (fun hb h=>?_) (fun hb h=>?_)
   ·refine Qa7 (l:=h0_0) (c:=Qah) (c' := Qah) h (fun _=>rfl) (fun _=>rfl) (by decide) (fun x3 hi h=>?_);refine Qac h (fun hb h=>?_) (fun hb h=>?_)
    ·refine Qa7 (l:=h0_0) (c:=Qah) (c' := Qah) h (fun _=>rfl) (fun _=>rfl) (by decide) (fun x4 hi h=>?_);refine JP1.a h ?_;exact Le.tz 1 0 rfl rfl rfl
    ·refine JP1.a h ?_;exact Le.tz 1 0 rfl rfl rfl
   ·refine bF ?_;refine JP1.a h ?_;exact Le.tz 1 0 rfl rfl rfl
  ·refine bF ?_;refine bF ?_;refine JP1.a h ?_;exact Le.tz 1 0 rfl rfl rfl
 ·have h:=hk;refine Exists.intro _ (And.intro (Le.refl _ _ _) ?_);exact Qbb (t:=Qob) (ss:=fun o=>⟨[[.p (.sl false (h0_0.map Qah)),.p (iV h0_1),.p (bV h0_2)]],[]⟩) h ⟨[],rfl,.refl _,.refl _,rfl⟩
def Qak (p1:Bool) (h0_0:(List Qai)) (h0_1:Int) (h0_2:Bool):Option (Qai×Int×Bool) :=
 ( if(!p1) then
   some true
  else
   some h0_2:Option (Bool))>>=fun o1 =>
 if o1 then
  some ((Qai.mk 0 [] 0 0 0),h0_1,true)
 else
  idx h0_0 (wr ((wr (h0_1+1))-1))>>=fun x2 =>
  some (x2,(wr (h0_1+1)),h0_2)
theorem Qas:∀ (p1:Bool) (h0_0:(List Qai)) (h0_1:Int) (h0_2:Bool) (o:Qai×Int×Bool),Qak p1 h0_0 h0_1 h0_2=some o→CallOK Tryz.prog 144 [.ptr 0 0,.p (bV p1)] ⟨[[.p (.sl false (h0_0.map Qah)),.p (iV h0_1),.p (bV h0_2)]],[]⟩ (Qko o) ⟨[[.p (.sl false (h0_0.map Qah)),.p (iV o.2.1),.p (bV o.2.2)]],[]⟩:=by
 intro p1 h0_0 h0_1 h0_2 o h;unfold Qak at h;refine CallOK.ofB mixed tbOk Qxa Tryz.func144 rfl (by kernel_rfl) (Nat.le_of_ble_eq_true rfl) rfl rfl rfl ?_;refine Qaj h (fun o1 ho hk=>?_);refine Exists.intro (JP1 _ _ o1 .normal (Qup h0_0 h0_1 h0_2)) (And.intro ?_ (Qa5 ?_))
 ·have h:=ho;refine Qac h (fun hb h=>?_) (fun hb h=>?_)
  ·refine JP1.a h ?_;exact Le.tz 2 0 rfl rfl rfl
  ·refine JP1.a h ?_;exact Le.tz 2 0 rfl rfl rfl
 ·have h:=hk;refine Qac h (fun hb h=>?_) (fun hb h=>?_)
  ·refine Exists.intro _ (And.intro (Le.refl _ _ _) ?_);exact Qbb (t:=Qko) (ss:=fun o=>⟨[[.p (.sl false (h0_0.map Qah)),.p (iV o.2.1),.p (bV o.2.2)]],[]⟩) h ⟨[],rfl,.refl _,.refl _,rfl⟩
  ·refine And.intro (by decide +kernel) (And.intro rfl ?_);refine Qa7 (l:=h0_0) (c:=Qah) (c' := Qah) h (fun _=>rfl) (fun _=>rfl) (by decide) (fun x2 hi h=>?_);refine Exists.intro _ (And.intro (Le.refl _ _ _) ?_);exact Qbb (t:=Qko) (ss:=fun o=>⟨[[.p (.sl false (h0_0.map Qah)),.p (iV o.2.1),.p (bV o.2.2)]],[]⟩) h ⟨[],rfl,.refl _,.refl _,rfl⟩
instance Q89:Lean.Order.CCPO ((List Qab)→(List Qab)→(List Qab)→Option ((Int×Bool×Int×(List UInt8)×(List UInt8)×Int×(List Qab)×(List Qab)×(List Qab)))):=inferInstance
instance Q9a:Lean.Order.CCPO ((List UInt8)→(List UInt8)→Int→(List Qab)→(List Qab)→(List Qab)→Option ((Int×Bool×Int×(List UInt8)×(List UInt8)×Int×(List Qab)×(List Qab)×(List Qab)))):=inferInstance
def Qcv (h0_0:(List Qai)) (h0_1_:Int) (h0_2_:Bool) (h2_0:Int) (h2_1:(List UInt8)) (h2_2:(List UInt8)) (h2_3:Int) (h2_4:(List Qab)) (h2_5:(List Qab)) (h2_6:(List Qab)):Option ((Int×Bool×Int×(List UInt8)×(List UInt8)×Int×(List Qab)×(List Qab)×(List Qab))) :=
 Qat 7 h0_0 h0_1_ h0_2_>>=fun x3 =>
 if x3 then
  Qak true h0_0 h0_1_ h0_2_>>=fun x4 =>
  Qat 4 h0_0 x4.2.1 x4.2.2>>=fun x5 =>
  Qak x5 h0_0 x4.2.1 x4.2.2>>=fun x6 =>
  Qcv h0_0 x6.2.1 x6.2.2 5 x6.1.Text [] 0 [(Qab.mk h2_0 h2_1 h2_2 h2_3 h2_4 h2_5 h2_6)] [] []
 else
  some (h0_1_,h0_2_,h2_0,h2_1,h2_2,h2_3,h2_4,h2_5,h2_6)
 partial_fixpoint
theorem Q9b:∀ (h0_0:(List Qai)),(∀ (h0_1_:Int) (h0_2_:Bool) (h2_0:Int) (h2_1:(List UInt8)) (h2_2:(List UInt8)) (h2_3:Int) (h2_4:(List Qab)) (h2_5:(List Qab)) (h2_6:(List Qab)) (o2:(Int×Bool×Int×(List UInt8)×(List UInt8)×Int×(List Qab)×(List Qab)×(List Qab))),Qcv h0_0 h0_1_ h0_2_ h2_0 h2_1 h2_2 h2_3 h2_4 h2_5 h2_6=some o2→TL (1,0) Tryz.prog 19 Qum (JP1 (1,0) 19 o2 (.exit 0) (Qlm h0_0)) (Qg4 h0_0 h0_1_ h0_2_ h2_0 h2_1 h2_2 h2_3 h2_4 h2_5 h2_6)):=by
 intro h0_0;refine Qcv.partial_correctness h0_0 _ ?_;intro Qcv' iQcv h0_1_ h0_2_ h2_0 h2_1 h2_2 h2_3 h2_4 h2_5 h2_6 o2 h;refine TL.round (Qaq mixed tbOk (lv:=Qoc) _ _ _ ?_);refine Qap _ _ h (fun x3 hy=>((Qa3 7 h0_0 h0_1_ h0_2_ x3 hy).fr [0] [] rfl rfl rfl)) (fun x3 hy h=>?_);refine Qac h (fun hb h=>?_) (fun hb h=>?_)
 ·refine Qap _ _ h (fun x4 hy=>((Qas true h0_0 h0_1_ h0_2_ x4 hy).fr [0] [] rfl rfl rfl)) (fun x4 hy h=>?_);refine And.intro (by decide +kernel) (And.intro rfl ?_);refine Qqg (fun x5=>(Qd8 x5).ren [0] []) h (fun x5 hy=>(Qa3 4 h0_0 x4.2.1 x4.2.2 x5 hy).fd rfl rfl [0] rfl rfl) (fun x5 hy h=>?_);refine Qt2 _ _ h (fun x6 hy=>((Qas x5 h0_0 x4.2.1 x4.2.2 x6 hy).fg [0] [] rfl rfl rfl (Nat.le_of_ble_eq_true rfl))) (fun x6 hy h=>?_);refine TL.le (τ := Qg4 h0_0 x6.2.1 x6.2.2 5 x6.1.Text [] 0 [(Qab.mk h2_0 h2_1 h2_2 h2_3 h2_4 h2_5 h2_6)] [] []) ?_ ((iQcv x6.2.1 x6.2.2 5 x6.1.Text [] 0 [(Qab.mk h2_0 h2_1 h2_2 h2_3 h2_4 h2_5 h2_6)] [] [] _ h));exact Le.tow 3 0 rfl (.cons rfl (.refl _) (.cons rfl (.refl _) (.cons rfl (.refl _) (.nil)))) (.cons (.refl _) (.cons (.refl _) (.cons (.cons (.refl _) (.cons (.refl _) (.cons (.refl _) (.cons (.refl _) (.cons (.p (.no (.cons (.ceq (Qan _) (.refl _)) (.nil)))) (.cons (.p (.not)) (.cons (.p (.not)) (.nil)))))))) (.nil)))) rfl
 ·exact JP1.a h (Le.tz 3 0 rfl rfl rfl)
def Qdi (h0_0:(List Qai)) (h0_1:Int) (h0_2:Bool):Option ((List UInt8)×Int×Bool) :=
 ( Qat 4 h0_0 h0_1 h0_2>>=fun x2 =>
  if x2 then
   idx h0_0 h0_1>>=fun x3 =>
   Qhi x3.Text>>=fun x4 =>
   Qak x4 h0_0 h0_1 h0_2>>=fun x5 =>
   some (x5.1.Text,x5.2.1,x5.2.2)
  else
   Qak false h0_0 h0_1 h0_2>>=fun x6 =>
   some (x6.1.Text,x6.2.1,x6.2.2):Option (((List UInt8)×Int×Bool)))>>=fun o1 =>
 some (o1.1,o1.2.1,o1.2.2)
theorem Qjl:∀ (h0_0:(List Qai)) (h0_1:Int) (h0_2:Bool) (o:(List UInt8)×Int×Bool),Qdi h0_0 h0_1 h0_2=some o→CallOK Tryz.prog 165 [.ptr 0 0] ⟨[[.p (.sl false (h0_0.map Qah)),.p (iV h0_1),.p (bV h0_2)]],[]⟩ (Qpx o) ⟨[[.p (.sl false (h0_0.map Qah)),.p (iV o.2.1),.p (bV o.2.2)]],[]⟩:=by
 intro h0_0 h0_1 h0_2 o h;unfold Qdi at h;refine CallOK.ofB mixed tbOk Qw9 Tryz.func165 rfl (by kernel_rfl) (Nat.le_of_ble_eq_true rfl) rfl rfl rfl ?_;refine Qaj h (fun o1 ho hk=>?_);refine Exists.intro (JP1 _ _ o1 .normal (Quo h0_0)) (And.intro ?_ (Qa5 ?_))
 ·have h:=ho;refine And.intro (by decide +kernel) (And.intro rfl ?_);refine Qqg (fun x2=>(Qd8 x2).ren [0] []) h (fun x2 hy=>(Qa3 4 h0_0 h0_1 h0_2 x2 hy).fd rfl rfl [0] rfl rfl) (fun x2 hy h=>?_);refine Qac h (fun hb h=>?_) (fun hb h=>?_)
  ·refine Qa7 (l:=h0_0) (c:=Qah) (c' := Qah) h (fun _=>rfl) (fun _=>rfl) (by decide) (fun x3 hi h=>?_);refine Qdm [sV x3.Text] Qhg h (fun x4 hy=>(Qkl x3.Text x4 hy)) (fun x4 hy h=>?_);refine Qt2 _ _ h (fun x5 hy=>((Qas x4 h0_0 h0_1 h0_2 x5 hy).fg [0] [] rfl rfl rfl (Nat.le_of_ble_eq_true rfl))) (fun x5 hy h=>?_);refine JP1.a h ?_;exact Le.tz 1 0 rfl rfl rfl
  ·refine Qt2 _ _ h (fun x6 hy=>((Qas false h0_0 h0_1 h0_2 x6 hy).fg [0] [] rfl rfl rfl (Nat.le_of_ble_eq_true rfl))) (fun x6 hy h=>?_);refine JP1.a h ?_;exact Le.tz 1 0 rfl rfl rfl
 ·have h:=hk;refine Exists.intro _ (And.intro (Le.refl _ _ _) ?_);exact Qbb (t:=Qpx) (ss:=fun o=>⟨[[.p (.sl false (h0_0.map Qah)),.p (iV o.2.1),.p (bV o.2.2)]],[]⟩) h ⟨[],rfl,.refl _,.refl _,rfl⟩
def Qa4 (p1:(List UInt8)) (h0_0:(List Qai)) (h0_1:Int) (h0_2:Bool):Option (Bool) :=
 ( Qat 4 h0_0 h0_1 h0_2>>=fun x2 =>
  if x2 then
   idx h0_0 h0_1>>=fun x3 =>
   some (x3.Text==p1)
  else
   some false:Option (Bool))>>=fun o1 =>
 some o1
theorem Qbn:∀ (p1:(List UInt8)) (h0_0:(List Qai)) (h0_1:Int) (h0_2:Bool) (o:Bool),Qa4 p1 h0_0 h0_1 h0_2=some o→CallOK Tryz.prog 161 [.ptr 0 0,.p (sV p1)] ⟨[[.p (.sl false (h0_0.map Qah)),.p (iV h0_1),.p (bV h0_2)]],[]⟩ (Qpy o) ⟨[[.p (.sl false (h0_0.map Qah)),.p (iV h0_1),.p (bV h0_2)]],[]⟩:=by
 intro p1 h0_0 h0_1 h0_2 o h;unfold Qa4 at h;refine CallOK.ofB mixed tbOk Qxb Tryz.func161 rfl (by kernel_rfl) (Nat.le_of_ble_eq_true rfl) rfl rfl rfl ?_;refine Qaj h (fun o1 ho hk=>?_);refine Exists.intro (JP1 _ _ o1 .normal (Quq h0_0 h0_1 h0_2)) (And.intro ?_ (Qa5 ?_))
 ·have h:=ho;refine And.intro (by decide +kernel) (And.intro rfl ?_);refine Qqg (fun x2=>(Qd8 x2).ren [0] []) h (fun x2 hy=>(Qa3 4 h0_0 h0_1 h0_2 x2 hy).fd rfl rfl [0] rfl rfl) (fun x2 hy h=>?_);refine Qac h (fun hb h=>?_) (fun hb h=>?_)
  ·refine Qa7 (l:=h0_0) (c:=Qah) (c' := Qah) h (fun _=>rfl) (fun _=>rfl) (by decide) (fun x3 hi h=>?_);refine JP1.a h ?_;exact Le.tz 1 0 rfl rfl rfl
  ·refine JP1.a h ?_;exact Le.tz 1 0 rfl rfl rfl
 ·have h:=hk;refine Exists.intro _ (And.intro (Le.refl _ _ _) ?_);exact Qbb (t:=Qpy) (ss:=fun o=>⟨[[.p (.sl false (h0_0.map Qah)),.p (iV h0_1),.p (bV h0_2)]],[]⟩) h ⟨[],rfl,.refl _,.refl _,rfl⟩
mutual
def Qci (h0_0:(List Qai)) (h0_1:Int) (h0_2:Bool):Option (Qab×Int×Bool) :=
 Qh7 h0_0 h0_1 h0_2>>=fun x1 =>
 (Qcv h0_0 x1.2.1 x1.2.2 x1.1.Kind x1.1.Name x1.1.Text x1.1.N x1.1.L x1.1.Then x1.1.Else)>>=fun o2 =>
 some ((Qab.mk o2.2.2.1 o2.2.2.2.1 o2.2.2.2.2.1 o2.2.2.2.2.2.1 o2.2.2.2.2.2.2.1 o2.2.2.2.2.2.2.2.1 o2.2.2.2.2.2.2.2.2),o2.1,o2.2.1)
 partial_fixpoint
def Qh7 (h0_0:(List Qai)) (h0_1:Int) (h0_2:Bool):Option (Qab×Int×Bool) :=
 Qat 5 h0_0 h0_1 h0_2>>=fun x1 =>
 if x1 then
  Qak true h0_0 h0_1 h0_2>>=fun x2 =>
  some ((Qab.mk 1 [] x2.1.Text 0 [] [] []),x2.2.1,x2.2.2)
 else
  Qat 6 h0_0 h0_1 h0_2>>=fun x3 =>
  if x3 then
   Qak true h0_0 h0_1 h0_2>>=fun x4 =>
   some ((Qab.mk 2 [] [] x4.1.N [] [] []),x4.2.1,x4.2.2)
  else
   Qa4 [116,114,117,101] h0_0 h0_1 h0_2>>=fun x5 =>
   if x5 then
    Qak true h0_0 h0_1 h0_2>>=fun x6 =>
    some ((Qab.mk 3 [] [] 1 [] [] []),x6.2.1,x6.2.2)
   else
    Qa4 [102,97,108,115,101] h0_0 h0_1 h0_2>>=fun x7 =>
    if x7 then
     Qak true h0_0 h0_1 h0_2>>=fun x8 =>
     some ((Qab.mk 3 [] [] 0 [] [] []),x8.2.1,x8.2.2)
    else
     Qa4 [115,101,99,114,101,116] h0_0 h0_1 h0_2>>=fun x9 =>
     if x9 then
      Qak true h0_0 h0_1 h0_2>>=fun x10 =>
      Qat 8 h0_0 x10.2.1 x10.2.2>>=fun x11 =>
      Qak x11 h0_0 x10.2.1 x10.2.2>>=fun x12 =>
      ( Qat 5 h0_0 x12.2.1 x12.2.2>>=fun x14 =>
       if x14 then
        idx h0_0 x12.2.1>>=fun x15 =>
        Qh6 x15.Text>>=fun x16 =>
        Qak x16 h0_0 x12.2.1 x12.2.2>>=fun x17 =>
        some (x17.2.1,x17.2.2,x17.1.Kind,x17.1.Text,x17.1.N,x17.1.From,x17.1.To)
       else
        Qak false h0_0 x12.2.1 x12.2.2>>=fun x18 =>
        some (x18.2.1,x18.2.2,x18.1.Kind,x18.1.Text,x18.1.N,x18.1.From,x18.1.To):Option ((Int×Bool×Int×(List UInt8)×Int×Int×Int)))>>=fun o13 =>
      Qat 9 h0_0 o13.1 o13.2.1>>=fun x19 =>
      Qak x19 h0_0 o13.1 o13.2.1>>=fun x20 =>
      some ((Qab.mk 7 o13.2.2.2.1 [] 0 [] [] []),x20.2.1,x20.2.2)
     else
      Qdi h0_0 h0_1 h0_2>>=fun x21 =>
      Qat 8 h0_0 x21.2.1 x21.2.2>>=fun x22 =>
      if(!x22) then
       some ((Qab.mk 4 x21.1 [] 0 [] [] []),x21.2.1,x21.2.2)
      else
       Qak true h0_0 x21.2.1 x21.2.2>>=fun x23 =>
       Qat 9 h0_0 x23.2.1 x23.2.2>>=fun x24 =>
       if x24 then
        Qak true h0_0 x23.2.1 x23.2.2>>=fun x25 =>
        some ((Qab.mk 6 x21.1 [] 0 [] [] []),x25.2.1,x25.2.2)
       else
        (Qdb h0_0 x21 0 x23.2.1 x23.2.2 [])>>=fun o26 =>
        Qat 9 h0_0 o26.1 o26.2.1>>=fun x33 =>
        Qak x33 h0_0 o26.1 o26.2.1>>=fun x34 =>
        some ((Qab.mk 6 x21.1 [] 0 o26.2.2 [] []),x34.2.1,x34.2.2)
 partial_fixpoint
def Qdb (h0_0:(List Qai)) (x21:(List UInt8)×Int×Bool) (v5:Int) (h0_1_:Int) (h0_2_:Bool) (h2_4:(List Qab)):Option ((Int×Bool×(List Qab))) :=
 ( if(decide (v5<3)) then
   some (!h0_2_)
  else
   some false:Option (Bool))>>=fun o27 =>
 if o27 then
  Qci h0_0 h0_1_ h0_2_>>=fun x28 =>
  appL 120 h2_4 [x28.1]>>=fun x29 =>
  Qat 9 h0_0 x28.2.1 x28.2.2>>=fun x30 =>
  if x30 then
   some (x28.2.1,x28.2.2,x29)
  else
   if(decide (v5<2)) then
    Qat 10 h0_0 x28.2.1 x28.2.2>>=fun x31 =>
    Qak x31 h0_0 x28.2.1 x28.2.2>>=fun x32 =>
    Qdb h0_0 x21 (wr (v5+1)) x32.2.1 x32.2.2 x29
   else
    Qdb h0_0 x21 (wr (v5+1)) x28.2.1 x28.2.2 x29
 else
  some (h0_1_,h0_2_,h2_4)
 partial_fixpoint
end
theorem Qv4:∀ (h0_0:(List Qai)),(∀ (h0_1:Int) (h0_2:Bool) (o:Qab×Int×Bool),Qci h0_0 h0_1 h0_2=some o→CallOK Tryz.prog 162 [.ptr 0 0] ⟨[[.p (.sl false (h0_0.map Qah)),.p (iV h0_1),.p (bV h0_2)]],[]⟩ (Qkn o) ⟨[[.p (.sl false (h0_0.map Qah)),.p (iV o.2.1),.p (bV o.2.2)]],[]⟩)∧(∀ (h0_1:Int) (h0_2:Bool) (o:Qab×Int×Bool),Qh7 h0_0 h0_1 h0_2=some o→CallOK Tryz.prog 173 [.ptr 0 0] ⟨[[.p (.sl false (h0_0.map Qah)),.p (iV h0_1),.p (bV h0_2)]],[]⟩ (Qbx o) ⟨[[.p (.sl false (h0_0.map Qah)),.p (iV o.2.1),.p (bV o.2.2)]],[]⟩)∧(∀ (x21:(List UInt8)×Int×Bool) (v5:Int) (h0_1_:Int) (h0_2_:Bool) (h2_4:(List Qab)) (o26:(Int×Bool×(List Qab))),Qdb h0_0 x21 v5 h0_1_ h0_2_ h2_4=some o26→TL (1,0) Tryz.prog 107 Qti (JP1 (1,0) 107 o26 (.exit 0) (Qj4 h0_0 x21)) (Qef h0_0 x21 v5 h0_1_ h0_2_ h2_4)):=by
 intro h0_0;refine Qci.mutual_partial_correctness h0_0 _ _ _ ?_ ?_ ?_
 ·intro Qh7' iQh7 h0_1 h0_2 o h;refine CallOK.ofB mixed tbOk Qoc Tryz.func162 rfl (by kernel_rfl) (Nat.le_of_ble_eq_true rfl) rfl rfl rfl ?_;refine Qap _ _ h (fun x1 hy=>((iQh7 h0_1 h0_2 x1 hy).fr [0] [] rfl rfl rfl)) (fun x1 hy h=>?_);refine Qaj h (fun o2 ho hk=>?_);refine Exists.intro (JP1 _ _ o2 (.exit 0) (Qlm h0_0)) (And.intro (Qhn (τ := Qg4 h0_0 x1.2.1 x1.2.2 x1.1.Kind x1.1.Name x1.1.Text x1.1.N x1.1.L x1.1.Then x1.1.Else) ?_ (TL.loop (Q9b h0_0 x1.2.1 x1.2.2 x1.1.Kind x1.1.Name x1.1.Text x1.1.N x1.1.L x1.1.Then x1.1.Else o2 ho))) (Qa5 ?_))
  ·exact Le.tz 3 0 rfl rfl rfl
  have h:=hk;refine Exists.intro _ (And.intro (Le.refl _ _ _) ?_);exact Qbb (t:=Qkn) (ss:=fun o=>⟨[[.p (.sl false (h0_0.map Qah)),.p (iV o.2.1),.p (bV o.2.2)]],[]⟩) h ⟨[],rfl,.refl _,.refl _,rfl⟩
 ·intro Qdb' iQdb h0_1 h0_2 o h;refine CallOK.ofB mixed tbOk Qnn Tryz.func173 rfl (by kernel_rfl) (Nat.le_of_ble_eq_true rfl) rfl rfl rfl ?_;refine Qap _ _ h (fun x1 hy=>((Qa3 5 h0_0 h0_1 h0_2 x1 hy).fr [0] [] rfl rfl rfl)) (fun x1 hy h=>?_);refine Qac h (fun hb h=>?_) (fun hb h=>?_)
  ·refine Qap _ _ h (fun x2 hy=>((Qas true h0_0 h0_1 h0_2 x2 hy).fr [0] [] rfl rfl rfl)) (fun x2 hy h=>?_);refine Exists.intro _ (And.intro (Le.refl _ _ _) ?_);exact Qbb (t:=Qbx) (ss:=fun o=>⟨[[.p (.sl false (h0_0.map Qah)),.p (iV o.2.1),.p (bV o.2.2)]],[]⟩) h ⟨[],rfl,.p (.agg' (.cons (.refl _) (.cons (.refl _) (.cons (.refl _) (.cons (.refl _) (.cons (.not) (.cons (.not) (.cons (.not) (.nil))))))))),.refl _,rfl⟩
  ·refine Qap _ _ h (fun x3 hy=>((Qa3 6 h0_0 h0_1 h0_2 x3 hy).fr [0] [] rfl rfl rfl)) (fun x3 hy h=>?_);refine Qac h (fun hb h=>?_) (fun hb h=>?_)
   ·refine Qap _ _ h (fun x4 hy=>((Qas true h0_0 h0_1 h0_2 x4 hy).fr [0] [] rfl rfl rfl)) (fun x4 hy h=>?_);refine Exists.intro _ (And.intro (Le.refl _ _ _) ?_);exact Qbb (t:=Qbx) (ss:=fun o=>⟨[[.p (.sl false (h0_0.map Qah)),.p (iV o.2.1),.p (bV o.2.2)]],[]⟩) h ⟨[],rfl,.p (.agg' (.cons (.refl _) (.cons (.refl _) (.cons (.refl _) (.cons (.refl _) (.cons (.not) (.cons (.not) (.cons (.not) (.nil))))))))),.refl _,rfl⟩
   ·refine Qap _ _ h (fun x5 hy=>((Qbn [116,114,117,101] h0_0 h0_1 h0_2 x5 hy).fr [0] [] rfl rfl rfl)) (fun x5 hy h=>?_);refine Qac h (fun hb h=>?_) (fun hb h=>?_)
    ·refine Qap _ _ h (fun x6 hy=>((Qas true h0_0 h0_1 h0_2 x6 hy).fr [0] [] rfl rfl rfl)) (fun x6 hy h=>?_);refine Exists.intro _ (And.intro (Le.refl _ _ _) ?_);exact Qbb (t:=Qbx) (ss:=fun o=>⟨[[.p (.sl false (h0_0.map Qah)),.p (iV o.2.1),.p (bV o.2.2)]],[]⟩) h ⟨[],rfl,.p (.agg' (.cons (.refl _) (.cons (.refl _) (.cons (.refl _) (.cons (.refl _) (.cons (.not) (.cons (.not) (.cons (.not) (.nil))))))))),.refl _,rfl⟩
    ·refine Qap _ _ h (fun x7 hy=>((Qbn [102,97,108,115,101] h0_0 h0_1 h0_2 x7 hy).fr [0] [] rfl rfl rfl)) (fun x7 hy h=>?_);refine Qac h (fun hb h=>?_) (fun hb h=>?_)
     ·refine Qap _ _ h (fun x8 hy=>((Qas true h0_0 h0_1 h0_2 x8 hy).fr [0] [] rfl rfl rfl)) (fun x8 hy h=>?_);refine Exists.intro _ (And.intro (Le.refl _ _ _) ?_);exact Qbb (t:=Qbx) (ss:=fun o=>⟨[[.p (.sl false (h0_0.map Qah)),.p (iV o.2.1),.p (bV o.2.2)]],[]⟩) h ⟨[],rfl,.p (.agg' (.cons (.refl _) (.cons (.refl _) (.cons (.refl _) (.cons (.refl _) (.cons (.not) (.cons (.not) (.cons (.not) (.nil))))))))),.refl _,rfl⟩
     ·refine Qap _ _ h (fun x9 hy=>((Qbn [115,101,99,114,101,116] h0_0 h0_1 h0_2 x9 hy).fr [0] [] rfl rfl rfl)) (fun x9 hy h=>?_);refine Qac h (fun hb h=>?_) (fun hb h=>?_)
      ·refine Qap _ _ h (fun x10 hy=>((Qas true h0_0 h0_1 h0_2 x10 hy).fr [0] [] rfl rfl rfl)) (fun x10 hy h=>?_);refine Qap _ _ h (fun x11 hy=>((Qa3 8 h0_0 x10.2.1 x10.2.2 x11 hy).fr [0] [] rfl rfl rfl)) (fun x11 hy h=>?_);refine Qap _ _ h (fun x12 hy=>((Qas x11 h0_0 x10.2.1 x10.2.2 x12 hy).fr [0] [] rfl rfl rfl)) (fun x12 hy h=>?_);refine Qaj h (fun o13 ho hk=>?_);refine Exists.intro (JP1 _ _ o13 .normal (Qtg h0_0)) (And.intro ?_ (Qa5 ?_))
       ·have h:=ho;refine And.intro (by decide +kernel) (And.intro rfl ?_);refine Qqg (fun x14=>(Qd8 x14).ren [0] []) h (fun x14 hy=>(Qa3 5 h0_0 x12.2.1 x12.2.2 x14 hy).fd rfl rfl [0] rfl rfl) (fun x14 hy h=>?_);refine Qac h (fun hb h=>?_) (fun hb h=>?_)
        ·refine Qa7 (l:=h0_0) (c:=Qah) (c' := Qah) h (fun _=>rfl) (fun _=>rfl) (by decide) (fun x15 hi h=>?_);refine Qdm [sV x15.Text] Qhf h (fun x16 hy=>(Qni x15.Text x16 hy)) (fun x16 hy h=>?_);refine Qt2 _ _ h (fun x17 hy=>((Qas x16 h0_0 x12.2.1 x12.2.2 x17 hy).fg [0] [] rfl rfl rfl (Nat.le_of_ble_eq_true rfl))) (fun x17 hy h=>?_);refine JP1.a h ?_;exact Le.tz 3 0 rfl rfl rfl
        ·refine Qt2 _ _ h (fun x18 hy=>((Qas false h0_0 x12.2.1 x12.2.2 x18 hy).fg [0] [] rfl rfl rfl (Nat.le_of_ble_eq_true rfl))) (fun x18 hy h=>?_);refine JP1.a h ?_;exact Le.tz 3 0 rfl rfl rfl
       ·have h:=hk;refine Qap _ _ h (fun x19 hy=>((Qa3 9 h0_0 o13.1 o13.2.1 x19 hy).fr [0] [] rfl rfl rfl)) (fun x19 hy h=>?_);refine Qap _ _ h (fun x20 hy=>((Qas x19 h0_0 o13.1 o13.2.1 x20 hy).fr [0] [] rfl rfl rfl)) (fun x20 hy h=>?_);refine Exists.intro _ (And.intro (Le.refl _ _ _) ?_);exact Qbb (t:=Qbx) (ss:=fun o=>⟨[[.p (.sl false (h0_0.map Qah)),.p (iV o.2.1),.p (bV o.2.2)]],[]⟩) h ⟨[],rfl,.p (.agg' (.cons (.refl _) (.cons (.refl _) (.cons (.refl _) (.cons (.refl _) (.cons (.not) (.cons (.not) (.cons (.not) (.nil))))))))),.refl _,rfl⟩
      ·refine Qap _ _ h (fun x21 hy=>((Qjl h0_0 h0_1 h0_2 x21 hy).fr [0] [] rfl rfl rfl)) (fun x21 hy h=>?_);refine Qap _ _ h (fun x22 hy=>((Qa3 8 h0_0 x21.2.1 x21.2.2 x22 hy).fr [0] [] rfl rfl rfl)) (fun x22 hy h=>?_);refine Qac h (fun hb h=>?_) (fun hb h=>?_)
       ·refine Exists.intro _ (And.intro (Le.refl _ _ _) ?_);exact Qbb (t:=Qbx) (ss:=fun o=>⟨[[.p (.sl false (h0_0.map Qah)),.p (iV o.2.1),.p (bV o.2.2)]],[]⟩) h ⟨[],rfl,.p (.agg' (.cons (.refl _) (.cons (.refl _) (.cons (.refl _) (.cons (.refl _) (.cons (.not) (.cons (.not) (.cons (.not) (.nil))))))))),.refl _,rfl⟩
       ·refine Qap _ _ h (fun x23 hy=>((Qas true h0_0 x21.2.1 x21.2.2 x23 hy).fr [0] [] rfl rfl rfl)) (fun x23 hy h=>?_);refine Qap _ _ h (fun x24 hy=>((Qa3 9 h0_0 x23.2.1 x23.2.2 x24 hy).fr [0] [] rfl rfl rfl)) (fun x24 hy h=>?_);refine Qac h (fun hb h=>?_) (fun hb h=>?_)
        ·refine Qap _ _ h (fun x25 hy=>((Qas true h0_0 x23.2.1 x23.2.2 x25 hy).fr [0] [] rfl rfl rfl)) (fun x25 hy h=>?_);refine Exists.intro _ (And.intro (Le.refl _ _ _) ?_);exact Qbb (t:=Qbx) (ss:=fun o=>⟨[[.p (.sl false (h0_0.map Qah)),.p (iV o.2.1),.p (bV o.2.2)]],[]⟩) h ⟨[],rfl,.p (.agg' (.cons (.refl _) (.cons (.refl _) (.cons (.refl _) (.cons (.refl _) (.cons (.not) (.cons (.not) (.cons (.not) (.nil))))))))),.refl _,rfl⟩
        ·refine Qaj h (fun o26 ho hk=>?_);refine Exists.intro (JP1 _ _ o26 (.exit 0) (Qj4 h0_0 x21)) (And.intro (Qhn (τ := Qef h0_0 x21 0 x23.2.1 x23.2.2 []) ?_ (TL.loop (iQdb x21 0 x23.2.1 x23.2.2 [] o26 ho))) (Qa5 ?_))
         ·exact(Le.ownH 2 4 38 7 rfl rfl Q1c).trans (Le.tz 3 1 rfl rfl rfl)
         have h:=hk;refine Qap _ _ h (fun x33 hy=>((Qa3 9 h0_0 o26.1 o26.2.1 x33 hy).fr [0] [] rfl rfl rfl)) (fun x33 hy h=>?_);refine Qap _ _ h (fun x34 hy=>((Qas x33 h0_0 o26.1 o26.2.1 x34 hy).fr [0] [] rfl rfl rfl)) (fun x34 hy h=>?_);refine Exists.intro _ (And.intro (Le.refl _ _ _) ?_);exact Qbb (t:=Qbx) (ss:=fun o=>⟨[[.p (.sl false (h0_0.map Qah)),.p (iV o.2.1),.p (bV o.2.2)]],[]⟩) h ⟨[],rfl,.p (.agg' (.cons (.refl _) (.cons (.refl _) (.cons (.refl _) (.cons (.refl _) (.cons (.refl _) (.cons (.not) (.cons (.not) (.nil))))))))),.refl _,rfl⟩
 ·intro Qci' Qdb' iQci iQdb x21 v5 h0_1_ h0_2_ h2_4 o26 h;refine TL.round (Qaq mixed tbOk (lv:=Qnn) _ _ _ ?_);refine Qaj h (fun o27 ho hk=>?_);refine Exists.intro (JP1 _ _ o27 .normal (Qth h0_0 x21 v5 h0_1_ h0_2_ h2_4)) (And.intro ?_ (Qa5 ?_))
  ·have h:=ho;refine Qac h (fun hb h=>?_) (fun hb h=>?_)
   ·refine JP1.a h ?_;exact Le.tz 3 1 rfl rfl rfl
   ·refine JP1.a h ?_;exact Le.tz 3 1 rfl rfl rfl
  ·have h:=hk;refine Qac h (fun hb h=>?_) (fun hb h=>?_)
   ·refine And.intro (by decide +kernel) (And.intro rfl ?_);refine Qt2 _ _ h (fun x28 hy=>((iQci h0_1_ h0_2_ x28 hy).fg [0] [] rfl rfl rfl (Nat.le_of_ble_eq_true rfl))) (fun x28 hy h=>?_);refine Qlv (a:=h2_4) (b:=[x28.1]) (c:=Qaa) h (.cons (.ceq (Qan _) (.refl _)) (.nil)) (fun x=>by rw[Qan]; rfl) rfl (fun x29 hi h=>?_);refine Qap _ _ h (fun x30 hy=>((Qa3 9 h0_0 x28.2.1 x28.2.2 x30 hy).fr [0] [] rfl rfl rfl)) (fun x30 hy h=>?_);refine Qac h (fun hb h=>?_) (fun hb h=>?_)
    ·exact JP1.a h (Le.tz 3 1 rfl rfl rfl)
    ·refine Qac h (fun hb h=>?_) (fun hb h=>?_)
     ·refine Qap _ _ h (fun x31 hy=>((Qa3 10 h0_0 x28.2.1 x28.2.2 x31 hy).fr [0] [] rfl rfl rfl)) (fun x31 hy h=>?_);refine Qap _ _ h (fun x32 hy=>((Qas x31 h0_0 x28.2.1 x28.2.2 x32 hy).fr [0] [] rfl rfl rfl)) (fun x32 hy h=>?_);refine TL.le (τ := Qef h0_0 x21 (wr (v5+1)) x32.2.1 x32.2.2 x29) ?_ ((iQdb x21 (wr (v5+1)) x32.2.1 x32.2.2 x29 _ h));exact Le.tz 3 1 rfl rfl rfl
     ·refine TL.le (τ := Qef h0_0 x21 (wr (v5+1)) x28.2.1 x28.2.2 x29) ?_ ((iQdb x21 (wr (v5+1)) x28.2.1 x28.2.2 x29 _ h));exact Le.tz 3 1 rfl rfl rfl
   ·exact JP1.a h (Le.tz 3 1 rfl rfl rfl)
theorem Qjm:∀ (h0_0:(List Qai)) (h0_1:Int) (h0_2:Bool) (o:Qab×Int×Bool),Qci h0_0 h0_1 h0_2=some o→CallOK Tryz.prog 162 [.ptr 0 0] ⟨[[.p (.sl false (h0_0.map Qah)),.p (iV h0_1),.p (bV h0_2)]],[]⟩ (Qkn o) ⟨[[.p (.sl false (h0_0.map Qah)),.p (iV o.2.1),.p (bV o.2.2)]],[]⟩:=fun h0_0 h0_1 h0_2=>(Qv4 h0_0).1 h0_1 h0_2
def Qck (h0_0:(List Qai)) (h0_1:Int) (h0_2:Bool):Option (Int×Bool) :=
 Qat 3 h0_0 h0_1 h0_2>>=fun x1 =>
 Qak x1 h0_0 h0_1 h0_2>>=fun x2 =>
 some (x2.2.1,x2.2.2)
theorem Qfu:∀ (h0_0:(List Qai)) (h0_1:Int) (h0_2:Bool) (o:Int×Bool),Qck h0_0 h0_1 h0_2=some o→CallOK Tryz.prog 163 [.ptr 0 0] ⟨[[.p (.sl false (h0_0.map Qah)),.p (iV h0_1),.p (bV h0_2)]],[]⟩ (Qod o) ⟨[[.p (.sl false (h0_0.map Qah)),.p (iV o.1),.p (bV o.2)]],[]⟩:=by
 intro h0_0 h0_1 h0_2 o h;unfold Qck at h;refine CallOK.ofB mixed tbOk Qv3 Tryz.func163 rfl (by kernel_rfl) (Nat.le_of_ble_eq_true rfl) rfl rfl rfl ?_;refine Qap _ _ h (fun x1 hy=>((Qa3 3 h0_0 h0_1 h0_2 x1 hy).fr [0] [] rfl rfl rfl)) (fun x1 hy h=>?_);refine Qap _ _ h (fun x2 hy=>((Qas x1 h0_0 h0_1 h0_2 x2 hy).fr [0] [] rfl rfl rfl)) (fun x2 hy h=>?_);refine Exists.intro _ (And.intro (Le.refl _ _ _) ?_);exact Qbb (t:=Qod) (ss:=fun o=>⟨[[.p (.sl false (h0_0.map Qah)),.p (iV o.1),.p (bV o.2)]],[]⟩) h ⟨[],rfl,.refl _,.refl _,rfl⟩
def Qdy (p1:(List UInt8)) (h0_0:(List Qai)) (h0_1:Int) (h0_2:Bool):Option (Int×Bool) :=
 Qat 2 h0_0 h0_1 h0_2>>=fun x1 =>
 Qak x1 h0_0 h0_1 h0_2>>=fun x2 =>
 Qa4 p1 h0_0 x2.2.1 x2.2.2>>=fun x3 =>
 Qak x3 h0_0 x2.2.1 x2.2.2>>=fun x4 =>
 Qck h0_0 x4.2.1 x4.2.2>>=fun x5 =>
 some (x5.1,x5.2)
theorem Qkw:∀ (p1:(List UInt8)) (h0_0:(List Qai)) (h0_1:Int) (h0_2:Bool) (o:Int×Bool),Qdy p1 h0_0 h0_1 h0_2=some o→CallOK Tryz.prog 164 [.ptr 0 0,.p (sV p1)] ⟨[[.p (.sl false (h0_0.map Qah)),.p (iV h0_1),.p (bV h0_2)]],[]⟩ (Qrj o) ⟨[[.p (.sl false (h0_0.map Qah)),.p (iV o.1),.p (bV o.2)]],[]⟩:=by
 intro p1 h0_0 h0_1 h0_2 o h;unfold Qdy at h;refine CallOK.ofB mixed tbOk Qyb Tryz.func164 rfl (by kernel_rfl) (Nat.le_of_ble_eq_true rfl) rfl rfl rfl ?_;refine Qap _ _ h (fun x1 hy=>((Qa3 2 h0_0 h0_1 h0_2 x1 hy).fr [0] [] rfl rfl rfl)) (fun x1 hy h=>?_);refine Qap _ _ h (fun x2 hy=>((Qas x1 h0_0 h0_1 h0_2 x2 hy).fr [0] [] rfl rfl rfl)) (fun x2 hy h=>?_);refine Qap _ _ h (fun x3 hy=>((Qbn p1 h0_0 x2.2.1 x2.2.2 x3 hy).fr [0] [] rfl rfl rfl)) (fun x3 hy h=>?_);refine Qap _ _ h (fun x4 hy=>((Qas x3 h0_0 x2.2.1 x2.2.2 x4 hy).fr [0] [] rfl rfl rfl)) (fun x4 hy h=>?_);refine Qap _ _ h (fun x5 hy=>((Qfu h0_0 x4.2.1 x4.2.2 x5 hy).fr [0] [] rfl rfl rfl)) (fun x5 hy h=>?_);refine Exists.intro _ (And.intro (Le.refl _ _ _) ?_);exact Qbb (t:=Qrj) (ss:=fun o=>⟨[[.p (.sl false (h0_0.map Qah)),.p (iV o.1),.p (bV o.2)]],[]⟩) h ⟨[],rfl,.refl _,.refl _,rfl⟩
mutual
def Qb9 (p1:Bool) (p2:Bool) (h0_0:(List Qai)) (h0_1:Int) (h0_2:Bool):Option ((List Qab)×Int×Bool) :=
 (Qb6 p1 p2 h0_0 [] h0_1 h0_2)>>=fun o1 =>
 match o1 with
 | .inl y2 =>
  some (y2.1,y2.2.1,y2.2.2)
 | .inr y3 =>
  some (y3.1,y3.2.1,y3.2.2)
 partial_fixpoint
def Qb6 (p1:Bool) (p2:Bool) (h0_0:(List Qai)) (v7:(List Qab)) (h0_1_:Int) (h0_2_:Bool):Option (((List Qab)×Int×Bool)⊕((List Qab)×Int×Bool)) :=
 ( if(!h0_2_) then
   some (decide (h0_1_<(h0_0.length:Int)))
  else
   some false:Option (Bool))>>=fun o4 =>
 if o4 then
  Qat 1 h0_0 h0_1_ h0_2_>>=fun x5 =>
  if x5 then
   Qak true h0_0 h0_1_ h0_2_>>=fun x6 =>
   ( if(decide ((wr ((v7.length:Int)-1)) ≥ 0)) then
     idx v7 (wr ((v7.length:Int)-1))>>=fun x8 =>
     some (x8.Kind==8)
    else
     some false:Option (Bool))>>=fun o7 =>
   if o7 then
    idx v7 (wr ((v7.length:Int)-1))>>=fun x9 =>
    need (x9.Text.length+x6.1.Text.length≤9223372036854775807)>>=fun _ =>
    idx v7 (wr ((v7.length:Int)-1))>>=fun x10 =>
    Qb6 p1 p2 h0_0 (v7.set ((wr ((v7.length:Int)-1)).toNat) (Qab.mk x10.Kind x10.Name (x9.Text++x6.1.Text) x10.N x10.L x10.Then x10.Else)) x6.2.1 x6.2.2
   else
    appL 120 v7 ([(Qab.mk 8 [] x6.1.Text 0 [] [] [])])>>=fun x11 =>
    Qb6 p1 p2 h0_0 x11 x6.2.1 x6.2.2
  else
   ( if p1 then
     Qb8 [101,110,100] h0_0 h0_1_ h0_2_>>=fun x13 =>
     if x13 then
      some true
     else
      if p2 then
       Qb8 [101,108,115,101] h0_0 h0_1_ h0_2_>>=fun x14 =>
       some x14
      else
       some false
    else
     if p2 then
      Qb8 [101,108,115,101] h0_0 h0_1_ h0_2_>>=fun x15 =>
      some x15
     else
      some false:Option (Bool))>>=fun o12 =>
   if o12 then
    some (.inr (v7,h0_1_,h0_2_))
   else
    Qat 2 h0_0 h0_1_ h0_2_>>=fun x16 =>
    Qak x16 h0_0 h0_1_ h0_2_>>=fun x17 =>
    Qat 3 h0_0 x17.2.1 x17.2.2>>=fun x18 =>
    if x18 then
     Qak true h0_0 x17.2.1 x17.2.2>>=fun x19 =>
     Qb6 p1 p2 h0_0 v7 x19.2.1 x19.2.2
    else
     Qhm h0_0 x17.2.1 x17.2.2>>=fun x20 =>
     appL 120 v7 [x20.1]>>=fun x21 =>
     Qb6 p1 p2 h0_0 x21 x20.2.1 x20.2.2
 else
  some (.inl (v7,h0_1_,h0_2_))
 partial_fixpoint
def Qhm (h0_0:(List Qai)) (h0_1:Int) (h0_2:Bool):Option (Qab×Int×Bool) :=
 Qa4 [105,102] h0_0 h0_1 h0_2>>=fun x1 =>
 if x1 then
  Qak true h0_0 h0_1 h0_2>>=fun x2 =>
  Qci h0_0 x2.2.1 x2.2.2>>=fun x3 =>
  Qck h0_0 x3.2.1 x3.2.2>>=fun x4 =>
  Qb9 true true h0_0 x4.1 x4.2>>=fun x5 =>
  ( Qb8 [101,108,115,101] h0_0 x5.2.1 x5.2.2>>=fun x7 =>
   if x7 then
    Qdy [101,108,115,101] h0_0 x5.2.1 x5.2.2>>=fun x8 =>
    Qb9 true false h0_0 x8.1 x8.2>>=fun x9 =>
    some (x9.2.1,x9.2.2,x9.1)
   else
    some (x5.2.1,x5.2.2,[]):Option ((Int×Bool×(List Qab))))>>=fun o6 =>
  Qdy [101,110,100] h0_0 o6.1 o6.2.1>>=fun x10 =>
  some ((Qab.mk 10 [] [] 0 [x3.1] x5.1 o6.2.2),x10.1,x10.2)
 else
  ( Qa4 [101,97,99,104] h0_0 h0_1 h0_2>>=fun x12 =>
   if x12 then
    some true
   else
    Qa4 [108,101,116] h0_0 h0_1 h0_2>>=fun x13 =>
    some x13:Option (Bool))>>=fun o11 =>
  if o11 then
   ( Qa4 [108,101,116] h0_0 h0_1 h0_2>>=fun x15 =>
    if x15 then
     some 12
    else
     some 11:Option (Int))>>=fun o14 =>
   Qak true h0_0 h0_1 h0_2>>=fun x16 =>
   Qdi h0_0 x16.2.1 x16.2.2>>=fun x17 =>
   ( if(o14==11) then
     Qa4 [105,110] h0_0 x17.2.1 x17.2.2>>=fun x19 =>
     Qak x19 h0_0 x17.2.1 x17.2.2>>=fun x20 =>
     some (x20.2.1,x20.2.2)
    else
     Qat 11 h0_0 x17.2.1 x17.2.2>>=fun x21 =>
     Qak x21 h0_0 x17.2.1 x17.2.2>>=fun x22 =>
     some (x22.2.1,x22.2.2):Option ((Int×Bool)))>>=fun o18 =>
   Qci h0_0 o18.1 o18.2>>=fun x23 =>
   Qck h0_0 x23.2.1 x23.2.2>>=fun x24 =>
   Qb9 true false h0_0 x24.1 x24.2>>=fun x25 =>
   Qdy [101,110,100] h0_0 x25.2.1 x25.2.2>>=fun x26 =>
   some ((Qab.mk o14 x17.1 [] 0 [x23.1] x25.1 []),x26.1,x26.2)
  else
   ( Qa4 [117,115,101] h0_0 h0_1 h0_2>>=fun x28 =>
    if x28 then
     Qak true h0_0 h0_1 h0_2>>=fun x29 =>
     Qdi h0_0 x29.2.1 x29.2.2>>=fun x30 =>
     some (x30.2.1,x30.2.2,13,x30.1)
    else
     some (h0_1,h0_2,9,[]):Option ((Int×Bool×Int×(List UInt8))))>>=fun o27 =>
   Qci h0_0 o27.1 o27.2.1>>=fun x31 =>
   Qck h0_0 x31.2.1 x31.2.2>>=fun x32 =>
   some ((Qab.mk o27.2.2.1 o27.2.2.2 [] 0 [x31.1] [] []),x32.1,x32.2)
 partial_fixpoint
end
theorem Qut:∀ (h0_0:(List Qai)),(∀ (p1:Bool) (p2:Bool) (h0_1:Int) (h0_2:Bool) (o:(List Qab)×Int×Bool),Qb9 p1 p2 h0_0 h0_1 h0_2=some o→CallOK Tryz.prog 116 [.ptr 0 0,.p (bV p1),.p (bV p2)] ⟨[[.p (.sl false (h0_0.map Qah)),.p (iV h0_1),.p (bV h0_2)]],[]⟩ (Qgf o) ⟨[[.p (.sl false (h0_0.map Qah)),.p (iV o.2.1),.p (bV o.2.2)]],[]⟩)∧(∀ (p1:Bool) (p2:Bool) (v7:(List Qab)) (h0_1_:Int) (h0_2_:Bool) (o1:((List Qab)×Int×Bool)⊕((List Qab)×Int×Bool)),Qb6 p1 p2 h0_0 v7 h0_1_ h0_2_=some o1→TL (1,0) Tryz.prog 89 Qtf (JP2 (1,0) 89 o1 (.exit 0) (Qj2 p1 p2 h0_0) .ret (Qj3 p1 p2 h0_0)) (Qcg p1 p2 h0_0 v7 h0_1_ h0_2_))∧(∀ (h0_1:Int) (h0_2:Bool) (o:Qab×Int×Bool),Qhm h0_0 h0_1 h0_2=some o→CallOK Tryz.prog 146 [.ptr 0 0] ⟨[[.p (.sl false (h0_0.map Qah)),.p (iV h0_1),.p (bV h0_2)]],[]⟩ (Qfo o) ⟨[[.p (.sl false (h0_0.map Qah)),.p (iV o.2.1),.p (bV o.2.2)]],[]⟩):=by
 intro h0_0;refine Qb9.mutual_partial_correctness h0_0 _ _ _ ?_ ?_ ?_
 ·intro Qb6' iQb6 p1 p2 h0_1 h0_2 o h;refine CallOK.ofB mixed tbOk Qnm Tryz.func116 rfl (by kernel_rfl) (Nat.le_of_ble_eq_true rfl) rfl rfl rfl ?_;refine Qaj h (fun o1 ho hk=>?_);refine Exists.intro (JP2 _ _ o1 (.exit 0) (Qj2 p1 p2 h0_0) .ret (Qj3 p1 p2 h0_0)) (And.intro (Qhn (τ := Qcg p1 p2 h0_0 [] h0_1 h0_2) ?_ (TL.loop (iQb6 p1 p2 [] h0_1 h0_2 o1 ho))) (Qfx (fun y2 hy=>?_) (fun y3 hy=>?_)))
  ·exact Le.trans (τ := ⟨[(0,.ptr 0 0),(1,.p (bV p1)),(2,.p (bV p2)),(7,.p (.sl true []))],⟨[[.p (.sl false (h0_0.map Qah)),.p (iV h0_1),.p (bV h0_2)]],[]⟩⟩) (Le.tz 1 0 rfl rfl rfl) ((Le.xnil (.s 7) 38 7 rfl).trans (Le.tz 1 1 rfl rfl rfl))
  ·have h:=(by rw[hy] at hk; exact hk);refine Exists.intro _ (And.intro (Le.trans (τ := ⟨[(6,.x 0 1 (.sl 38 7 (y2.1.map Qaa)))],⟨[[.p (.sl false (h0_0.map Qah)),.p (iV y2.2.1),.p (bV y2.2.2)]],[1]⟩⟩) (Le.tz 1 1 rfl rfl rfl) ((Le.frzv (.s 6) 0 1 rfl rfl rfl rfl).trans (Le.refl _ _ _))) ?_);exact Qbb (t:=Qgf) (ss:=fun o=>⟨[[.p (.sl false (h0_0.map Qah)),.p (iV o.2.1),.p (bV o.2.2)]],[]⟩) h ⟨[],rfl,.refl _,.refl _,rfl⟩
  ·have h:=(by rw[hy] at hk; exact hk);refine Exists.intro _ (And.intro (Le.trans (τ := ⟨[(6,.x 0 1 (.sl 38 7 (y3.1.map Qaa)))],⟨[[.p (.sl false (h0_0.map Qah)),.p (iV y3.2.1),.p (bV y3.2.2)]],[1]⟩⟩) (Le.tz 1 1 rfl rfl rfl) ((Le.frzv (.s 6) 0 1 rfl rfl rfl rfl).trans (Le.refl _ _ _))) ?_);exact Qbb (t:=Qgf) (ss:=fun o=>⟨[[.p (.sl false (h0_0.map Qah)),.p (iV o.2.1),.p (bV o.2.2)]],[]⟩) h ⟨[],rfl,.refl _,.refl _,rfl⟩
 ·intro Qb6' Qhm' iQb6 iQhm p1 p2 v7 h0_1_ h0_2_ o1 h;refine TL.round (Qaq mixed tbOk (lv:=Qnm) _ _ _ ?_);refine Qaj h (fun o4 ho hk=>?_);refine Exists.intro (JP1 _ _ o4 .normal (Qtc p1 p2 h0_0 v7 h0_1_ h0_2_)) (And.intro ?_ (Qa5 ?_))
  ·have h:=ho;refine And.intro (by decide +kernel) (And.intro rfl ?_);refine Qac h (fun hb h=>?_) (fun hb h=>?_)
   ·refine view (Qax _ _) rfl ?_;refine JP1.a h ?_;exact Le.tz 1 1 rfl rfl rfl
   ·refine JP1.a h ?_;exact Le.tz 1 1 rfl rfl rfl
  ·have h:=hk;refine Qac h (fun hb h=>?_) (fun hb h=>?_)
   ·refine Qap _ _ h (fun x5 hy=>((Qa3 1 h0_0 h0_1_ h0_2_ x5 hy).fr [0] [] rfl rfl rfl)) (fun x5 hy h=>?_);refine Qac h (fun hb h=>?_) (fun hb h=>?_)
    ·refine Qap _ _ h (fun x6 hy=>((Qas true h0_0 h0_1_ h0_2_ x6 hy).fr [0] [] rfl rfl rfl)) (fun x6 hy h=>?_);refine And.intro rfl (Exists.intro _ (And.intro (List.length_map _) ?_));refine Qaj h (fun o7 ho hk=>?_);refine Exists.intro (JP1 _ _ o7 .normal (Qtd p1 p2 h0_0 v7 x6)) (And.intro ?_ (Qa5 ?_))
     ·have h:=ho;refine Qac h (fun hb h=>?_) (fun hb h=>?_)
      ·refine Q1e (l:=v7) (c:=Qaa) (c' := Qa2) h rfl Qan (fun _=>rfl) (by decide) (fun x8 hi h=>?_);refine And.intro rfl ?_;refine And.intro rfl (And.intro (Nat.le_of_ble_eq_true rfl) ?_);refine JP1.a h ?_;exact Le.tz 1 1 rfl rfl rfl
      ·refine JP1.a h ?_;exact Le.tz 1 1 rfl rfl rfl
     ·have h:=hk;refine Qac h (fun hb h=>?_) (fun hb h=>?_)
      ·refine Q1e (l:=v7) (c:=Qaa) (c' := Qa2) h rfl Qan (fun _=>rfl) (by decide) (fun x9 hi h=>?_);refine And.intro rfl ?_;refine And.intro rfl (And.intro (Nat.le_of_ble_eq_true rfl) ?_);refine Qr6 h (fun h=>?_);refine Q1e (l:=v7) (c:=Qaa) (c' := Qa2) h rfl Qan (fun _=>rfl) (by decide) (fun x10 hi h=>?_);refine And.intro rfl ?_;refine And.intro rfl (And.intro (Nat.le_of_ble_eq_true rfl) (And.intro rfl (And.intro rfl (Exists.intro ((v7.set ((wr ((v7.length:Int)-1)).toNat) (Qab.mk x10.Kind x10.Name (x9.Text++x6.1.Text) x10.N x10.L x10.Then x10.Else)).map Qaa) (And.intro (Qao0 (.ceq (Qan _) (.refl _))) ?_)))));refine TL.le (τ := Qcg p1 p2 h0_0 (v7.set ((wr ((v7.length:Int)-1)).toNat) (Qab.mk x10.Kind x10.Name (x9.Text++x6.1.Text) x10.N x10.L x10.Then x10.Else)) x6.2.1 x6.2.2) ?_ ((iQb6 p1 p2 (v7.set ((wr ((v7.length:Int)-1)).toNat) (Qab.mk x10.Kind x10.Name (x9.Text++x6.1.Text) x10.N x10.L x10.Then x10.Else)) x6.2.1 x6.2.2 _ h));exact Le.trans (τ := ⟨[(0,.ptr 0 0),(1,.p (bV p1)),(2,.p (bV p2)),(7,.x 0 2 (.sl 38 7 ((v7.set ((wr ((v7.length:Int)-1)).toNat) (Qab.mk x10.Kind x10.Name (x9.Text++x6.1.Text) x10.N x10.L x10.Then x10.Else)).map Qaa)))],⟨[[.p (.sl false (h0_0.map Qah)),.p (iV x6.2.1),.p (bV x6.2.2)]],[2]⟩⟩) (Le.tz 1 1 rfl rfl rfl) ((Le.ver (.s 7) 0 2 1 rfl rfl rfl rfl).trans (Le.tz 1 1 rfl rfl rfl))
      ·refine Qvn (a:=v7) (b:=[(Qab.mk 8 [] x6.1.Text 0 [] [] [])]) (c:=Qaa) h (.cons (.ceq (Qan _) (.cons (.refl _) (.cons (.refl _) (.cons (.refl _) (.cons (.refl _) (.cons (.not) (.cons (.not) (.cons (.not) (.nil))))))))) (.nil)) (fun x=>by rw[Qan]; rfl) rfl (fun x11 hi h=>?_);refine TL.le (τ := Qcg p1 p2 h0_0 x11 x6.2.1 x6.2.2) ?_ ((iQb6 p1 p2 x11 x6.2.1 x6.2.2 _ h));exact Le.trans (τ := ⟨[(0,.ptr 0 0),(1,.p (bV p1)),(2,.p (bV p2)),(7,.x 0 2 (.sl 38 7 (x11.map Qaa)))],⟨[[.p (.sl false (h0_0.map Qah)),.p (iV x6.2.1),.p (bV x6.2.2)]],[2]⟩⟩) (Le.tz 1 1 rfl rfl rfl) ((Le.ver (.s 7) 0 2 1 rfl rfl rfl rfl).trans (Le.tz 1 1 rfl rfl rfl))
    ·refine Qaj h (fun o12 ho hk=>?_);refine Exists.intro (JP1 _ _ o12 .normal (Qte p1 p2 h0_0 v7 h0_1_ h0_2_)) (And.intro ?_ (Qa5 ?_))
     ·have h:=ho;refine Qac h (fun hb h=>?_) (fun hb h=>?_)
      ·refine Qap _ _ h (fun x13 hy=>((Qft [101,110,100] h0_0 h0_1_ h0_2_ x13 hy).fr [0] [] rfl rfl rfl)) (fun x13 hy h=>?_);refine Qac h (fun hb h=>?_) (fun hb h=>?_)
       ·refine JP1.a h ?_;exact Le.tz 1 1 rfl rfl rfl
       ·refine Qac h (fun hb h=>?_) (fun hb h=>?_)
        ·refine Qap _ _ h (fun x14 hy=>((Qft [101,108,115,101] h0_0 h0_1_ h0_2_ x14 hy).fr [0] [] rfl rfl rfl)) (fun x14 hy h=>?_);refine JP1.a h ?_;exact Le.tz 1 1 rfl rfl rfl
        ·refine JP1.a h ?_;exact Le.tz 1 1 rfl rfl rfl
      ·refine bF ?_;refine Qac h (fun hb h=>?_) (fun hb h=>?_)
       ·refine Qap _ _ h (fun x15 hy=>((Qft [101,108,115,101] h0_0 h0_1_ h0_2_ x15 hy).fr [0] [] rfl rfl rfl)) (fun x15 hy h=>?_);refine JP1.a h ?_;exact Le.tz 1 1 rfl rfl rfl
       ·refine JP1.a h ?_;exact Le.tz 1 1 rfl rfl rfl
     ·have h:=hk;refine Qac h (fun hb h=>?_) (fun hb h=>?_)
      ·exact JP2.b h (Le.tz 1 1 rfl rfl rfl)
      ·refine Qap _ _ h (fun x16 hy=>((Qa3 2 h0_0 h0_1_ h0_2_ x16 hy).fr [0] [] rfl rfl rfl)) (fun x16 hy h=>?_);refine Qap _ _ h (fun x17 hy=>((Qas x16 h0_0 h0_1_ h0_2_ x17 hy).fr [0] [] rfl rfl rfl)) (fun x17 hy h=>?_);refine Qap _ _ h (fun x18 hy=>((Qa3 3 h0_0 x17.2.1 x17.2.2 x18 hy).fr [0] [] rfl rfl rfl)) (fun x18 hy h=>?_);refine Qac h (fun hb h=>?_) (fun hb h=>?_)
       ·refine Qap _ _ h (fun x19 hy=>((Qas true h0_0 x17.2.1 x17.2.2 x19 hy).fr [0] [] rfl rfl rfl)) (fun x19 hy h=>?_);refine TL.le (τ := Qcg p1 p2 h0_0 v7 x19.2.1 x19.2.2) ?_ ((iQb6 p1 p2 v7 x19.2.1 x19.2.2 _ h));exact Le.tz 1 1 rfl rfl rfl
       ·refine Qap _ _ h (fun x20 hy=>((iQhm x17.2.1 x17.2.2 x20 hy).fr [0] [] rfl rfl rfl)) (fun x20 hy h=>?_);refine Qvn (a:=v7) (b:=[x20.1]) (c:=Qaa) h (.cons (.ceq (Qan _) (.refl _)) (.nil)) (fun x=>by rw[Qan]; rfl) rfl (fun x21 hi h=>?_);refine TL.le (τ := Qcg p1 p2 h0_0 x21 x20.2.1 x20.2.2) ?_ ((iQb6 p1 p2 x21 x20.2.1 x20.2.2 _ h));exact Le.trans (τ := ⟨[(0,.ptr 0 0),(1,.p (bV p1)),(2,.p (bV p2)),(7,.x 0 2 (.sl 38 7 (x21.map Qaa)))],⟨[[.p (.sl false (h0_0.map Qah)),.p (iV x20.2.1),.p (bV x20.2.2)]],[2]⟩⟩) (Le.tz 1 1 rfl rfl rfl) ((Le.ver (.s 7) 0 2 1 rfl rfl rfl rfl).trans (Le.tz 1 1 rfl rfl rfl))
   ·exact JP2.a h (Le.tz 1 1 rfl rfl rfl)
 ·intro Qb9' iQb9 h0_1 h0_2 o h;refine CallOK.ofB mixed tbOk Qun Tryz.func146 rfl (by kernel_rfl) (Nat.le_of_ble_eq_true rfl) rfl rfl rfl ?_;refine Qap _ _ h (fun x1 hy=>((Qbn [105,102] h0_0 h0_1 h0_2 x1 hy).fr [0] [] rfl rfl rfl)) (fun x1 hy h=>?_);refine Qac h (fun hb h=>?_) (fun hb h=>?_)
  ·refine Qap _ _ h (fun x2 hy=>((Qas true h0_0 h0_1 h0_2 x2 hy).fr [0] [] rfl rfl rfl)) (fun x2 hy h=>?_);refine Qap _ _ h (fun x3 hy=>((Qjm h0_0 x2.2.1 x2.2.2 x3 hy).fr [0] [] rfl rfl rfl)) (fun x3 hy h=>?_);refine Qap _ _ h (fun x4 hy=>((Qfu h0_0 x3.2.1 x3.2.2 x4 hy).fr [0] [] rfl rfl rfl)) (fun x4 hy h=>?_);refine Qap _ _ h (fun x5 hy=>((iQb9 true true x4.1 x4.2 x5 hy).fr [0] [] rfl rfl rfl)) (fun x5 hy h=>?_);refine Qaj h (fun o6 ho hk=>?_);refine Exists.intro (JP1 _ _ o6 .normal (Qro h0_0 x3 x5)) (And.intro ?_ (Qa5 ?_))
   ·have h:=ho;refine Qap _ _ h (fun x7 hy=>((Qft [101,108,115,101] h0_0 x5.2.1 x5.2.2 x7 hy).fr [0] [] rfl rfl rfl)) (fun x7 hy h=>?_);refine Qac h (fun hb h=>?_) (fun hb h=>?_)
    ·refine Qap _ _ h (fun x8 hy=>((Qkw [101,108,115,101] h0_0 x5.2.1 x5.2.2 x8 hy).fr [0] [] rfl rfl rfl)) (fun x8 hy h=>?_);refine Qap _ _ h (fun x9 hy=>((iQb9 true false x8.1 x8.2 x9 hy).fr [0] [] rfl rfl rfl)) (fun x9 hy h=>?_);refine JP1.a h ?_;exact Le.tow 3 0 rfl (.cons rfl (.refl _) (.cons rfl (.refl _) (.cons rfl (.refl _) (.nil)))) (.cons (.refl _) (.cons (.refl _) (.cons (.cons (.refl _) (.cons (.refl _) (.cons (.refl _) (.cons (.refl _) (.cons (.p (.sl' (fun h=>h) (.cons (.ceq (Qan _) (.refl _)) (.nil)))) (.cons (.refl _) (.cons (.refl _) (.nil)))))))) (.nil)))) rfl
    ·refine JP1.a h ?_;exact Le.tow 3 0 rfl (.cons rfl (.refl _) (.cons rfl (.refl _) (.cons rfl (.refl _) (.nil)))) (.cons (.refl _) (.cons (.refl _) (.cons (.cons (.refl _) (.cons (.refl _) (.cons (.refl _) (.cons (.refl _) (.cons (.p (.sl' (fun h=>h) (.cons (.ceq (Qan _) (.refl _)) (.nil)))) (.cons (.refl _) (.cons (.p (.not)) (.nil)))))))) (.nil)))) rfl
   ·have h:=hk;refine Qap _ _ h (fun x10 hy=>((Qkw [101,110,100] h0_0 o6.1 o6.2.1 x10 hy).fr [0] [] rfl rfl rfl)) (fun x10 hy h=>?_);refine Exists.intro _ (And.intro (Le.refl _ _ _) ?_);exact Qbb (t:=Qfo) (ss:=fun o=>⟨[[.p (.sl false (h0_0.map Qah)),.p (iV o.2.1),.p (bV o.2.2)]],[]⟩) h ⟨[],rfl,.p (.agg' (.cons (.refl _) (.cons (.refl _) (.cons (.refl _) (.cons (.refl _) (.cons (.not) (.cons (.refl _) (.cons (.refl _) (.nil))))))))),.refl _,rfl⟩
  ·refine Qaj h (fun o11 ho hk=>?_);refine Exists.intro (JP1 _ _ o11 .normal (Qrp h0_0 h0_1 h0_2)) (And.intro ?_ (Qa5 ?_))
   ·have h:=ho;refine Qap _ _ h (fun x12 hy=>((Qbn [101,97,99,104] h0_0 h0_1 h0_2 x12 hy).fr [0] [] rfl rfl rfl)) (fun x12 hy h=>?_);refine Qac h (fun hb h=>?_) (fun hb h=>?_)
    ·refine JP1.a h ?_;exact Le.tz 2 0 rfl rfl rfl
    ·refine Qap _ _ h (fun x13 hy=>((Qbn [108,101,116] h0_0 h0_1 h0_2 x13 hy).fr [0] [] rfl rfl rfl)) (fun x13 hy h=>?_);refine JP1.a h ?_;exact Le.tz 2 0 rfl rfl rfl
   ·have h:=hk;refine Qac h (fun hb h=>?_) (fun hb h=>?_)
    ·refine Qaj h (fun o14 ho hk=>?_);refine Exists.intro (JP1 _ _ o14 .normal (Qrq h0_0 h0_1 h0_2)) (And.intro ?_ (Qa5 ?_))
     ·have h:=ho;refine Qap _ _ h (fun x15 hy=>((Qbn [108,101,116] h0_0 h0_1 h0_2 x15 hy).fr [0] [] rfl rfl rfl)) (fun x15 hy h=>?_);refine Qac h (fun hb h=>?_) (fun hb h=>?_)
      ·refine JP1.a h ?_;exact Le.tz 3 0 rfl rfl rfl
      ·refine JP1.a h ?_;exact Le.tz 3 0 rfl rfl rfl
     ·have h:=hk;refine Qap _ _ h (fun x16 hy=>((Qas true h0_0 h0_1 h0_2 x16 hy).fr [0] [] rfl rfl rfl)) (fun x16 hy h=>?_);refine Qap _ _ h (fun x17 hy=>((Qjl h0_0 x16.2.1 x16.2.2 x17 hy).fr [0] [] rfl rfl rfl)) (fun x17 hy h=>?_);refine Qaj h (fun o18 ho hk=>?_);refine Exists.intro (JP1 _ _ o18 .normal (Qrr h0_0 o14 x17)) (And.intro ?_ (Qa5 ?_))
      ·have h:=ho;refine Qac h (fun hb h=>?_) (fun hb h=>?_)
       ·refine Qap _ _ h (fun x19 hy=>((Qbn [105,110] h0_0 x17.2.1 x17.2.2 x19 hy).fr [0] [] rfl rfl rfl)) (fun x19 hy h=>?_);refine Qap _ _ h (fun x20 hy=>((Qas x19 h0_0 x17.2.1 x17.2.2 x20 hy).fr [0] [] rfl rfl rfl)) (fun x20 hy h=>?_);refine JP1.a h ?_;exact Le.tz 3 0 rfl rfl rfl
       ·refine Qap _ _ h (fun x21 hy=>((Qa3 11 h0_0 x17.2.1 x17.2.2 x21 hy).fr [0] [] rfl rfl rfl)) (fun x21 hy h=>?_);refine Qap _ _ h (fun x22 hy=>((Qas x21 h0_0 x17.2.1 x17.2.2 x22 hy).fr [0] [] rfl rfl rfl)) (fun x22 hy h=>?_);refine JP1.a h ?_;exact Le.tz 3 0 rfl rfl rfl
      ·have h:=hk;refine Qap _ _ h (fun x23 hy=>((Qjm h0_0 o18.1 o18.2 x23 hy).fr [0] [] rfl rfl rfl)) (fun x23 hy h=>?_);refine Qap _ _ h (fun x24 hy=>((Qfu h0_0 x23.2.1 x23.2.2 x24 hy).fr [0] [] rfl rfl rfl)) (fun x24 hy h=>?_);refine Qap _ _ h (fun x25 hy=>((iQb9 true false x24.1 x24.2 x25 hy).fr [0] [] rfl rfl rfl)) (fun x25 hy h=>?_);refine Qap _ _ h (fun x26 hy=>((Qkw [101,110,100] h0_0 x25.2.1 x25.2.2 x26 hy).fr [0] [] rfl rfl rfl)) (fun x26 hy h=>?_);refine Exists.intro _ (And.intro (Le.refl _ _ _) ?_);exact Qbb (t:=Qfo) (ss:=fun o=>⟨[[.p (.sl false (h0_0.map Qah)),.p (iV o.2.1),.p (bV o.2.2)]],[]⟩) h ⟨[],rfl,.p (.agg' (.cons (.refl _) (.cons (.refl _) (.cons (.refl _) (.cons (.refl _) (.cons (.no (.cons (.ceq (Qan _) (.refl _)) (.nil))) (.cons (.refl _) (.cons (.not) (.nil))))))))),.refl _,rfl⟩
    ·refine Qaj h (fun o27 ho hk=>?_);refine Exists.intro (JP1 _ _ o27 .normal (Qrs h0_0)) (And.intro ?_ (Qa5 ?_))
     ·have h:=ho;refine Qap _ _ h (fun x28 hy=>((Qbn [117,115,101] h0_0 h0_1 h0_2 x28 hy).fr [0] [] rfl rfl rfl)) (fun x28 hy h=>?_);refine Qac h (fun hb h=>?_) (fun hb h=>?_)
      ·refine Qap _ _ h (fun x29 hy=>((Qas true h0_0 h0_1 h0_2 x29 hy).fr [0] [] rfl rfl rfl)) (fun x29 hy h=>?_);refine Qap _ _ h (fun x30 hy=>((Qjl h0_0 x29.2.1 x29.2.2 x30 hy).fr [0] [] rfl rfl rfl)) (fun x30 hy h=>?_);refine JP1.a h ?_;exact Le.tz 3 0 rfl rfl rfl
      ·refine JP1.a h ?_;exact Le.tz 3 0 rfl rfl rfl
     ·have h:=hk;refine Qap _ _ h (fun x31 hy=>((Qjm h0_0 o27.1 o27.2.1 x31 hy).fr [0] [] rfl rfl rfl)) (fun x31 hy h=>?_);refine Qap _ _ h (fun x32 hy=>((Qfu h0_0 x31.2.1 x31.2.2 x32 hy).fr [0] [] rfl rfl rfl)) (fun x32 hy h=>?_);refine Exists.intro _ (And.intro (Le.refl _ _ _) ?_);exact Qbb (t:=Qfo) (ss:=fun o=>⟨[[.p (.sl false (h0_0.map Qah)),.p (iV o.2.1),.p (bV o.2.2)]],[]⟩) h ⟨[],rfl,.p (.agg' (.cons (.refl _) (.cons (.refl _) (.cons (.refl _) (.cons (.refl _) (.cons (.no (.cons (.ceq (Qan _) (.refl _)) (.nil))) (.cons (.not) (.cons (.not) (.nil))))))))),.refl _,rfl⟩
theorem Qv5:∀ (p1:Bool) (p2:Bool) (h0_0:(List Qai)) (h0_1:Int) (h0_2:Bool) (o:(List Qab)×Int×Bool),Qb9 p1 p2 h0_0 h0_1 h0_2=some o→CallOK Tryz.prog 116 [.ptr 0 0,.p (bV p1),.p (bV p2)] ⟨[[.p (.sl false (h0_0.map Qah)),.p (iV h0_1),.p (bV h0_2)]],[]⟩ (Qgf o) ⟨[[.p (.sl false (h0_0.map Qah)),.p (iV o.2.1),.p (bV o.2.2)]],[]⟩:=fun p1 p2 h0_0 h0_1 h0_2=>(Qut h0_0).1 p1 p2 h0_1 h0_2
def Qp0 (p0:(List UInt8)):Option ((List Qab)×Int×Int) :=
 Qms p0>>=fun x1 =>
 if(x1.2.2 != 0) then
  some ([],x1.2.1,x1.2.2)
 else
  Qb9 false false x1.1 0 false>>=fun x2 =>
  if x2.2.2 then
   if(decide (x2.2.1<(x1.1.length:Int))) then
    idx x1.1 x2.2.1>>=fun x3 =>
    some ([],x3.From,7)
   else
    some ([],(p0.length:Int),7)
  else
   Qd5 x2.1>>=fun x4 =>
   if(decide (x4>1024)) then
    some ([],0,5)
   else
    Qfh x2.1>>=fun x5 =>
    if(decide (x5>12)) then
     some ([],0,8)
    else
     some (x2.1,0,0)
theorem Qab2:∀ (p0:(List UInt8)) (o:(List Qab)×Int×Int),Qp0 p0=some o→PCall Tryz.prog 84 [sV p0] (Qg3 o):=by
 intro p0 o h;unfold Qp0 at h;refine PCall.ofB mixed tbOk Qab0 Tryz.func84 rfl (by kernel_rfl) (Nat.le_of_ble_eq_true rfl) ?_;refine Qam [sV p0] Qlk h (fun x1 hy=>(Q8o p0 x1 hy)) (fun x1 hy h=>?_);refine Qac h (fun hb h=>?_) (fun hb h=>?_)
 ·refine Qar (t:=Qg3) h ?_;exact .tup (xs:=[.sl true [],iV x1.2.1,iV x1.2.2]) (ys:=[.sl false [],iV x1.2.1,iV x1.2.2]) (.cons (.not) (.cons (.refl _) (.cons (.refl _) (.nil))))
 ·refine Qap _ _ h (fun x2 hy=>((Qv5 false false x1.1 0 false x2 hy).fr [0] [] rfl rfl rfl)) (fun x2 hy h=>?_);refine Qac h (fun hb h=>?_) (fun hb h=>?_)
  ·refine view (Qax _ _) rfl ?_;refine Qac h (fun hb h=>?_) (fun hb h=>?_)
   ·refine And.intro (by decide +kernel) (And.intro rfl ?_);refine Qa7 (l:=x1.1) (c:=Qah) (c' := Qah) h (fun _=>rfl) (fun _=>rfl) (by decide) (fun x3 hi h=>?_);refine Qar (t:=Qg3) h ?_;exact .tup (xs:=[.sl true [],iV x3.From,iV 7]) (ys:=[.sl false [],iV x3.From,iV 7]) (.cons (.not) (.cons (.refl _) (.cons (.refl _) (.nil))))
   ·refine vrfl ?_;refine Qar (t:=Qg3) h ?_;exact .tup (xs:=[.sl true [],iV (p0.length:Int),iV 7]) (ys:=[.sl false [],iV (p0.length:Int),iV 7]) (.cons (.not) (.cons (.refl _) (.cons (.refl _) (.nil))))
  ·refine Qam [.sl false (x2.1.map Qaa)] Qgl h (fun x4 hy=>(Qy2 x2.1 x4 hy)) (fun x4 hy h=>?_);refine Qac h (fun hb h=>?_) (fun hb h=>?_)
   ·refine Qar (t:=Qg3) h ?_;exact .tup (xs:=[.sl true [],iV 0,iV 5]) (ys:=[.sl false [],iV 0,iV 5]) (.cons (.not) (.cons (.refl _) (.cons (.refl _) (.nil))))
   ·refine Qam [.sl false (x2.1.map Qaa)] Qis h (fun x5 hy=>(Q15 x2.1 x5 hy)) (fun x5 hy h=>?_);refine Qac h (fun hb h=>?_) (fun hb h=>?_)
    ·refine Qar (t:=Qg3) h ?_;exact .tup (xs:=[.sl true [],iV 0,iV 8]) (ys:=[.sl false [],iV 0,iV 8]) (.cons (.not) (.cons (.refl _) (.cons (.refl _) (.nil))))
    ·refine Qar (t:=Qg3) h ?_;exact .refl _
mutual
def Qf6 (p0:(List Qae)) (p1:(List Qab)) (p2:Int):Option (Int) :=
 (Qfd p0 p1 p2 0 0)>>=fun o1 =>
 some o1
 partial_fixpoint
def Qfd (p0:(List Qae)) (p1:(List Qab)) (p2:Int) (v7:Int) (v8:Int):Option (Int) :=
 ( if(decide (v8<(p1.length:Int))) then
   some (decide (v7<p2))
  else
   some false:Option (Bool))>>=fun o2 =>
 if o2 then
  idx p1 v8>>=fun x3 =>
  Qf6 p0 x3.Then (wr (p2-v7))>>=fun x4 =>
  idx p1 v8>>=fun x5 =>
  Qf6 p0 x5.Else (wr (p2-v7))>>=fun x6 =>
  ( idx p1 v8>>=fun x8 =>
   if(x8.Kind==13) then
    some (decide ((wr ((wr ((wr (v7+1))+x4))+x6))<p2))
   else
    some false:Option (Bool))>>=fun o7 =>
  if o7 then
   idx p1 v8>>=fun x9 =>
   Qjc p0 x9.Name>>=fun x10 =>
   Qf6 p0 x10.1 (wr (p2-(wr ((wr ((wr (v7+1))+x4))+x6))))>>=fun x11 =>
   Qfd p0 p1 p2 (wr ((wr ((wr ((wr (v7+1))+x4))+x6))+x11)) (wr (v8+1))
  else
   Qfd p0 p1 p2 (wr ((wr ((wr (v7+1))+x4))+x6)) (wr (v8+1))
 else
  some v7
 partial_fixpoint
end
theorem Q8p:∀ (p0:(List Qae)),(∀ (p1:(List Qab)) (p2:Int) (o:Int),Qf6 p0 p1 p2=some o→PCall Tryz.prog 60 [.sl false (p0.map Qaf),.sl false (p1.map Qaa),iV p2] (Qih o))∧(∀ (p1:(List Qab)) (p2:Int) (v7:Int) (v8:Int) (o1:Int),Qfd p0 p1 p2 v7 v8=some o1→TL (0,0) Tryz.prog 76 Q4g (JP1 (0,0) 76 o1 (.exit 0) (Qtj p0 p1 p2)) (Qjh p0 p1 p2 v7 v8)):=by
 intro p0;refine Qf6.mutual_partial_correctness p0 _ _ ?_ ?_
 ·intro Qfd' iQfd p1 p2 o h;refine PCall.ofB mixed tbOk Qy6 Tryz.func60 rfl (by kernel_rfl) (Nat.le_of_ble_eq_true rfl) ?_;refine Qaj h (fun o1 ho hk=>?_);refine Exists.intro (JP1 _ _ o1 (.exit 0) (Qtj p0 p1 p2)) (And.intro (Qhn (τ := Qjh p0 p1 p2 0 0) ?_ (TL.loop (iQfd p1 p2 0 0 o1 ho))) (Qa5 ?_))
  ·exact Le.tz 0 0 rfl rfl rfl
  have h:=hk;refine Qar (t:=Qih) h ?_;exact .refl _
 ·intro Qf6' Qfd' iQf6 iQfd p1 p2 v7 v8 o1 h;refine TL.round (Qaq mixed tbOk (lv:=Qy6) _ _ _ ?_);refine Qaj h (fun o2 ho hk=>?_);refine Exists.intro (JP1 _ _ o2 .normal (Q4e p0 p1 p2 v7 v8)) (And.intro ?_ (Qa5 ?_))
  ·have h:=ho;refine view (Qax _ _) rfl ?_;refine Qac h (fun hb h=>?_) (fun hb h=>?_)
   ·refine JP1.a h ?_;exact Le.tz 0 0 rfl rfl rfl
   ·refine JP1.a h ?_;exact Le.tz 0 0 rfl rfl rfl
  ·have h:=hk;refine Qac h (fun hb h=>?_) (fun hb h=>?_)
   ·refine And.intro (by decide +kernel) (And.intro rfl ?_);refine Qa7 (l:=p1) (c:=Qaa) (c' := Qa2) h Qan (fun _=>rfl) (by decide) (fun x3 hi h=>?_);refine Qdm [.sl false (p0.map Qaf),.sl false (x3.Then.map Qaa),iV (wr (p2-v7))] Qih h (fun x4 hy=>(iQf6 x3.Then (wr (p2-v7)) x4 hy)) (fun x4 hy h=>?_);refine Qa7 (l:=p1) (c:=Qaa) (c' := Qa2) h Qan (fun _=>rfl) (by decide) (fun x5 hi h=>?_);refine Qdm [.sl false (p0.map Qaf),.sl false (x5.Else.map Qaa),iV (wr (p2-v7))] Qih h (fun x6 hy=>(iQf6 x5.Else (wr (p2-v7)) x6 hy)) (fun x6 hy h=>?_);refine Qaj h (fun o7 ho hk=>?_);refine Exists.intro (JP1 _ _ o7 .normal (Q4f p0 p1 p2 v7 v8 x4 x6)) (And.intro ?_ (Qa5 ?_))
    ·have h:=ho;refine Qa7 (l:=p1) (c:=Qaa) (c' := Qa2) h Qan (fun _=>rfl) (by decide) (fun x8 hi h=>?_);refine Qac h (fun hb h=>?_) (fun hb h=>?_)
     ·refine JP1.a h ?_;exact Le.tz 0 0 rfl rfl rfl
     ·refine JP1.a h ?_;exact Le.tz 0 0 rfl rfl rfl
    ·have h:=hk;refine Qac h (fun hb h=>?_) (fun hb h=>?_)
     ·refine Qa7 (l:=p1) (c:=Qaa) (c' := Qa2) h Qan (fun _=>rfl) (by decide) (fun x9 hi h=>?_);refine Qam [.sl false (p0.map Qaf),sV x9.Name] Qf8 h (fun x10 hy=>(Qid p0 x9.Name x10 hy)) (fun x10 hy h=>?_);refine Qam [.sl false (p0.map Qaf),.sl false (x10.1.map Qaa),iV (wr (p2-(wr ((wr ((wr (v7+1))+x4))+x6))))] Qih h (fun x11 hy=>(iQf6 x10.1 (wr (p2-(wr ((wr ((wr (v7+1))+x4))+x6)))) x11 hy)) (fun x11 hy h=>?_);refine TL.le (τ := Qjh p0 p1 p2 (wr ((wr ((wr ((wr (v7+1))+x4))+x6))+x11)) (wr (v8+1))) ?_ ((iQfd p1 p2 (wr ((wr ((wr ((wr (v7+1))+x4))+x6))+x11)) (wr (v8+1)) _ h));exact Le.tz 0 0 rfl rfl rfl
     ·refine TL.le (τ := Qjh p0 p1 p2 (wr ((wr ((wr (v7+1))+x4))+x6)) (wr (v8+1))) ?_ ((iQfd p1 p2 (wr ((wr ((wr (v7+1))+x4))+x6)) (wr (v8+1)) _ h));exact Le.tz 0 0 rfl rfl rfl
   ·exact JP1.a h (Le.tz 0 0 rfl rfl rfl)
theorem Qab3:∀ (p0:(List Qae)) (p1:(List Qab)) (p2:Int) (o:Int),Qf6 p0 p1 p2=some o→PCall Tryz.prog 60 [.sl false (p0.map Qaf),.sl false (p1.map Qaa),iV p2] (Qih o):=fun p0 p1 p2=>(Q8p p0).1 p1 p2
def Qln (p0:(List Qal)) (p1:(List UInt8)) (v5:Int):Option (Unit⊕Bool) :=
 if(decide (v5 ≥ 0)) then
  idx p0 v5>>=fun x4 =>
  if(x4.Name==p1) then
   idx p0 v5>>=fun x5 =>
   some (.inr x5.Secret)
  else
   Qln p0 p1 (wr (v5-1))
 else
  some (.inl ())
 partial_fixpoint
def Q2l (p0:(List Qal)) (p1:(List UInt8)):Option (Bool) :=
 (Qln p0 p1 (wr ((p0.length:Int)-1)))>>=fun o1 =>
 match o1 with
 | .inl y2 =>
  some false
 | .inr y3 =>
  some y3
mutual
def Q0h (p0:Qab) (p1:(List Qal)):Option (Bool) :=
 if(p0.Kind==7) then
  some true
 else
  if(p0.Kind==4) then
   Q2l p1 p0.Name>>=fun x1 =>
   some x1
  else
   ( if(p0.Kind != 5) then
     some (p0.Kind != 6)
    else
     some false:Option (Bool))>>=fun o2 =>
   if o2 then
    some false
   else
    (Qnt p0 p1 0)>>=fun o3 =>
    match o3 with
    | .inl y4 =>
     some false
    | .inr y5 =>
     some true
 partial_fixpoint
def Qnt (p0:Qab) (p1:(List Qal)) (v5:Int):Option (Unit⊕Unit) :=
 if(decide (v5<(p0.L.length:Int))) then
  idx p0.L v5>>=fun x6 =>
  Q0h x6 p1>>=fun x7 =>
  if x7 then
   some (.inr ())
  else
   Qnt p0 p1 (wr (v5+1))
 else
  some (.inl ())
 partial_fixpoint
end
mutual
def Qk7 (p0:(List Qab)):Option (Bool) :=
 (Qij p0 0)>>=fun o1 =>
 match o1 with
 | .inl y2 =>
  some true
 | .inr y3 =>
  some false
 partial_fixpoint
def Qij (p0:(List Qab)) (v3:Int):Option (Unit⊕Unit) :=
 if(decide (v3<(p0.length:Int))) then
  ( idx p0 v3>>=fun x5 =>
   if(x5.Kind==7) then
    some true
   else
    idx p0 v3>>=fun x6 =>
    Qk7 x6.L>>=fun x7 =>
    if(!x7) then
     some true
    else
     idx p0 v3>>=fun x8 =>
     Qk7 x8.Then>>=fun x9 =>
     if(!x9) then
      some true
     else
      idx p0 v3>>=fun x10 =>
      Qk7 x10.Else>>=fun x11 =>
      some (!x11):Option (Bool))>>=fun o4 =>
  if o4 then
   some (.inr ())
  else
   Qij p0 (wr (v3+1))
 else
  some (.inl ())
 partial_fixpoint
end
theorem Qab4:(∀ (p0:(List Qab)) (o:Bool),Qk7 p0=some o→PCall Tryz.prog 32 [.sl false (p0.map Qaa)] (Qix o))∧(∀ (p0:(List Qab)) (v3:Int) (o1:Unit⊕Unit),Qij p0 v3=some o1→TL (0,0) Tryz.prog 43 Q8l (JP2 (0,0) 43 o1 (.exit 0) (Qvh p0) .ret (Qvi p0)) (Qo0 p0 v3)):=by
 refine Qk7.mutual_partial_correctness _ _ ?_ ?_
 ·intro Qij' iQij p0 o h;refine PCall.ofB mixed tbOk Q2j Tryz.func32 rfl (by kernel_rfl) (Nat.le_of_ble_eq_true rfl) ?_;refine Qaj h (fun o1 ho hk=>?_);refine Exists.intro (JP2 _ _ o1 (.exit 0) (Qvh p0) .ret (Qvi p0)) (And.intro (Qhn (τ := Qo0 p0 0) ?_ (TL.loop (iQij p0 0 o1 ho))) (Qfx (fun y2 hy=>?_) (fun y3 hy=>?_)))
  ·exact Le.tz 0 0 rfl rfl rfl
  ·have h:=(by rw[hy] at hk; exact hk);refine Qar (t:=Qix) h ?_;exact .refl _
  ·have h:=(by rw[hy] at hk; exact hk);refine Qar (t:=Qix) h ?_;exact .refl _
 ·intro Qk7' Qij' iQk7 iQij p0 v3 o1 h;refine TL.round (Qaq mixed tbOk (lv:=Q2j) _ _ _ ?_);refine view (Qax _ _) rfl ?_;refine Qac h (fun hb h=>?_) (fun hb h=>?_)
  ·refine Qaj h (fun o4 ho hk=>?_);refine Exists.intro (JP1 _ _ o4 .normal (Q8k p0 v3)) (And.intro ?_ (Qa5 ?_))
   ·have h:=ho;refine Qa7 (l:=p0) (c:=Qaa) (c' := Qa2) h Qan (fun _=>rfl) (by decide) (fun x5 hi h=>?_);refine Qac h (fun hb h=>?_) (fun hb h=>?_)
    ·refine bT ?_;refine bT ?_;refine JP1.a h ?_;exact Le.tz 0 0 rfl rfl rfl
    ·refine Qa7 (l:=p0) (c:=Qaa) (c' := Qa2) h Qan (fun _=>rfl) (by decide) (fun x6 hi h=>?_);refine Qam [.sl false (x6.L.map Qaa)] Qix h (fun x7 hy=>(iQk7 x6.L x7 hy)) (fun x7 hy h=>?_);refine Qac h (fun hb h=>?_) (fun hb h=>?_)
     ·refine bT ?_;refine JP1.a h ?_;exact Le.tz 0 0 rfl rfl rfl
     ·refine Qa7 (l:=p0) (c:=Qaa) (c' := Qa2) h Qan (fun _=>rfl) (by decide) (fun x8 hi h=>?_);refine Qam [.sl false (x8.Then.map Qaa)] Qix h (fun x9 hy=>(iQk7 x8.Then x9 hy)) (fun x9 hy h=>?_);refine Qac h (fun hb h=>?_) (fun hb h=>?_)
      ·refine JP1.a h ?_;exact Le.tz 0 0 rfl rfl rfl
      ·refine Qa7 (l:=p0) (c:=Qaa) (c' := Qa2) h Qan (fun _=>rfl) (by decide) (fun x10 hi h=>?_);refine Qam [.sl false (x10.Else.map Qaa)] Qix h (fun x11 hy=>(iQk7 x10.Else x11 hy)) (fun x11 hy h=>?_);refine JP1.a h ?_;exact Le.tz 0 0 rfl rfl rfl
   ·have h:=hk;refine Qac h (fun hb h=>?_) (fun hb h=>?_)
    ·exact JP2.b h (Le.tz 0 0 rfl rfl rfl)
    ·refine TL.le (τ := Qo0 p0 (wr (v3+1))) ?_ ((iQij p0 (wr (v3+1)) _ h));exact Le.tz 0 0 rfl rfl rfl
  ·exact JP2.a h (Le.tz 0 0 rfl rfl rfl)
theorem Qadz:∀ (p0:(List Qab)) (o:Bool),Qk7 p0=some o→PCall Tryz.prog 32 [.sl false (p0.map Qaa)] (Qix o):=fun p0=>Qab4.1 p0
def Qe7 (p0:(List Qae)) (p1:(List UInt8)):Option ((List Qae)×Bool) :=
 Qg2 p0 8>>=fun x1 =>
 Qps x1>>=fun x2 =>
 if(x2.2 != 0) then
  some (x1,true)
 else
  Qjc x1 p1>>=fun x3 =>
  Qf6 x1 x3.1 3000>>=fun x4 =>
  some (x1,(decide (x4<3000)))
theorem Quu:∀ (p0:(List Qae)) (p1:(List UInt8)) (o:(List Qae)×Bool),Qe7 p0 p1=some o→PCall Tryz.prog 26 [.sl false (p0.map Qaf),sV p1] (Qfp o):=by
 intro p0 p1 o h;unfold Qe7 at h;refine PCall.ofB mixed tbOk Qur Tryz.func26 rfl (by kernel_rfl) (Nat.le_of_ble_eq_true rfl) ?_;refine Qam [.sl false (p0.map Qaf),iV 8] Qki h (fun x1 hy=>(Qw1 p0 8 x1 hy)) (fun x1 hy h=>?_);refine Qam [.sl false (x1.map Qaf)] Qgn h (fun x2 hy=>(Qy3 x1 x2 hy)) (fun x2 hy h=>?_);refine Qac h (fun hb h=>?_) (fun hb h=>?_)
 ·refine Qar (t:=Qfp) h ?_;exact .refl _
 ·refine Qam [.sl false (x1.map Qaf),sV p1] Qf8 h (fun x3 hy=>(Qid x1 p1 x3 hy)) (fun x3 hy h=>?_);refine Qam [.sl false (x1.map Qaf),.sl false (x3.1.map Qaa),iV 3000] Qih h (fun x4 hy=>(Qab3 x1 x3.1 3000 x4 hy)) (fun x4 hy h=>?_);refine Qar (t:=Qfp) h ?_;exact .refl _
def Qea (p0:(List UInt8)):Option ((List Qae)) :=
 Qp0 p0>>=fun x1 =>
 some ([(Qae.mk [109] x1.1)])
theorem Qjn:∀ (p0:(List UInt8)) (o:(List Qae)),Qea p0=some o→PCall Tryz.prog 59 [sV p0] (Qe5 o):=by
 intro p0 o h;unfold Qea at h;refine PCall.ofB mixed tbOk Qxc Tryz.func59 rfl (by kernel_rfl) (Nat.le_of_ble_eq_true rfl) ?_;refine Qam [sV p0] Qg3 h (fun x1 hy=>(Qab2 p0 x1 hy)) (fun x1 hy h=>?_);refine Qar (t:=Qe5) h ?_;exact .p (.not)
def Qjo:Option (Unit) :=
 some ()
theorem Qxi:∀ (o:Unit),Qjo  = some o→PCall Tryz.prog 62 [] (Qkp o):=by
 intro o h;unfold Qjo at h;refine PCall.ofB mixed tbOk Qxd Tryz.func62 rfl (by kernel_rfl) (Nat.le_of_ble_eq_true rfl) ?_;refine Qar (t:=Qkp) h ?_;exact .refl _
def Qeb (p0:Qab) (p1:(List Qal)) (v5:Int):Option (Unit⊕Bool) :=
 if(decide (v5 ≥ 0)) then
  idx p1 v5>>=fun x4 =>
  if(x4.Name==p0.Name) then
   idx p1 v5>>=fun x5 =>
   some (.inr x5.Secret)
  else
   Qeb p0 p1 (wr (v5-1))
 else
  some (.inl ())
 partial_fixpoint
theorem Qad0:∀ (p0:Qab) (p1:(List Qal)),(∀ (v5:Int) (o1:Unit⊕Bool),Qeb p0 p1 v5=some o1→TL (0,0) Tryz.prog 39 Qyc (JP2 (0,0) 39 o1 (.exit 1) (Qoe p0 p1) .ret (Qof p0 p1)) (Qji p0 p1 v5)):=by
 intro p0 p1;refine Qeb.partial_correctness p0 p1 _ ?_;intro Qeb' iQeb v5 o1 h;refine TL.round (Qaq mixed tbOk (lv:=Qtk) _ _ _ ?_);refine Qac h (fun hb h=>?_) (fun hb h=>?_)
 ·refine And.intro (by decide +kernel) (And.intro rfl ?_);refine Qa7 (l:=p1) (c:=Qau) (c' := Qau) h (fun _=>rfl) (fun _=>rfl) (by decide) (fun x4 hi h=>?_);refine Qac h (fun hb h=>?_) (fun hb h=>?_)
  ·refine Qa7 (l:=p1) (c:=Qau) (c' := Qau) h (fun _=>rfl) (fun _=>rfl) (by decide) (fun x5 hi h=>?_);exact JP2.b h (Le.tz 2 0 rfl rfl rfl)
  ·refine TL.le (τ := Qji p0 p1 (wr (v5-1))) ?_ ((iQeb (wr (v5-1)) _ h));exact Le.tz 2 0 rfl rfl rfl
 ·exact JP2.a h (Le.tz 2 0 rfl rfl rfl)
mutual
def Qem (p0:Qab) (p1:(List Qal)):Option (Bool) :=
 if(p0.Kind==7) then
  some true
 else
  if(p0.Kind==4) then
   (Qeb p0 p1 (wr ((p1.length:Int)-1)))>>=fun o1 =>
   match o1 with
   | .inl y2 =>
    some false
   | .inr y3 =>
    some y3
  else
   ( if(p0.Kind==5) then
     some (p0.Kind==5)
    else
     some (p0.Kind==6):Option (Bool))>>=fun o6 =>
   if o6 then
    Qa6 p0.L p1>>=fun x7 =>
    some x7
   else
    some false
 partial_fixpoint
def Qa6 (p0:(List Qab)) (h0_0:(List Qal)):Option (Bool) :=
 Qbj p0 h0_0>>=fun x1 =>
 some (decide (x1 ≥ 0))
 partial_fixpoint
def Qbj (p0:(List Qab)) (h0_0:(List Qal)):Option (Int) :=
 (Qav p0 h0_0 0)>>=fun o1 =>
 match o1 with
 | .inl y2 =>
  some (-1)
 | .inr y3 =>
  some y3
 partial_fixpoint
def Qav (p0:(List Qab)) (h0_0:(List Qal)) (v8:Int):Option (Unit⊕Int) :=
 if(decide (v8<(p0.length:Int))) then
  idx p0 v8>>=fun x4 =>
  Qo6 x4 h0_0>>=fun x5 =>
  if x5 then
   some (.inr v8)
  else
   Qav p0 h0_0 (wr (v8+1))
 else
  some (.inl ())
 partial_fixpoint
def Qo6 (p0:Qab) (h0_0:(List Qal)):Option (Bool) :=
 Qem p0 h0_0>>=fun x1 =>
 some x1
 partial_fixpoint
end
theorem Qzs:∀ (p1:(List Qal)),(∀ (p0:Qab) (o:Bool),Qem p0 p1=some o→PCall Tryz.prog 23 [.agg [iV p0.Kind,sV p0.Name,sV p0.Text,iV p0.N,.sl false (p0.L.map Qaa),.sl false (p0.Then.map Qaa),.sl false (p0.Else.map Qaa)],.sl false (p1.map Qau)] (Qct o))∧(∀ (p0:(List Qab)) (o:Bool),Qa6 p0 p1=some o→CallOK Tryz.prog 56 [.p (.sl false (p0.map Qaa)),.fn (.func 57) [] [.ptr 0 0]] ⟨[[.p (.sl false (p1.map Qau))]],[]⟩ (Qbv o) ⟨[[.p (.sl false (p1.map Qau))]],[]⟩)∧(∀ (p0:(List Qab)) (o:Int),Qbj p0 p1=some o→CallOK Tryz.prog 83 [.p (.sl false (p0.map Qaa)),.fn (.func 57) [] [.ptr 0 0]] ⟨[[.p (.sl false (p1.map Qau))]],[]⟩ (Qbi o) ⟨[[.p (.sl false (p1.map Qau))]],[]⟩)∧(∀ (p0:(List Qab)) (v8:Int) (o1:Unit⊕Int),Qav p0 p1 v8=some o1→TL (1,0) Tryz.prog 19 Qds (JP2 (1,0) 19 o1 (.exit 0) (Qbt p0 p1) .ret (Qbu p0 p1)) (Qbd p0 p1 v8))∧(∀ (p0:Qab) (o:Bool),Qo6 p0 p1=some o→CallOK Tryz.prog 57 [.p (.agg [iV p0.Kind,sV p0.Name,sV p0.Text,iV p0.N,.sl false (p0.L.map Qaa),.sl false (p0.Then.map Qaa),.sl false (p0.Else.map Qaa)]),.ptr 0 0] ⟨[[.p (.sl false (p1.map Qau))]],[]⟩ (Qrk o) ⟨[[.p (.sl false (p1.map Qau))]],[]⟩):=by
 intro p1;refine Qem.mutual_partial_correctness p1 _ _ _ _ _ ?_ ?_ ?_ ?_ ?_
 ·intro Qa6' iQa6 p0 o h;refine PCall.ofB mixed tbOk Qtk Tryz.func23 rfl (by kernel_rfl) (Nat.le_of_ble_eq_true rfl) ?_;refine Qac h (fun hb h=>?_) (fun hb h=>?_)
  ·refine Qar (t:=Qct) h ?_;exact .refl _
  ·refine Qac h (fun hb h=>?_) (fun hb h=>?_)
   ·refine view (Qax _ _) rfl ?_;refine Qaj h (fun o1 ho hk=>?_);refine Exists.intro (JP2 _ _ o1 (.exit 1) (Qoe p0 p1) .ret (Qof p0 p1)) (And.intro (Qhn (τ := Qji p0 p1 (wr ((p1.length:Int)-1))) ?_ (TL.loop (Qad0 p0 p1 (wr ((p1.length:Int)-1)) o1 ho))) (Qfx (fun y2 hy=>?_) (fun y3 hy=>?_)))
    ·exact Le.tz 2 0 rfl rfl rfl
    ·have h:=(by rw[hy] at hk; exact hk);refine Qar (t:=Qct) h ?_;exact .refl _
    ·have h:=(by rw[hy] at hk; exact hk);refine Qar (t:=Qct) h ?_;exact .refl _
   ·refine Qaj h (fun o6 ho hk=>?_);refine Exists.intro (JP1 _ _ o6 .normal (Qyd p0 p1)) (And.intro ?_ (Qa5 ?_))
    ·have h:=ho;refine Qac h (fun hb h=>?_) (fun hb h=>?_)
     ·refine JP1.a h ?_;exact Le.tz 2 0 rfl rfl rfl
     ·refine JP1.a h ?_;exact Le.tz 2 0 rfl rfl rfl
    ·have h:=hk;refine Qac h (fun hb h=>?_) (fun hb h=>?_)
     ·refine Qap _ _ h (fun x7 hy=>((iQa6 p0.L x7 hy).fr [1] [] rfl rfl rfl)) (fun x7 hy h=>?_);refine Qar (t:=Qct) h ?_;exact .refl _
     ·refine Qar (t:=Qct) h ?_;exact .refl _
 ·intro Qbj' iQbj p0 o h;refine CallOK.ofB mixed tbOk Qdq Tryz.func56 rfl (by kernel_rfl) (Nat.le_of_ble_eq_true rfl) rfl rfl rfl ?_;refine Qap _ _ h (fun x1 hy=>((iQbj p0 x1 hy).fr [0] [] rfl rfl rfl)) (fun x1 hy h=>?_);refine Exists.intro _ (And.intro (Le.refl _ _ _) ?_);exact Qbb (t:=Qbv) (ss:=fun o=>⟨[[.p (.sl false (p1.map Qau))]],[]⟩) h ⟨[],rfl,.refl _,.refl _,rfl⟩
 ·intro Qav' iQav p0 o h;refine CallOK.ofB mixed tbOk Qb2 Tryz.func83 rfl (by kernel_rfl) (Nat.le_of_ble_eq_true rfl) rfl rfl rfl ?_;refine view (Qax _ _) rfl ?_;refine Qaj h (fun o1 ho hk=>?_);refine Exists.intro (JP2 _ _ o1 (.exit 0) (Qbt p0 p1) .ret (Qbu p0 p1)) (And.intro (Qhn (τ := Qbd p0 p1 0) ?_ (TL.loop (iQav p0 0 o1 ho))) (Qfx (fun y2 hy=>?_) (fun y3 hy=>?_)))
  ·exact Le.tz 1 0 rfl rfl rfl
  ·have h:=(by rw[hy] at hk; exact hk);refine Exists.intro _ (And.intro (Le.refl _ _ _) ?_);exact Qbb (t:=Qbi) (ss:=fun o=>⟨[[.p (.sl false (p1.map Qau))]],[]⟩) h ⟨[],rfl,.refl _,.refl _,rfl⟩
  ·have h:=(by rw[hy] at hk; exact hk);refine Exists.intro _ (And.intro (Le.refl _ _ _) ?_);exact Qbb (t:=Qbi) (ss:=fun o=>⟨[[.p (.sl false (p1.map Qau))]],[]⟩) h ⟨[],rfl,.refl _,.refl _,rfl⟩
 ·intro Qav' Qo6' iQav iQo6 p0 v8 o1 h;refine TL.round (Qaq mixed tbOk (lv:=Qb2) _ _ _ ?_);refine Qac h (fun hb h=>?_) (fun hb h=>?_)
  ·refine Qa7 (l:=p0) (c:=Qaa) (c' := Qa2) h Qan (fun _=>rfl) (by decide) (fun x4 hi h=>?_);refine Qap _ _ h (fun x5 hy=>((iQo6 x4 x5 hy).fr [0] [] rfl rfl rfl)) (fun x5 hy h=>?_);refine Qac h (fun hb h=>?_) (fun hb h=>?_)
   ·exact JP2.b h (Le.tz 1 0 rfl rfl rfl)
   ·refine TL.le (τ := Qbd p0 p1 (wr (v8+1))) ?_ ((iQav p0 (wr (v8+1)) _ h));exact Le.tz 1 0 rfl rfl rfl
  ·exact JP2.a h (Le.tz 1 0 rfl rfl rfl)
 ·intro Qem' iQem p0 o h;refine CallOK.ofB mixed tbOk Qye Tryz.func57 rfl (by kernel_rfl) (Nat.le_of_ble_eq_true rfl) rfl rfl rfl ?_;refine Qam [.agg [iV p0.Kind,sV p0.Name,sV p0.Text,iV p0.N,.sl false (p0.L.map Qaa),.sl false (p0.Then.map Qaa),.sl false (p0.Else.map Qaa)],.sl false (p1.map Qau)] Qct h (fun x1 hy=>(iQem p0 x1 hy)) (fun x1 hy h=>?_);refine Exists.intro _ (And.intro (Le.refl _ _ _) ?_);exact Qbb (t:=Qrk) (ss:=fun o=>⟨[[.p (.sl false (p1.map Qau))]],[]⟩) h ⟨[],rfl,.refl _,.refl _,rfl⟩
theorem Qtm:∀ (p0:Qab) (p1:(List Qal)) (o:Bool),Qem p0 p1=some o→PCall Tryz.prog 23 [.agg [iV p0.Kind,sV p0.Name,sV p0.Text,iV p0.N,.sl false (p0.L.map Qaa),.sl false (p0.Then.map Qaa),.sl false (p0.Else.map Qaa)],.sl false (p1.map Qau)] (Qct o):=fun p0 p1=>(Qzs p1).1 p0
def Qbr (p0:(List Qal)):Option ((List Qal)) :=
 appL 32 [] p0
theorem Qen:∀ (p0:(List Qal)) (o:(List Qal)),Qbr p0=some o→CallOK Tryz.prog 88 [.p (.sl false (p0.map Qau))] ⟨[],[]⟩ (Qc1 o) ⟨[],[1]⟩:=by
 intro p0 o h;unfold Qbr at h;have h:(appL 32 ([]:List Qal) p0>>=fun r=>some r)=some o:=by rw[h]; rfl
 refine CallOK.ofB mixed tbOk Qjk Tryz.func88 rfl (by kernel_rfl) (Nat.le_of_ble_eq_true rfl) rfl rfl rfl ?_;refine⟨rfl,rfl,rfl,fun b hb=>?_⟩;cases b with
 | true =>
  refine bT ?_;obtain rfl:=List.map_eq_nil_iff.1 (hb rfl);have h:some ([]:List Qal)=some o:=h;refine Exists.intro _ (And.intro (Le.xnil (.s 2) 46 3 rfl) ?_);exact Qbb (t:=Qc1) (ss:=fun o=>⟨[],[1]⟩) h ⟨[0],rfl,.refl _,.refl _,rfl⟩
 | false =>
  refine bF ?_;refine Qafc (a:=([]:List Qal)) (b:=p0) (c:=Qau) h (.refl _) (.refl _) (fun _=>rfl) (.inl rfl) (fun r hi h=>?_);refine Exists.intro _ (And.intro (Le.refl _ _ _) ?_);exact Qbb (t:=Qc1) (ss:=fun o=>⟨[],[1]⟩) h ⟨[0],rfl,.refl _,.refl _,rfl⟩
instance Q2m:Lean.Order.CCPO ((List UInt8)→Bool→(List (Qag×Int))→Option (((List UInt8)×Bool×(List (Qag×Int)))⊕((List UInt8)×Bool×(List (Qag×Int))))):=inferInstance
instance Q2n:Lean.Order.CCPO ((List Qab)→(List Qal)→Int→(List UInt8)→Bool→(List (Qag×Int))→Option (((List UInt8)×Bool×(List (Qag×Int)))⊕((List UInt8)×Bool×(List (Qag×Int))))):=inferInstance
mutual
def Qbe (p1:(List UInt8)) (p2:(List Qab)) (p3:(List Qal)) (h0_0:(List Qae)) (h0_2:(List UInt8)) (h0_3:Bool) (h1_0:(List (Qag×Int))):Option ((List UInt8)×Bool×(List (Qag×Int))) :=
 (Qbf p1 p2 p3 h0_0 0 h0_2 h0_3 h1_0)>>=fun o1 =>
 match o1 with
 | .inl y2 =>
  some (y2.1,y2.2.1,y2.2.2)
 | .inr y3 =>
  some (y3.1,y3.2.1,y3.2.2)
 partial_fixpoint
def Qbf (p1:(List UInt8)) (p2:(List Qab)) (p3:(List Qal)) (h0_0:(List Qae)) (v14:Int) (h0_2_:(List UInt8)) (h0_3_:Bool) (h1_0_:(List (Qag×Int))):Option (((List UInt8)×Bool×(List (Qag×Int)))⊕((List UInt8)×Bool×(List (Qag×Int)))) :=
 if(decide (v14<(p2.length:Int))) then
  idx p2 v14>>=fun x4 =>
  if h0_3_ then
   some (.inr (h0_2_,h0_3_,h1_0_))
  else
   if(x4.Kind==8) then
    Qbf p1 p2 p3 h0_0 (wr (v14+1)) h0_2_ h0_3_ h1_0_
   else
    idx x4.L 0>>=fun x5 =>
    Qem x5 p3>>=fun x6 =>
    Qbr p3>>=fun x7 =>
    ( if(x4.Kind==9) then
      if x6 then
       Qjo>>=fun x12 =>
       some (.inl x7)
      else
       some (.inl x7)
     else
      ( if(x4.Kind==10) then
        some (x4.Kind==10)
       else
        some (x4.Kind==11):Option (Bool))>>=fun o13 =>
      if o13 then
       if x6 then
        some (.inr (.inr ()))
       else
        if(x4.Kind==11) then
         appL 32 x7 [(Qal.mk x4.Name 0 false)]>>=fun x14 =>
         some (.inl x14)
        else
         some (.inl x7)
      else
       if(x4.Kind==12) then
        appL 32 x7 [(Qal.mk x4.Name 0 x6)]>>=fun x15 =>
        some (.inl x15)
       else
        if(x4.Kind==13) then
         Qeo (Qag.mk x4.Name x6) h0_0 h0_2_ h0_3_ h1_0_>>=fun x16 =>
         some (.inr (.inl (x16.1,x16.2.1,x16.2.2)))
        else
         some (.inl x7):Option ((List Qal)⊕((List UInt8)×Bool×(List (Qag×Int)))⊕Unit))>>=fun o8 =>
    match o8 with
    | .inl y9 =>
     Qbe p1 x4.Then y9 h0_0 h0_2_ h0_3_ h1_0_>>=fun x17 =>
     Qbe p1 x4.Else p3 h0_0 x17.1 x17.2.1 x17.2.2>>=fun x18 =>
     Qbf p1 p2 p3 h0_0 (wr (v14+1)) x18.1 x18.2.1 x18.2.2
    | .inr (.inl y10) =>
     Qbf p1 p2 p3 h0_0 (wr (v14+1)) y10.1 y10.2.1 y10.2.2
    | .inr (.inr y11) =>
     some (.inr (p1,true,h1_0_))
 else
  some (.inl (h0_2_,h0_3_,h1_0_))
 partial_fixpoint
def Qeo (p1:Qag) (h0_0:(List Qae)) (h0_2:(List UInt8)) (h0_3:Bool) (h1_0:(List (Qag×Int))):Option ((List UInt8)×Bool×(List (Qag×Int))) :=
 if(decide (((mget (fun(a b:Qag)=>(a.name_==b.name_&&(a.it_==b.it_&&true))) p1 h1_0).getD 0)>0)) then
  some (h0_2,h0_3,h1_0)
 else
  Qhj h0_0 p1.name_>>=fun x1 =>
  Qbe p1.name_ x1.1 ([(Qal.mk [103,114,111,117,112] 0 false),(Qal.mk [105,116] 0 p1.it_)]) h0_0 h0_2 h0_3 (mset (fun(a b:Qag)=>(a.name_==b.name_&&(a.it_==b.it_&&true))) p1 1 h1_0)>>=fun x2 =>
  some (x2.1,x2.2.1,x2.2.2)
 partial_fixpoint
end
end Go.Proofs.YtfgegilhjlnohaaGreat
end
