/- A part of the proof. -/
import Derived.Test.YtfgegilhjlnohaaGreatMgInferMore9

noncomputable section
set_option linter.unusedVariables false
set_option linter.unusedSimpArgs false
set_option maxRecDepth 100000
set_option maxHeartbeats 4000000
namespace Go.Proofs.YtfgegilhjlnohaaGreat
open Go.RowKit
structure Qak where
 Name:(List UInt8)
 K:Int
 Secret:Bool
def Qbg (x:Qak):List V:=[sV x.Name,iV x.K,bV x.Secret]
structure Qfu where
 Where:(List UInt8)
 Bad:Bool
 Tells:Bool
structure Qbd where
 name_:(List UInt8)
 it_:Bool
structure Qah where
 Kind:Int
 Text:(List UInt8)
 N:Int
 From:Int
 To:Int
def Qag (x:Qah):List V:=[iV x.Kind,sV x.Text,iV x.N,iV x.From,iV x.To]
def Qys (y:Int×Bool):D :=.tup [.p (iV y.1),.p (bV y.2)]
def Qk5 (y:(List Qah)×Int×Int):D :=.tup [.p (.sl false (y.1.map Qag)),.p (iV y.2.1),.p (iV y.2.2)]
def Qp6:List (Nat×List Nat):=[(0,[0]),(1,[0,12]),(2,[2,3,4]),(3,[0,5]),(4,[0,5,6]),(5,[0,5,6,17]),(6,[0,5,6,7]),(7,[0,5,6,7,23]),(8,[0,5,7]),(9,[0,5,7,37]),(10,[2,3,4]),(11,[0,5,7]),(12,[0,5,6]),(13,[0,5,6,52]),(14,[0,5,6]),(15,[0,5,6]),(16,[0,5,6,62]),(17,[2,3,4]),(18,[0,5,6,8,9]),(19,[0,5,6,8,71]),(20,[2,3,4]),(21,[0,5,8]),(22,[0,5,6,8]),(23,[0,5,6,81]),(24,[2,3,4]),(1000005,[0,5,6]),(1000015,[0,5,6]),(2007005,[]),(2013005,[])]
def Q12 (p0:(List UInt8)) (x4:Int) (o5:(List Qah)):St:=⟨[(0,.p (sV p0)),(5,.own 0 147 5 (o5.map Qag)),(7,.p (iV x4))],⟨[],[(o5.map Qag).length]⟩⟩
def Q13 (p0:(List UInt8)) (x8:(List Qah)) (o10:Int):St:=⟨[(0,.p (sV p0)),(5,.own 0 147 5 (x8.map Qag)),(6,.p (iV o10))],⟨[],[(x8.map Qag).length]⟩⟩
def Qlr (p0:(List UInt8)) (v5_:(List Qah)) (v6_:Int):St:=⟨[(0,.p (sV p0)),(5,.own 0 147 5 (v5_.map Qag)),(6,.p (iV v6_))],⟨[],[(v5_.map Qag).length]⟩⟩
def Qqv (p0:(List UInt8)) (y14:(List Qah)×Int):St:=⟨[(0,.p (sV p0)),(5,.own 0 147 5 (y14.1.map Qag)),(6,.p (iV y14.2))],⟨[],[(y14.1.map Qag).length]⟩⟩
def Qqw (p0:(List UInt8)) (y15:Int):St:=⟨[(2,.p (.sl true [])),(3,.p (iV y15)),(4,.p (iV 7))],⟨[],[]⟩⟩
def Q14:Code:=((Qav (Tryz.f115.body.getD .skip)).getD 1 .skip)
def Qls (p0:(List UInt8)) (v5:(List Qah)) (v6:Int):St:=⟨[(0,.p (sV p0)),(5,.own 0 147 5 (v5.map Qag)),(6,.p (iV v6))],⟨[],[(v5.map Qag).length]⟩⟩
def Qqx (p0:(List UInt8)) (y2:(List Qah)):St:=⟨[(5,.own 0 147 5 (y2.map Qag))],⟨[],[(y2.map Qag).length]⟩⟩
def Qqy (p0:(List UInt8)) (y3:(List Qah)×Int×Int):St:=⟨[(2,.p (.sl false (y3.1.map Qag))),(3,.p (iV y3.2.1)),(4,.p (iV y3.2.2))],⟨[],[]⟩⟩
def Q15:Code:=((Qav (Tryz.f115.body.getD .skip)).getD 0 .skip)
def Qvo (y:Bool):D :=.p (bV y)
def Qab9:List (Nat×List Nat):=[(0,[0]),(1,[2]),(3000001,[])]
def Q4g  (o1:Bool):St:=⟨[(2,.p (bV o1))],⟨[],[]⟩⟩
def Qnw (y:Int):D :=.p (iV y)
def Qwp:List (Nat×List Nat):=[(0,[0,1]),(1,[0,1,14]),(2,[0,1]),(3,[4]),(1000001,[0,1]),(3000001,[])]
def Q16 (p0:(List UInt8)) (v1:Int) (o2:Bool):St:=⟨[(0,.p (sV p0)),(1,.p (iV v1)),(14,.p (bV o2))],⟨[],[]⟩⟩
def Qlt (p0:(List UInt8)) (v1:Int):St:=⟨[(0,.p (sV p0)),(1,.p (iV v1))],⟨[],[]⟩⟩
def Qqz (p0:(List UInt8)) (o1:Int):St:=⟨[(1,.p (iV o1))],⟨[],[]⟩⟩
def Q17:Code:=((Qav (Tryz.f140.body.getD .skip)).getD 0 .skip)
def Qtp (y:Int):D :=.p (iV y)
def Q18:List (Nat×List Nat):=[(0,[0,1,2]),(1,[0,1,2,17]),(2,[0,1,2]),(3,[6]),(1000001,[0,1,2]),(3000001,[])]
def Q8v (p0:(List UInt8)) (p1:(List UInt8)) (v2:Int) (o2:Bool):St:=⟨[(0,.p (sV p0)),(1,.p (sV p1)),(2,.p (iV v2)),(17,.p (bV o2))],⟨[],[]⟩⟩
def Qol (p0:(List UInt8)) (p1:(List UInt8)) (v2:Int):St:=⟨[(0,.p (sV p0)),(1,.p (sV p1)),(2,.p (iV v2))],⟨[],[]⟩⟩
def Qu3 (p0:(List UInt8)) (p1:(List UInt8)) (o1:Int):St:=⟨[(2,.p (iV o1))],⟨[],[]⟩⟩
def Q8w:Code:=((Qav (Tryz.f139.body.getD .skip)).getD 0 .skip)
def Qk6 (y:Qah×Bool):D :=.tup [.p (.agg [iV y.1.Kind,sV y.1.Text,iV y.1.N,iV y.1.From,iV y.1.To]),.p (bV y.2)]
def Qtq:List (Nat×List Nat):=[(0,[0,1,4]),(1,[0,1,4,6]),(2,[0,1,4,6,7]),(3,[0,1,4,6,7,24]),(4,[1,4,6]),(5,[4,6]),(6,[4,5]),(7,[0,1,4,6,7,8]),(8,[0,1,4,6,7,8,9]),(9,[0,1,4,6,7,8,9,33]),(10,[0,1,4,6,7,8,9]),(11,[0,1,4,6,7,8,9,40]),(12,[4,6]),(13,[4,5]),(14,[0,1,4,6,7,48]),(15,[1,4,10,11]),(16,[4,5]),(17,[0,1,4,6,7,12]),(18,[0,1,4,6,7,12,64]),(19,[0,1,4,12,86]),(20,[0,1,4,12]),(21,[4,5]),(22,[0,1,4,6,12,106]),(23,[0,1,4,12,116]),(24,[0,1,4,12]),(25,[1,4,12,13,14]),(26,[4,5]),(27,[4,5]),(1000009,[0,1,4,6,7,8,9]),(1000019,[0,1,4,12]),(1000023,[0,1,4,12]),(3000019,[]),(3000022,[]),(3000023,[])]
def Qp7 (p0:(List UInt8)) (p1:Int) (x1:UInt8) (v9:Int):St:=⟨[(0,.p (sV p0)),(1,.p (iV p1)),(4,.ptr 0 0),(6,.ptr 1 0),(7,.p (nV .u8 (x1.toNat:Int))),(8,.p (sV [46,40,41,44,61])),(9,.p (iV v9))],⟨[[.p (iV 0),.p (sV []),.p (iV 0),.p (iV 0),.p (iV 0)],[.p (iV 0),.p (sV []),.p (iV 0),.p (iV p1),.p (iV (wr (p1+1)))]],[]⟩⟩
def Qwq (p0:(List UInt8)) (p1:Int) (x1:UInt8) (y4:Unit):St:=⟨[(0,.p (sV p0)),(1,.p (iV p1)),(4,.ptr 0 0),(6,.ptr 1 0),(7,.p (nV .u8 (x1.toNat:Int)))],⟨[[.p (iV 0),.p (sV []),.p (iV 0),.p (iV 0),.p (iV 0)],[.p (iV 0),.p (sV []),.p (iV 0),.p (iV p1),.p (iV (wr (p1+1)))]],[]⟩⟩
def Qwr (p0:(List UInt8)) (p1:Int) (x1:UInt8) (y5:Int×Int):St:=⟨[(4,.ptr 0 0),(5,.p (bV true))],⟨[[.p (iV y5.1),.p (sV []),.p (iV 0),.p (iV p1),.p (iV (wr (p1+1)))],[.p (iV y5.2),.p (sV []),.p (iV 0),.p (iV p1),.p (iV (wr (p1+1)))]],[]⟩⟩
def Qaca:Code:=((Qav (Tryz.f142.body.getD .skip)).getD 0 .skip)
def Qacb (p0:(List UInt8)) (p1:Int) (v12:Int) (o11:Bool):St:=⟨[(0,.p (sV p0)),(1,.p (iV p1)),(4,.ptr 0 0),(12,.p (iV v12)),(86,.p (bV o11))],⟨[[.p (iV 0),.p (sV []),.p (iV 0),.p (iV 0),.p (iV 0)],[.p (iV 0),.p (sV []),.p (iV 0),.p (iV p1),.p (iV (wr (p1+1)))]],[]⟩⟩
def Qp8 (p0:(List UInt8)) (p1:Int) (v12:Int):St:=⟨[(0,.p (sV p0)),(1,.p (iV p1)),(4,.ptr 0 0),(12,.p (iV v12))],⟨[[.p (iV 0),.p (sV []),.p (iV 0),.p (iV 0),.p (iV 0)],[.p (iV 0),.p (sV []),.p (iV 0),.p (iV p1),.p (iV (wr (p1+1)))]],[]⟩⟩
def Qws (p0:(List UInt8)) (p1:Int) (o10:Int):St:=⟨[(0,.p (sV p0)),(1,.p (iV p1)),(4,.ptr 0 0),(12,.p (iV o10))],⟨[[.p (iV 0),.p (sV []),.p (iV 0),.p (iV 0),.p (iV 0)],[.p (iV 0),.p (sV []),.p (iV 0),.p (iV p1),.p (iV (wr (p1+1)))]],[]⟩⟩
def Qacc:Code:=((Qav (Tryz.f142.body.getD .skip)).getD 1 .skip)
def Qacd (p0:(List UInt8)) (p1:Int) (o20:Bool):St:=⟨[(0,.p (sV p0)),(1,.p (iV p1)),(4,.ptr 0 0),(6,.ptr 1 0),(12,.p (iV (wr (p1+1)))),(106,.p (bV o20))],⟨[[.p (iV 0),.p (sV []),.p (iV 0),.p (iV 0),.p (iV 0)],[.p (iV 0),.p (sV []),.p (iV 0),.p (iV p1),.p (iV (wr (p1+1)))]],[]⟩⟩
def Qace (p0:(List UInt8)) (p1:Int) (v12:Int) (o23:Bool):St:=⟨[(0,.p (sV p0)),(1,.p (iV p1)),(4,.ptr 0 0),(12,.p (iV v12)),(116,.p (bV o23))],⟨[[.p (iV 0),.p (sV []),.p (iV 0),.p (iV 0),.p (iV 0)],[.p (iV 0),.p (sV []),.p (iV 0),.p (iV p1),.p (iV (wr (p1+1)))]],[]⟩⟩
def Qp9 (p0:(List UInt8)) (p1:Int) (v12:Int):St:=⟨[(0,.p (sV p0)),(1,.p (iV p1)),(4,.ptr 0 0),(12,.p (iV v12))],⟨[[.p (iV 0),.p (sV []),.p (iV 0),.p (iV 0),.p (iV 0)],[.p (iV 0),.p (sV []),.p (iV 0),.p (iV p1),.p (iV (wr (p1+1)))]],[]⟩⟩
def Qwt (p0:(List UInt8)) (p1:Int) (o22:Int):St:=⟨[(0,.p (sV p0)),(1,.p (iV p1)),(4,.ptr 0 0),(12,.p (iV o22))],⟨[[.p (iV 0),.p (sV []),.p (iV 0),.p (iV 0),.p (iV 0)],[.p (iV 0),.p (sV []),.p (iV 0),.p (iV p1),.p (iV (wr (p1+1)))]],[]⟩⟩
def Qacf:Code:=((Qav (Tryz.f142.body.getD .skip)).getD 2 .skip)
def Qnx (y:(List UInt8)×Int):D :=.tup [.p (sV y.1),.p (iV y.2)]
def Qwu:List (Nat×List Nat):=[(0,[0,1]),(1,[0,1,6]),(2,[0,1,6]),(3,[0,1,6,15]),(4,[0,1,6,19]),(5,[4,5]),(6,[0,1,6,26]),(7,[0,1,6,31]),(8,[4,5]),(9,[0,1,6,7]),(10,[0,1,6,7,37]),(11,[0,1,6]),(12,[0,1,6,7,41]),(13,[0,1,6]),(14,[0,1,6,49]),(15,[0,1,6]),(16,[4,5]),(17,[0,1,6]),(18,[0,1,6,8,9]),(19,[0,1,6,9,79]),(20,[4,5]),(21,[0,1,6,9]),(22,[0,1,6]),(23,[4,5]),(1000003,[0,1,6]),(3000009,[]),(3000014,[]),(3000019,[])]
def Q19 (p0:(List UInt8)) (v1:Int) (v6:(List UInt8)) (o6:Int):St:=⟨[(0,.p (sV p0)),(1,.p (iV v1)),(6,.p (sV v6)),(7,.p (nV .u8 o6))],⟨[],[]⟩⟩
def Q2a (p0:(List UInt8)) (v1:Int) (v6:(List UInt8)) (o8:Bool):St:=⟨[(0,.p (sV p0)),(1,.p (iV v1)),(6,.p (sV v6)),(49,.p (bV o8))],⟨[],[]⟩⟩
def Q2b (p0:(List UInt8)) (v1:Int) (v6:(List UInt8)) (x10:Int×Int) (o11:Bool):St:=⟨[(0,.p (sV p0)),(1,.p (iV v1)),(6,.p (sV v6)),(9,.p (iV x10.2)),(79,.p (bV o11))],⟨[],[]⟩⟩
def Qd8 (p0:(List UInt8)) (v1:Int) (v6:(List UInt8)):St:=⟨[(0,.p (sV p0)),(1,.p (iV v1)),(6,.p (sV v6))],⟨[],[]⟩⟩
def Qq0 (p0:(List UInt8)) (y2:Unit):St:=⟨[],⟨[],[]⟩⟩
def Qq1 (p0:(List UInt8)) (y3:(List UInt8)×Int):St:=⟨[(4,.p (sV y3.1)),(5,.p (iV y3.2))],⟨[],[]⟩⟩
def Q2c:Code:=((Qav (Tryz.f159.body.getD .skip)).getD 0 .skip)
def Qgp (y:(List Qab)×Int×Int):D :=.tup [.p (.sl false (y.1.map Qaa)),.p (iV y.2.1),.p (iV y.2.2)]
def Qacg:List (Nat×List Nat):=[(0,[0]),(1,[0,5,6,7]),(2,[0,5,6,7,17]),(3,[2,3,4]),(4,[0,5,8]),(5,[0,5,8,9]),(6,[0,5,8,9,28]),(7,[0,5,8,35]),(8,[2,3,4]),(9,[2,3,4]),(10,[9,48]),(11,[2,3,4]),(12,[9,51]),(13,[2,3,4]),(14,[2,3,4])]
def Qny (y:Bool):D :=.p (bV y)
def Qvp:List (Nat×List Nat):=[(0,[0,1]),(1,[4]),(3000001,[])]
def Qsx (h0_0:(List Qah)) (h0_1:Int) (h0_2:Bool) (o1:Bool):St:=⟨[(4,.p (bV o1))],⟨[[.p (.sl false (h0_0.map Qag)),.p (iV h0_1),.p (bV h0_2)]],[]⟩⟩
def Qf2 (y:(List Qab)×Int×Bool):D :=.p (.sl false (y.1.map Qaa))
def Qnd:List (Nat×List Nat):=[(0,[0,1,2]),(1,[0,1,2,7]),(2,[0,1,2,7,27]),(3,[0,1,2,7,29]),(4,[0,1,2,7,8]),(5,[0,1,2,7,8,9]),(6,[0,1,2,7,8,9,45]),(7,[0,1,2,7]),(8,[0,1,2,7]),(9,[0,1,2,7,73]),(10,[6]),(11,[0,1,2,7]),(12,[0,1,2,7,80]),(13,[0,1,2,7]),(14,[0,1,2,7]),(15,[6]),(1000002,[0,1,2,7]),(3000002,[]),(3000006,[]),(3000009,[]),(9000005,[1,0,0,0]),(9000006,[5,0,0,0,6,0,0,0,7,0,0,0]),(9000007,[4,0,0,0,5,0,0,0,6,0,0,0,9,0,0,0,10,0,0,0,11,1,7,0]),(9000008,[4,0,0,0]),(9000014,[4,0,0,0])]
def Qsy (p1:Bool) (p2:Bool) (h0_0:(List Qah)) (v7:(List Qab)) (h0_1_:Int) (h0_2_:Bool) (o4:Bool):St:=⟨[(0,.ptr 0 0),(1,.p (bV p1)),(2,.p (bV p2)),(7,.x 0 1 (.sl 38 7 (v7.map Qaa))),(27,.p (bV o4))],⟨[[.p (.sl false (h0_0.map Qag)),.p (iV h0_1_),.p (bV h0_2_)]],[1]⟩⟩
def Qsz (p1:Bool) (p2:Bool) (h0_0:(List Qah)) (v7:(List Qab)) (x6:Qah×Int×Bool) (o7:Bool):St:=⟨[(0,.ptr 0 0),(1,.p (bV p1)),(2,.p (bV p2)),(7,.x 0 1 (.sl 38 7 (v7.map Qaa))),(8,.p (sV x6.1.Text)),(9,.p (iV (wr ((v7.length:Int)-1)))),(45,.p (bV o7))],⟨[[.p (.sl false (h0_0.map Qag)),.p (iV x6.2.1),.p (bV x6.2.2)]],[1]⟩⟩
def Qs0 (p1:Bool) (p2:Bool) (h0_0:(List Qah)) (v7:(List Qab)) (h0_1_:Int) (h0_2_:Bool) (o12:Bool):St:=⟨[(0,.ptr 0 0),(1,.p (bV p1)),(2,.p (bV p2)),(7,.x 0 1 (.sl 38 7 (v7.map Qaa))),(73,.p (bV o12))],⟨[[.p (.sl false (h0_0.map Qag)),.p (iV h0_1_),.p (bV h0_2_)]],[1]⟩⟩
def Qcb (p1:Bool) (p2:Bool) (h0_0:(List Qah)) (v7:(List Qab)) (h0_1_:Int) (h0_2_:Bool):St:=⟨[(0,.ptr 0 0),(1,.p (bV p1)),(2,.p (bV p2)),(7,.x 0 1 (.sl 38 7 (v7.map Qaa)))],⟨[[.p (.sl false (h0_0.map Qag)),.p (iV h0_1_),.p (bV h0_2_)]],[1]⟩⟩
def Qju (p1:Bool) (p2:Bool) (h0_0:(List Qah)) (y2:(List Qab)×Int×Bool):St:=⟨[(7,.x 0 1 (.sl 38 7 (y2.1.map Qaa)))],⟨[[.p (.sl false (h0_0.map Qag)),.p (iV y2.2.1),.p (bV y2.2.2)]],[1]⟩⟩
def Qjv (p1:Bool) (p2:Bool) (h0_0:(List Qah)) (y3:(List Qab)×Int×Bool):St:=⟨[(6,.x 0 1 (.sl 38 7 (y3.1.map Qaa)))],⟨[[.p (.sl false (h0_0.map Qag)),.p (iV y3.2.1),.p (bV y3.2.2)]],[1]⟩⟩
def Qs1:Code:=((Qav (Tryz.f116.body.getD .skip)).getD 0 .skip)
def Qkh (y:Qab×Int×Bool):D :=.p (.agg [iV y.1.Kind,sV y.1.Name,sV y.1.Text,iV y.1.N,.sl false (y.1.L.map Qaa),.sl false (y.1.Then.map Qaa),.sl false (y.1.Else.map Qaa)])
def Qnz:List (Nat×List Nat):=[(0,[0,2]),(1,[0,2,3]),(2,[0,2,3,7]),(3,[0,2,3]),(4,[0,2,3]),(5,[2]),(1000002,[0,2,3]),(5000004,[3,1005,1008]),(8000004,[2])]
def Qgq (h0_0:(List Qah)) (h0_1_:Int) (h0_2_:Bool) (h2_0:Int) (h2_1:(List UInt8)) (h2_2:(List UInt8)) (h2_3:Int) (h2_4:(List Qab)) (h2_5:(List Qab)) (h2_6:(List Qab)):St:=⟨[(0,.ptr 0 0),(2,.ptr 1 0),(3,.ptr 2 0)],⟨[[.p (.sl false (h0_0.map Qag)),.p (iV h0_1_),.p (bV h0_2_)],[.p (iV 0),.p (sV []),.p (sV []),.p (iV 0),.p (.sl true []),.p (.sl true []),.p (.sl true [])],[.p (iV h2_0),.p (sV h2_1),.p (sV h2_2),.p (iV h2_3),.p (.sl false (h2_4.map Qaa)),.p (.sl false (h2_5.map Qaa)),.p (.sl false (h2_6.map Qaa))]],[]⟩⟩
def Qk7 (h0_0:(List Qah)) (o2:Int×Bool×Int×(List UInt8)×(List UInt8)×Int×(List Qab)×(List Qab)×(List Qab)):St:=⟨[(2,.ptr 1 0),(3,.ptr 2 0)],⟨[[.p (.sl false (h0_0.map Qag)),.p (iV o2.1),.p (bV o2.2.1)],[.p (iV 0),.p (sV []),.p (sV []),.p (iV 0),.p (.sl true []),.p (.sl true []),.p (.sl true [])],[.p (iV o2.2.2.1),.p (sV o2.2.2.2.1),.p (sV o2.2.2.2.2.1),.p (iV o2.2.2.2.2.2.1),.p (.sl false (o2.2.2.2.2.2.2.1.map Qaa)),.p (.sl false (o2.2.2.2.2.2.2.2.1.map Qaa)),.p (.sl false (o2.2.2.2.2.2.2.2.2.map Qaa))]],[]⟩⟩
def Qt6:Code:=((Qav (Tryz.f162.body.getD .skip)).getD 0 .skip)
def Qfc (y:Qab×Int×Bool):D :=.p (.agg [iV y.1.Kind,sV y.1.Name,sV y.1.Text,iV y.1.N,.sl false (y.1.L.map Qaa),.sl false (y.1.Then.map Qaa),.sl false (y.1.Else.map Qaa)])
def Qt7:List (Nat×List Nat):=[(0,[0,2]),(1,[0,2,7]),(2,[0,2]),(3,[0,2,3]),(4,[0,2,3]),(5,[0,2,3]),(6,[0,2,3,20]),(7,[0,2,3]),(8,[0,2,3]),(9,[2,3]),(10,[2]),(11,[0,2,34]),(12,[0,2,4]),(13,[0,2,4,37]),(14,[0,2,4]),(15,[0,2,4]),(16,[0,2,4]),(17,[0,2,4,46]),(18,[0,2,4]),(19,[0,2,4]),(20,[0,2,4]),(21,[0,2,4]),(22,[0,2,4]),(23,[2,4]),(24,[2]),(25,[0,2,5]),(26,[0,2,5,69]),(27,[0,2,5]),(28,[0,2,5]),(29,[0,2,5]),(30,[0,2,5]),(31,[2,5]),(32,[2]),(2006007,[]),(2013005,[]),(2017005,[]),(2026009,[]),(3000011,[])]
def Qrc (h0_0:(List Qah)) (x3:Qab×Int×Bool) (x5:(List Qab)×Int×Bool) (o6:Int×Bool×(List Qab)):St:=⟨[(0,.ptr 0 0),(2,.ptr 1 0),(3,.ptr 2 0)],⟨[[.p (.sl false (h0_0.map Qag)),.p (iV o6.1),.p (bV o6.2.1)],[.p (iV 0),.p (sV []),.p (sV []),.p (iV 0),.p (.sl true []),.p (.sl true []),.p (.sl true [])],[.p (iV 10),.p (sV []),.p (sV []),.p (iV 0),.p (.sl true ([x3.1].map Qaa)),.p (.sl false (x5.1.map Qaa)),.p (.sl false (o6.2.2.map Qaa))]],[]⟩⟩
def Qrd (h0_0:(List Qah)) (h0_1:Int) (h0_2:Bool) (o11:Bool):St:=⟨[(0,.ptr 0 0),(2,.ptr 1 0),(34,.p (bV o11))],⟨[[.p (.sl false (h0_0.map Qag)),.p (iV h0_1),.p (bV h0_2)],[.p (iV 0),.p (sV []),.p (sV []),.p (iV 0),.p (.sl true []),.p (.sl true []),.p (.sl true [])]],[]⟩⟩
def Qre (h0_0:(List Qah)) (h0_1:Int) (h0_2:Bool) (o14:Int):St:=⟨[(0,.ptr 0 0),(2,.ptr 1 0),(4,.ptr 2 0)],⟨[[.p (.sl false (h0_0.map Qag)),.p (iV h0_1),.p (bV h0_2)],[.p (iV 0),.p (sV []),.p (sV []),.p (iV 0),.p (.sl true []),.p (.sl true []),.p (.sl true [])],[.p (iV o14),.p (sV []),.p (sV []),.p (iV 0),.p (.sl true []),.p (.sl true []),.p (.sl true [])]],[]⟩⟩
def Qrf (h0_0:(List Qah)) (o14:Int) (x17:(List UInt8)×Int×Bool) (o18:Int×Bool):St:=⟨[(0,.ptr 0 0),(2,.ptr 1 0),(4,.ptr 2 0)],⟨[[.p (.sl false (h0_0.map Qag)),.p (iV o18.1),.p (bV o18.2)],[.p (iV 0),.p (sV []),.p (sV []),.p (iV 0),.p (.sl true []),.p (.sl true []),.p (.sl true [])],[.p (iV o14),.p (sV x17.1),.p (sV []),.p (iV 0),.p (.sl true []),.p (.sl true []),.p (.sl true [])]],[]⟩⟩
def Qrg (h0_0:(List Qah)) (o27:Int×Bool×Int×(List UInt8)):St:=⟨[(0,.ptr 0 0),(2,.ptr 1 0),(5,.ptr 2 0)],⟨[[.p (.sl false (h0_0.map Qag)),.p (iV o27.1),.p (bV o27.2.1)],[.p (iV 0),.p (sV []),.p (sV []),.p (iV 0),.p (.sl true []),.p (.sl true []),.p (.sl true [])],[.p (iV o27.2.2.1),.p (sV o27.2.2.2),.p (sV []),.p (iV 0),.p (.sl true []),.p (.sl true []),.p (.sl true [])]],[]⟩⟩
def Qn0 (_:Int×Bool):D :=.tup []
def Qvq:List (Nat×List Nat):=[(0,[])]
def Qq2 (_:Int×Bool):D :=.tup []
def Qxz:List (Nat×List Nat):=[(0,[0,1]),(1,[0]),(2,[])]
def Qbs (y:Qab×Int×Bool):D :=.p (.agg [iV y.1.Kind,sV y.1.Name,sV y.1.Text,iV y.1.N,.sl false (y.1.L.map Qaa),.sl false (y.1.Then.map Qaa),.sl false (y.1.Else.map Qaa)])
def Qne:List (Nat×List Nat):=[(0,[0,2]),(1,[0,2,7]),(2,[2]),(3,[0,2,13]),(4,[2]),(5,[0,2,19]),(6,[2]),(7,[2]),(8,[0,2,24]),(9,[2]),(10,[2]),(11,[0,2,29]),(12,[0,2]),(13,[0,2]),(14,[0,2,3]),(15,[2,3]),(16,[2]),(17,[0,2,4]),(18,[0,2,4,66]),(19,[2]),(20,[0,2,4]),(21,[0,2,4]),(22,[0,2,4,72]),(23,[2,4]),(24,[2]),(25,[0,2,4,5]),(26,[0,2,4,5,84]),(27,[0,2,4,5]),(28,[0,2,4,5]),(29,[0,2,4,5,95]),(30,[0,2,4,5,97]),(31,[0,2,4,5]),(32,[2,4]),(33,[2]),(1000026,[0,2,4,5]),(3000014,[]),(3000026,[]),(5000014,[17]),(5000028,[3,1001,1007]),(8000028,[2])]
def Qs2 (h0_0:(List Qah)) (o13:Int×Bool×Int×(List UInt8)×Int×Int×Int):St:=⟨[(0,.ptr 0 0),(2,.ptr 1 0),(3,.ptr 2 0)],⟨[[.p (.sl false (h0_0.map Qag)),.p (iV o13.1),.p (bV o13.2.1)],[.p (iV 0),.p (sV []),.p (sV []),.p (iV 0),.p (.sl true []),.p (.sl true []),.p (.sl true [])],[.p (iV o13.2.2.1),.p (sV o13.2.2.2.1),.p (iV o13.2.2.2.2.1),.p (iV o13.2.2.2.2.2.1),.p (iV o13.2.2.2.2.2.2)]],[]⟩⟩
def Qs3 (h0_0:(List Qah)) (x21:(List UInt8)×Int×Bool) (v5:Int) (h0_1_:Int) (h0_2_:Bool) (h2_4:(List Qab)) (o27:Bool):St:=⟨[(0,.ptr 0 0),(2,.ptr 1 0),(4,.ptr 2 0),(5,.p (iV v5)),(84,.p (bV o27))],⟨[[.p (.sl false (h0_0.map Qag)),.p (iV h0_1_),.p (bV h0_2_)],[.p (iV 0),.p (sV []),.p (sV []),.p (iV 0),.p (.sl true []),.p (.sl true []),.p (.sl true [])],[.p (iV 6),.p (sV x21.1),.p (sV []),.p (iV 0),.own 0 38 7 (h2_4.map Qaa),.p (.sl true []),.p (.sl true [])]],[(h2_4.map Qaa).length]⟩⟩
def Qd5 (h0_0:(List Qah)) (x21:(List UInt8)×Int×Bool) (v5:Int) (h0_1_:Int) (h0_2_:Bool) (h2_4:(List Qab)):St:=⟨[(0,.ptr 0 0),(2,.ptr 1 0),(4,.ptr 2 0),(5,.p (iV v5))],⟨[[.p (.sl false (h0_0.map Qag)),.p (iV h0_1_),.p (bV h0_2_)],[.p (iV 0),.p (sV []),.p (sV []),.p (iV 0),.p (.sl true []),.p (.sl true []),.p (.sl true [])],[.p (iV 6),.p (sV x21.1),.p (sV []),.p (iV 0),.own 0 38 7 (h2_4.map Qaa),.p (.sl true []),.p (.sl true [])]],[(h2_4.map Qaa).length]⟩⟩
def Qjw (h0_0:(List Qah)) (x21:(List UInt8)×Int×Bool) (o26:Int×Bool×(List Qab)):St:=⟨[(0,.ptr 0 0),(2,.ptr 1 0),(4,.ptr 2 0)],⟨[[.p (.sl false (h0_0.map Qag)),.p (iV o26.1),.p (bV o26.2.1)],[.p (iV 0),.p (sV []),.p (sV []),.p (iV 0),.p (.sl true []),.p (.sl true []),.p (.sl true [])],[.p (iV 6),.p (sV x21.1),.p (sV []),.p (iV 0),.own 0 38 7 (o26.2.2.map Qaa),.p (.sl true []),.p (.sl true [])]],[(o26.2.2.map Qaa).length]⟩⟩
def Qs4:Code:=((Qav (Tryz.f173.body.getD .skip)).getD 0 .skip)
def Qdz (y:Bool):D :=.p (bV y)
def Qzf:List (Nat×List Nat):=[(0,[0,1]),(1,[4]),(3000001,[])]
def Qwv (h0_0:(List Qah)) (h0_1:Int) (h0_2:Bool) (o1:Bool):St:=⟨[(4,.p (bV o1))],⟨[[.p (.sl false (h0_0.map Qag)),.p (iV h0_1),.p (bV h0_2)]],[]⟩⟩
def Qpc (y:(List UInt8)×Int×Bool):D :=.p (sV y.1)
def Qww:List (Nat×List Nat):=[(0,[0]),(1,[2]),(3000001,[]),(5000001,[17])]
def Qt8 (h0_0:(List Qah)) (o1:(List UInt8)×Int×Bool):St:=⟨[(2,.p (sV o1.1))],⟨[[.p (.sl false (h0_0.map Qag)),.p (iV o1.2.1),.p (bV o1.2.2)]],[]⟩⟩
def Qki (y:Qah×Int×Bool):D :=.p (.agg [iV y.1.Kind,sV y.1.Text,iV y.1.N,iV y.1.From,iV y.1.To])
def Qwx:List (Nat×List Nat):=[(0,[0,1,4]),(1,[0,4,12]),(2,[4]),(3,[4]),(4,[0,4]),(5,[4]),(3000001,[])]
def Qt9 (h0_0:(List Qah)) (h0_1:Int) (h0_2:Bool) (o1:Bool):St:=⟨[(0,.ptr 0 0),(4,.ptr 1 0),(12,.p (bV o1))],⟨[[.p (.sl false (h0_0.map Qag)),.p (iV h0_1),.p (bV h0_2)],[.p (iV 0),.p (sV []),.p (iV 0),.p (iV 0),.p (iV 0)]],[]⟩⟩
def Qpd (y:Bool):D :=.p (bV y)
def Qwy:List (Nat×List Nat):=[(0,[0,1]),(1,[4]),(3000001,[])]
def Qua (h0_0:(List Qah)) (h0_1:Int) (h0_2:Bool) (o1:Bool):St:=⟨[(4,.p (bV o1))],⟨[[.p (.sl false (h0_0.map Qag)),.p (iV h0_1),.p (bV h0_2)]],[]⟩⟩
def Qh9 (y:Int):D :=.p (iV y)
def Qyt:List (Nat×List Nat):=[(0,[0,1,2]),(1,[0,1,2,7]),(2,[0,1,2,7,8]),(3,[0,1,2,7,8,19]),(4,[0,1,2,7,8]),(5,[0,1,2,7,8]),(6,[0,1,2,7,8,56]),(7,[0,1,2,7,8,9]),(8,[0,1,2,7,8]),(9,[6]),(1000003,[0,1,2,7,8]),(3000003,[]),(3000006,[])]
def Q4h (p0:(List Qae)) (p1:(List Qab)) (p2:Int) (v7:Int) (v8:Int) (o2:Bool):St:=⟨[(0,.p (.sl false (p0.map Qaf))),(1,.p (.sl false (p1.map Qaa))),(2,.p (iV p2)),(7,.p (iV v7)),(8,.p (iV v8)),(19,.p (bV o2))],⟨[],[]⟩⟩
def Q4i (p0:(List Qae)) (p1:(List Qab)) (p2:Int) (v7:Int) (v8:Int) (x4:Int) (x6:Int) (o7:Bool):St:=⟨[(0,.p (.sl false (p0.map Qaf))),(1,.p (.sl false (p1.map Qaa))),(2,.p (iV p2)),(7,.p (iV (wr ((wr ((wr (v7+1))+x4))+x6)))),(8,.p (iV v8)),(56,.p (bV o7))],⟨[],[]⟩⟩
def Qja (p0:(List Qae)) (p1:(List Qab)) (p2:Int) (v7:Int) (v8:Int):St:=⟨[(0,.p (.sl false (p0.map Qaf))),(1,.p (.sl false (p1.map Qaa))),(2,.p (iV p2)),(7,.p (iV v7)),(8,.p (iV v8))],⟨[],[]⟩⟩
def Qs5 (p0:(List Qae)) (p1:(List Qab)) (p2:Int) (o1:Int):St:=⟨[(7,.p (iV o1))],⟨[],[]⟩⟩
def Q4j:Code:=((Qav (Tryz.f60.body.getD .skip)).getD 0 .skip)
def Qfd (y:(List Qae)×Bool):D :=.tup [.p (.sl false (y.1.map Qaf)),.p (bV y.2)]
def Qub:List (Nat×List Nat):=[(0,[0,1]),(1,[0,1]),(2,[0,1,7]),(3,[0,1,18]),(4,[4,5]),(5,[0,8]),(6,[4,5])]
def Qcv (y:(List Qak)):D :=.x 0 1 (.sl 46 3 (y.map Qbg))
def Qjb:List (Nat×List Nat):=[(0,[0]),(1,[0,4]),(2,[2]),(3,[2]),(9000001,[1,0,0,0]),(9000003,[2,0,0,0])]
def Qtr (p0:(List UInt8)):Option (Int×Bool) :=
 need (p0.length≤9223372036854775807)>>=fun _ =>
 some (Q1a p0)
theorem Q8x:∀ (p0:(List UInt8)) (o:Int×Bool),Qtr p0=some o→PCall Tryz.prog 160 [sV p0] (Qys o):=by
 intro p0 o h;unfold Qtr at h;obtain⟨h1,h⟩:=Qabc h;cases h;exact Qahs _ h1
def Qwz (p0:Int):Option (Bool) :=
 ( if(p0==32) then
   some true
  else
   if(p0==9) then
    some true
   else
    if(p0==10) then
     some true
    else
     some (p0==13):Option (Bool))>>=fun o1 =>
 some o1
theorem Qach:∀ (p0:Int) (o:Bool),Qwz p0=some o→PCall Tryz.prog 158 [nV .u8 p0] (Qvo o):=by
 intro p0 o h;unfold Qwz at h;refine PCall.ofB mixed tbOk Qab9 Tryz.func158 rfl (by kernel_rfl) (Nat.le_of_ble_eq_true rfl) ?_;refine Qai h (fun o1 ho hk=>?_);refine Exists.intro (JP1 _ _ o1 .normal (Q4g )) (And.intro ?_ (Qay ?_))
 ·have h:=ho;refine Qad h (fun hb h=>?_) (fun hb h=>?_)
  ·refine bT ?_;refine bT ?_;exact JP1.a h (Le.tz 0 0 rfl rfl rfl)
  ·refine Qad h (fun hb h=>?_) (fun hb h=>?_)
   ·refine bT ?_;exact JP1.a h (Le.tz 0 0 rfl rfl rfl)
   ·refine Qad h (fun hb h=>?_) (fun hb h=>?_)
    ·exact JP1.a h (Le.tz 0 0 rfl rfl rfl)
    ·exact JP1.a h (Le.tz 0 0 rfl rfl rfl)
 ·have h:=hk;refine Qam (t:=Qvo) h ?_;exact .refl _
def Qfe (p0:(List UInt8)) (v1:Int):Option (Int) :=
 ( if(decide (v1<(p0.length:Int))) then
   idx p0 v1>>=fun x3 =>
   Qwz (x3.toNat:Int)>>=fun x4 =>
   some x4
  else
   some false:Option (Bool))>>=fun o2 =>
 if o2 then
  Qfe p0 (wr (v1+1))
 else
  some v1
 partial_fixpoint
theorem Qah1:∀ (p0:(List UInt8)),(∀ (v1:Int) (o1:Int),Qfe p0 v1=some o1→TL (0,0) Tryz.prog 18 Q17 (JP1 (0,0) 18 o1 (.exit 0) (Qqz p0)) (Qlt p0 v1)):=by
 intro p0;refine Qfe.partial_correctness p0 _ ?_;intro Qfe' iQfe v1 o1 h;refine TL.round (Qao mixed tbOk (lv:=Qwp) _ _ _ ?_);refine Qai h (fun o2 ho hk=>?_);refine Exists.intro (JP1 _ _ o2 .normal (Q16 p0 v1)) (And.intro ?_ (Qay ?_))
 ·have h:=ho;refine vrfl ?_;refine Qad h (fun hb h=>?_) (fun hb h=>?_)
  ·refine Qda h (fun x3 hi h=>?_);refine Qal [nV .u8 (x3.toNat:Int)] Qvo h (fun x4 hy=>(Qach (x3.toNat:Int) x4 hy)) (fun x4 hy h=>?_);exact JP1.a h (Le.tz 0 0 rfl rfl rfl)
  ·exact JP1.a h (Le.tz 0 0 rfl rfl rfl)
 ·have h:=hk;refine Qad h (fun hb h=>?_) (fun hb h=>?_)
  ·refine TL.le (τ := Qlt p0 (wr (v1+1))) ?_ ((iQfe (wr (v1+1)) _ h));exact Le.tz 0 0 rfl rfl rfl
  ·exact JP1.a h (Le.tz 0 0 rfl rfl rfl)
def Qkj (p0:(List UInt8)) (p1:Int):Option (Int) :=
 (Qfe p0 p1)>>=fun o1 =>
 some o1
theorem Qw0:∀ (p0:(List UInt8)) (p1:Int) (o:Int),Qkj p0 p1=some o→PCall Tryz.prog 140 [sV p0,iV p1] (Qnw o):=by
 intro p0 p1 o h;unfold Qkj at h;refine PCall.ofB mixed tbOk Qwp Tryz.func140 rfl (by kernel_rfl) (Nat.le_of_ble_eq_true rfl) ?_;refine Qai h (fun o1 ho hk=>?_);refine Exists.intro (JP1 _ _ o1 (.exit 0) (Qqz p0)) (And.intro (Qhe (τ := Qlt p0 p1) ?_ (TL.loop (Qah1 p0 p1 o1 ho))) (Qay ?_))
 ·exact Le.tz 0 0 rfl rfl rfl
 have h:=hk;refine Qam (t:=Qnw) h ?_;exact .refl _
def Qkk (p0:(List UInt8)) (p1:Int) (x1:UInt8) (v9:Int):Option (Unit⊕(Int×Int)) :=
 if(decide (v9<([46,40,41,44,61].length:Int))) then
  idx ([46,40,41,44,61]:List UInt8) v9>>=fun x6 =>
  if((x6.toNat:Int)==(x1.toNat:Int)) then
   idx ([7,8,9,10,11]:List Int) v9>>=fun x7 =>
   some (.inr (x7,x7))
  else
   Qkk p0 p1 x1 (wr (v9+1))
 else
  some (.inl ())
 partial_fixpoint
theorem Qal2:∀ (p0:(List UInt8)) (p1:Int) (x1:UInt8),(∀ (v9:Int) (o3:Unit⊕(Int×Int)),Qkk p0 p1 x1 v9=some o3→TL (0,0) Tryz.prog 133 Qaca (JP2 (0,0) 133 o3 (.exit 0) (Qwq p0 p1 x1) .ret (Qwr p0 p1 x1)) (Qp7 p0 p1 x1 v9)):=by
 intro p0 p1 x1;refine Qkk.partial_correctness p0 p1 x1 _ ?_;intro Qkk' iQkk v9 o3 h;refine TL.round (Qao mixed tbOk (lv:=Qtq) _ _ _ ?_);refine vrfl ?_;refine Qad h (fun hb h=>?_) (fun hb h=>?_)
 ·refine Qda h (fun x6 hi h=>?_);refine Qad h (fun hb h=>?_) (fun hb h=>?_)
  ·refine Qa2 (l:=[7,8,9,10,11]) (c:=cInt) (c' := cInt) h (fun _=>rfl) (fun _=>rfl) (by decide) (fun x7 hi h=>?_);exact JP2.b h (Le.tz 2 0 rfl rfl rfl)
  ·refine TL.le (τ := Qp7 p0 p1 x1 (wr (v9+1))) ?_ ((iQkk (wr (v9+1)) _ h));exact Le.tz 2 0 rfl rfl rfl
 ·exact JP2.a h (Le.tz 2 0 rfl rfl rfl)
def Qkl (p0:(List UInt8)) (p1:Int) (v12:Int):Option (Int) :=
 ( if(decide (v12<(p0.length:Int))) then
   idx p0 v12>>=fun x12 =>
   Qfq (x12.toNat:Int)>>=fun x13 =>
   if x13 then
    some true
   else
    idx p0 v12>>=fun x14 =>
    Qfp (x14.toNat:Int)>>=fun x15 =>
    if x15 then
     some true
    else
     idx p0 v12>>=fun x16 =>
     some ((x16.toNat:Int)==95)
  else
   some false:Option (Bool))>>=fun o11 =>
 if o11 then
  Qkl p0 p1 (wr (v12+1))
 else
  some v12
 partial_fixpoint
theorem Qal3:∀ (p0:(List UInt8)) (p1:Int),(∀ (v12:Int) (o10:Int),Qkl p0 p1 v12=some o10→TL (0,0) Tryz.prog 133 Qacc (JP1 (0,0) 133 o10 (.exit 2) (Qws p0 p1)) (Qp8 p0 p1 v12)):=by
 intro p0 p1;refine Qkl.partial_correctness p0 p1 _ ?_;intro Qkl' iQkl v12 o10 h;refine TL.round (Qao mixed tbOk (lv:=Qtq) _ _ _ ?_);refine Qai h (fun o11 ho hk=>?_);refine Exists.intro (JP1 _ _ o11 .normal (Qacb p0 p1 v12)) (And.intro ?_ (Qay ?_))
 ·have h:=ho;refine vrfl ?_;refine Qad h (fun hb h=>?_) (fun hb h=>?_)
  ·refine Qda h (fun x12 hi h=>?_);refine Qal [nV .u8 (x12.toNat:Int)] Qj6 h (fun x13 hy=>(Qnv (x12.toNat:Int) x13 hy)) (fun x13 hy h=>?_);refine Qad h (fun hb h=>?_) (fun hb h=>?_)
   ·refine bT ?_;exact JP1.a h (Le.tz 2 0 rfl rfl rfl)
   ·refine Qda h (fun x14 hi h=>?_);refine Qal [nV .u8 (x14.toNat:Int)] Qj5 h (fun x15 hy=>(Qnu (x14.toNat:Int) x15 hy)) (fun x15 hy h=>?_);refine Qad h (fun hb h=>?_) (fun hb h=>?_)
    ·exact JP1.a h (Le.tz 2 0 rfl rfl rfl)
    ·refine Qda h (fun x16 hi h=>?_);exact JP1.a h (Le.tz 2 0 rfl rfl rfl)
  ·exact JP1.a h (Le.tz 2 0 rfl rfl rfl)
 ·have h:=hk;refine Qad h (fun hb h=>?_) (fun hb h=>?_)
  ·refine TL.le (τ := Qp8 p0 p1 (wr (v12+1))) ?_ ((iQkl (wr (v12+1)) _ h));exact Le.tz 2 0 rfl rfl rfl
  ·exact JP1.a h (Le.tz 2 0 rfl rfl rfl)
def Qkm (p0:(List UInt8)) (p1:Int) (v12:Int):Option (Int) :=
 ( if(decide (v12<(p0.length:Int))) then
   idx p0 v12>>=fun x24 =>
   Qfp (x24.toNat:Int)>>=fun x25 =>
   some x25
  else
   some false:Option (Bool))>>=fun o23 =>
 if o23 then
  Qkm p0 p1 (wr (v12+1))
 else
  some v12
 partial_fixpoint
theorem Qal4:∀ (p0:(List UInt8)) (p1:Int),(∀ (v12:Int) (o22:Int),Qkm p0 p1 v12=some o22→TL (0,0) Tryz.prog 133 Qacf (JP1 (0,0) 133 o22 (.exit 4) (Qwt p0 p1)) (Qp9 p0 p1 v12)):=by
 intro p0 p1;refine Qkm.partial_correctness p0 p1 _ ?_;intro Qkm' iQkm v12 o22 h;refine TL.round (Qao mixed tbOk (lv:=Qtq) _ _ _ ?_);refine Qai h (fun o23 ho hk=>?_);refine Exists.intro (JP1 _ _ o23 .normal (Qace p0 p1 v12)) (And.intro ?_ (Qay ?_))
 ·have h:=ho;refine vrfl ?_;refine Qad h (fun hb h=>?_) (fun hb h=>?_)
  ·refine Qda h (fun x24 hi h=>?_);refine Qal [nV .u8 (x24.toNat:Int)] Qj5 h (fun x25 hy=>(Qnu (x24.toNat:Int) x25 hy)) (fun x25 hy h=>?_);exact JP1.a h (Le.tz 2 0 rfl rfl rfl)
  ·exact JP1.a h (Le.tz 2 0 rfl rfl rfl)
 ·have h:=hk;refine Qad h (fun hb h=>?_) (fun hb h=>?_)
  ·refine TL.le (τ := Qp9 p0 p1 (wr (v12+1))) ?_ ((iQkm (wr (v12+1)) _ h));exact Le.tz 2 0 rfl rfl rfl
  ·exact JP1.a h (Le.tz 2 0 rfl rfl rfl)
def Qc9 (p0:(List UInt8)) (v1:Int) (v6:(List UInt8)):Option (Unit⊕((List UInt8)×Int)) :=
 if(decide (v1<(p0.length:Int))) then
  idx p0 v1>>=fun x4 =>
  if((x4.toNat:Int)==34) then
   some (.inr (v6,(wr (v1+1))))
  else
   idx p0 v1>>=fun x5 =>
   if((x5.toNat:Int)==92) then
    if((wr (v1+1))==(p0.length:Int)) then
     some (.inr ([],(-1)))
    else
     ( idx p0 (wr (v1+1))>>=fun x7 =>
      some (x7.toNat:Int):Option (Int))>>=fun o6 =>
     if(o6==110) then
      need (v6.length+[10].length≤9223372036854775807)>>=fun _ =>
      Qc9 p0 (wr (v1+2)) (v6++[10])
     else
      if(o6==116) then
       need (v6.length+[9].length≤9223372036854775807)>>=fun _ =>
       Qc9 p0 (wr (v1+2)) (v6++[9])
      else
       ( if(o6==34) then
         some true
        else
         some (o6==92):Option (Bool))>>=fun o8 =>
       if o8 then
        cutL p0 (wr (v1+1)) (wr (v1+2))>>=fun x9 =>
        need (v6.length+x9.length≤9223372036854775807)>>=fun _ =>
        Qc9 p0 (wr (v1+2)) (v6++x9)
       else
        some (.inr ([],(-1)))
   else
    Ql6 p0 v1>>=fun x10 =>
    ( if(x10.1==10) then
      some true
     else
      if(x10.1==13) then
       some true
      else
       if(x10.1==65533) then
        some (x10.2==1)
       else
        some false:Option (Bool))>>=fun o11 =>
    if o11 then
     some (.inr ([],(-1)))
    else
     cutL p0 v1 (wr (v1+x10.2))>>=fun x12 =>
     need (v6.length+x12.length≤9223372036854775807)>>=fun _ =>
     Qc9 p0 (wr (v1+x10.2)) (v6++x12)
 else
  some (.inl ())
 partial_fixpoint
theorem Qah2:∀ (p0:(List UInt8)),(∀ (v1:Int) (v6:(List UInt8)) (o1:Unit⊕((List UInt8)×Int)),Qc9 p0 v1 v6=some o1→TL (0,0) Tryz.prog 91 Q2c (JP2 (0,0) 91 o1 (.exit 0) (Qq0 p0) .ret (Qq1 p0)) (Qd8 p0 v1 v6)):=by
 intro p0;refine Qc9.partial_correctness p0 _ ?_;intro Qc9' iQc9 v1 v6 o1 h;refine TL.round (Qao mixed tbOk (lv:=Qwu) _ _ _ ?_);refine vrfl ?_;refine Qad h (fun hb h=>?_) (fun hb h=>?_)
 ·refine Qda h (fun x4 hi h=>?_);refine Qad h (fun hb h=>?_) (fun hb h=>?_)
  ·exact JP2.b h (Le.tz 0 0 rfl rfl rfl)
  ·refine Qda h (fun x5 hi h=>?_);refine Qad h (fun hb h=>?_) (fun hb h=>?_)
   ·refine vrfl ?_;refine Qad h (fun hb h=>?_) (fun hb h=>?_)
    ·exact JP2.b h (Le.tz 0 0 rfl rfl rfl)
    ·refine Qai h (fun o6 ho hk=>?_);refine Exists.intro (JP1 _ _ o6 .normal (Q19 p0 v1 v6)) (And.intro ?_ (Qay ?_))
     ·have h:=ho;refine Qda h (fun x7 hi h=>?_);exact JP1.a h (Le.tz 0 0 rfl rfl rfl)
     ·have h:=hk;refine Qad h (fun hb h=>?_) (fun hb h=>?_)
      ·refine Qrt h (fun h=>?_);refine TL.le (τ := Qd8 p0 (wr (v1+2)) (v6++[10])) ?_ ((iQc9 (wr (v1+2)) (v6++[10]) _ h));exact Le.tz 0 0 rfl rfl rfl
      ·refine Qad h (fun hb h=>?_) (fun hb h=>?_)
       ·refine Qrt h (fun h=>?_);refine TL.le (τ := Qd8 p0 (wr (v1+2)) (v6++[9])) ?_ ((iQc9 (wr (v1+2)) (v6++[9]) _ h));exact Le.tz 0 0 rfl rfl rfl
       ·refine Qai h (fun o8 ho hk=>?_);refine Exists.intro (JP1 _ _ o8 .normal (Q2a p0 v1 v6)) (And.intro ?_ (Qay ?_))
        ·have h:=ho;refine Qad h (fun hb h=>?_) (fun hb h=>?_)
         ·exact JP1.a h (Le.tz 0 0 rfl rfl rfl)
         ·exact JP1.a h (Le.tz 0 0 rfl rfl rfl)
        ·have h:=hk;refine Qad h (fun hb h=>?_) (fun hb h=>?_)
         ·refine Qiw (some (wr (v1+1))) (some (wr (v1+2))) h (fun x9 hi h=>?_);refine Qrt h (fun h=>?_);refine TL.le (τ := Qd8 p0 (wr (v1+2)) (v6++x9)) ?_ ((iQc9 (wr (v1+2)) (v6++x9) _ h));exact Le.tz 0 0 rfl rfl rfl
         ·exact JP2.b h (Le.tz 0 0 rfl rfl rfl)
   ·refine Qal [sV p0,iV v1] Qmc h (fun x10 hy=>(Q1x p0 v1 x10 hy)) (fun x10 hy h=>?_);refine Qai h (fun o11 ho hk=>?_);refine Exists.intro (JP1 _ _ o11 .normal (Q2b p0 v1 v6 x10)) (And.intro ?_ (Qay ?_))
    ·have h:=ho;refine Qad h (fun hb h=>?_) (fun hb h=>?_)
     ·refine bT ?_;exact JP1.a h (Le.tz 0 0 rfl rfl rfl)
     ·refine Qad h (fun hb h=>?_) (fun hb h=>?_)
      ·exact JP1.a h (Le.tz 0 0 rfl rfl rfl)
      ·refine Qad h (fun hb h=>?_) (fun hb h=>?_)
       ·exact JP1.a h (Le.tz 0 0 rfl rfl rfl)
       ·exact JP1.a h (Le.tz 0 0 rfl rfl rfl)
    ·have h:=hk;refine Qad h (fun hb h=>?_) (fun hb h=>?_)
     ·exact JP2.b h (Le.tz 0 0 rfl rfl rfl)
     ·refine Qiw (some v1) (some (wr (v1+x10.2))) h (fun x12 hi h=>?_);refine Qrt h (fun h=>?_);refine TL.le (τ := Qd8 p0 (wr (v1+x10.2)) (v6++x12)) ?_ ((iQc9 (wr (v1+x10.2)) (v6++x12) _ h));exact Le.tz 0 0 rfl rfl rfl
 ·exact JP2.a h (Le.tz 0 0 rfl rfl rfl)
def Qmf (p0:(List UInt8)) (p1:Int):Option ((List UInt8)×Int) :=
 (Qc9 p0 (wr (p1+1)) [])>>=fun o1 =>
 match o1 with
 | .inl y2 =>
  some ([],(-1))
 | .inr y3 =>
  some (y3.1,y3.2)
theorem Q8y:∀ (p0:(List UInt8)) (p1:Int) (o:(List UInt8)×Int),Qmf p0 p1=some o→PCall Tryz.prog 159 [sV p0,iV p1] (Qnx o):=by
 intro p0 p1 o h;unfold Qmf at h;refine PCall.ofB mixed tbOk Qwu Tryz.func159 rfl (by kernel_rfl) (Nat.le_of_ble_eq_true rfl) ?_;refine Qai h (fun o1 ho hk=>?_);refine Exists.intro (JP2 _ _ o1 (.exit 0) (Qq0 p0) .ret (Qq1 p0)) (And.intro (Qhe (τ := Qd8 p0 (wr (p1+1)) []) ?_ (TL.loop (Qah2 p0 (wr (p1+1)) [] o1 ho))) (Qf3 (fun y2 hy=>?_) (fun y3 hy=>?_)))
 ·exact Le.tz 0 0 rfl rfl rfl
 ·have h:=(by rw[hy] at hk; exact hk);refine Qam (t:=Qnx) h ?_;exact .refl _
 ·have h:=(by rw[hy] at hk; exact hk);refine Qam (t:=Qnx) h ?_;exact .refl _
def Qx0 (p0:(List UInt8)) (p1:Int):Option (Qah×Bool) :=
 idx p0 p1>>=fun x1 =>
 Qeu p0 [125,125] p1>>=fun x2 =>
 if x2 then
  some ((Qah.mk 3 [] 0 p1 (wr (p1+2))),true)
 else
  (Qkk p0 p1 x1 0)>>=fun o3 =>
  match o3 with
  | .inl y4 =>
   if((x1.toNat:Int)==34) then
    Qmf p0 p1>>=fun x8 =>
    some ((Qah.mk 5 x8.1 0 p1 x8.2),(decide (x8.2>0)))
   else
    Qfq (x1.toNat:Int)>>=fun x9 =>
    if x9 then
     (Qkl p0 p1 (wr (p1+1)))>>=fun o10 =>
     cutL p0 p1 o10>>=fun x17 =>
     cutL p0 p1 o10>>=fun x18 =>
     Qhw x18>>=fun x19 =>
     some ((Qah.mk 4 x17 0 p1 o10),x19)
    else
     ( if((x1.toNat:Int)==45) then
       some true
      else
       Qfp (x1.toNat:Int)>>=fun x21 =>
       some x21:Option (Bool))>>=fun o20 =>
     if o20 then
      (Qkm p0 p1 (wr (p1+1)))>>=fun o22 =>
      cutL p0 p1 o22>>=fun x26 =>
      Qtr x26>>=fun x27 =>
      some ((Qah.mk 6 [] x27.1 p1 o22),x27.2)
     else
      some ((Qah.mk 0 [] 0 p1 (wr (p1+1))),false)
  | .inr y5 =>
   some ((Qah.mk y5.1 [] 0 p1 (wr (p1+1))),true)
theorem Qah3:∀ (p0:(List UInt8)) (p1:Int) (o:Qah×Bool),Qx0 p0 p1=some o→PCall Tryz.prog 142 [sV p0,iV p1] (Qk6 o):=by
 intro p0 p1 o h;unfold Qx0 at h;refine PCall.ofB mixed tbOk Qtq Tryz.func142 rfl (by kernel_rfl) (Nat.le_of_ble_eq_true rfl) ?_;refine Qda h (fun x1 hi h=>?_);refine Qal [sV p0,sV [125,125],iV p1] Qik h (fun x2 hy=>(Ql5 p0 [125,125] p1 x2 hy)) (fun x2 hy h=>?_);refine Qad h (fun hb h=>?_) (fun hb h=>?_)
 ·refine Qam (t:=Qk6) h ?_;exact .refl _
 ·refine Qai h (fun o3 ho hk=>?_);refine Exists.intro (JP2 _ _ o3 (.exit 0) (Qwq p0 p1 x1) .ret (Qwr p0 p1 x1)) (And.intro (Qhe (τ := Qp7 p0 p1 x1 0) ?_ (TL.loop (Qal2 p0 p1 x1 0 o3 ho))) (Qf3 (fun y4 hy=>?_) (fun y5 hy=>?_)))
  ·exact Le.tz 2 0 rfl rfl rfl
  ·have h:=(by rw[hy] at hk; exact hk);refine Qad h (fun hb h=>?_) (fun hb h=>?_)
   ·refine Qal [sV p0,iV p1] Qnx h (fun x8 hy=>(Q8y p0 p1 x8 hy)) (fun x8 hy h=>?_);refine Qam (t:=Qk6) h ?_;exact .refl _
   ·refine Qal [nV .u8 (x1.toNat:Int)] Qj6 h (fun x9 hy=>(Qnv (x1.toNat:Int) x9 hy)) (fun x9 hy h=>?_);refine Qad h (fun hb h=>?_) (fun hb h=>?_)
    ·refine Qai h (fun o10 ho hk=>?_);refine Exists.intro (JP1 _ _ o10 (.exit 2) (Qws p0 p1)) (And.intro (Qhe (τ := Qp8 p0 p1 (wr (p1+1))) ?_ (TL.loop (Qal3 p0 p1 (wr (p1+1)) o10 ho))) (Qay ?_))
     ·exact Le.tz 2 0 rfl rfl rfl
     have h:=hk;refine And.intro (by decide +kernel) (And.intro rfl ?_);refine Qiw (some p1) (some o10) h (fun x17 hi h=>?_);refine Qiw (some p1) (some o10) h (fun x18 hi h=>?_);refine Qco [sV x18] Qg2 h (fun x19 hy=>(Qm8 x18 x19 hy)) (fun x19 hy h=>?_);refine Qam (t:=Qk6) h ?_;exact .refl _
    ·refine Qai h (fun o20 ho hk=>?_);refine Exists.intro (JP1 _ _ o20 .normal (Qacd p0 p1)) (And.intro ?_ (Qay ?_))
     ·have h:=ho;refine Qad h (fun hb h=>?_) (fun hb h=>?_)
      ·exact JP1.a h (Le.tz 2 0 rfl rfl rfl)
      ·refine Qal [nV .u8 (x1.toNat:Int)] Qj5 h (fun x21 hy=>(Qnu (x1.toNat:Int) x21 hy)) (fun x21 hy h=>?_);exact JP1.a h (Le.tz 2 0 rfl rfl rfl)
     ·have h:=hk;refine Qad h (fun hb h=>?_) (fun hb h=>?_)
      ·refine Qai h (fun o22 ho hk=>?_);refine Exists.intro (JP1 _ _ o22 (.exit 4) (Qwt p0 p1)) (And.intro (Qhe (τ := Qp9 p0 p1 (wr (p1+1))) ?_ (TL.loop (Qal4 p0 p1 (wr (p1+1)) o22 ho))) (Qay ?_))
       ·exact Le.tz 2 0 rfl rfl rfl
       have h:=hk;refine Qiw (some p1) (some o22) h (fun x26 hi h=>?_);refine Qal [sV x26] Qys h (fun x27 hy=>(Q8x x26 x27 hy)) (fun x27 hy h=>?_);refine Qam (t:=Qk6) h ?_;exact .refl _
      ·refine Qam (t:=Qk6) h ?_;exact .refl _
  ·have h:=(by rw[hy] at hk; exact hk);refine Qam (t:=Qk6) h ?_;exact .refl _
def Qff (p0:(List UInt8)) (v5_:(List Qah)) (v6_:Int):Option (((List Qah)×Int)⊕Int) :=
 Qkj p0 v6_>>=fun x16 =>
 if(x16==(p0.length:Int)) then
  some (.inr x16)
 else
  Qx0 p0 x16>>=fun x17 =>
  if(!x17.2) then
   some (.inr x16)
  else
   appL 48 v5_ [x17.1]>>=fun x18 =>
   if(x17.1.Kind==3) then
    some (.inl (x18,x17.1.To))
   else
    Qff p0 x18 x17.1.To
 partial_fixpoint
theorem Qah4:∀ (p0:(List UInt8)),(∀ (v5_:(List Qah)) (v6_:Int) (o13:((List Qah)×Int)⊕Int),Qff p0 v5_ v6_=some o13→TL (0,0) Tryz.prog 83 Q14 (JP2 (0,0) 83 o13 (.exit 2) (Qqv p0) .ret (Qqw p0)) (Qlr p0 v5_ v6_)):=by
 intro p0;refine Qff.partial_correctness p0 _ ?_;intro Qff' iQff v5_ v6_ o13 h;refine TL.round (Qao mixed tbOk (lv:=Qp6) _ _ _ ?_);refine Qal [sV p0,iV v6_] Qnw h (fun x16 hy=>(Qw0 p0 v6_ x16 hy)) (fun x16 hy h=>?_);refine vrfl ?_;refine Qad h (fun hb h=>?_) (fun hb h=>?_)
 ·exact JP2.b h (Le.tz 0 0 rfl rfl rfl)
 ·refine Qal [sV p0,iV x16] Qk6 h (fun x17 hy=>(Qah3 p0 x16 x17 hy)) (fun x17 hy h=>?_);refine Qad h (fun hb h=>?_) (fun hb h=>?_)
  ·exact JP2.b h (Le.tz 0 0 rfl rfl rfl)
  ·refine Qix (a:=v5_) (b:=[x17.1]) (c:=Qag) h (.refl _) (fun _=>rfl) rfl (fun x18 hi h=>?_);refine Qad h (fun hb h=>?_) (fun hb h=>?_)
   ·exact JP2.a h (Le.tz 0 1 rfl rfl rfl)
   ·refine TL.le (τ := Qlr p0 x18 x17.1.To) ?_ ((iQff x18 x17.1.To _ h));exact Le.tz 0 1 rfl rfl rfl
def Qia (p0:(List UInt8)) (p1:(List UInt8)) (v2:Int):Option (Int) :=
 ( if(decide (v2<(p0.length:Int))) then
   Qeu p0 p1 v2>>=fun x3 =>
   some (!x3)
  else
   some false:Option (Bool))>>=fun o2 =>
 if o2 then
  Qia p0 p1 (wr (v2+1))
 else
  some v2
 partial_fixpoint
theorem Qakt:∀ (p0:(List UInt8)) (p1:(List UInt8)),(∀ (v2:Int) (o1:Int),Qia p0 p1 v2=some o1→TL (0,0) Tryz.prog 21 Q8w (JP1 (0,0) 21 o1 (.exit 0) (Qu3 p0 p1)) (Qol p0 p1 v2)):=by
 intro p0 p1;refine Qia.partial_correctness p0 p1 _ ?_;intro Qia' iQia v2 o1 h;refine TL.round (Qao mixed tbOk (lv:=Q18) _ _ _ ?_);refine Qai h (fun o2 ho hk=>?_);refine Exists.intro (JP1 _ _ o2 .normal (Q8v p0 p1 v2)) (And.intro ?_ (Qay ?_))
 ·have h:=ho;refine vrfl ?_;refine Qad h (fun hb h=>?_) (fun hb h=>?_)
  ·refine Qal [sV p0,sV p1,iV v2] Qik h (fun x3 hy=>(Ql5 p0 p1 v2 x3 hy)) (fun x3 hy h=>?_);exact JP1.a h (Le.tz 0 0 rfl rfl rfl)
  ·exact JP1.a h (Le.tz 0 0 rfl rfl rfl)
 ·have h:=hk;refine Qad h (fun hb h=>?_) (fun hb h=>?_)
  ·refine TL.le (τ := Qol p0 p1 (wr (v2+1))) ?_ ((iQia (wr (v2+1)) _ h));exact Le.tz 0 0 rfl rfl rfl
  ·exact JP1.a h (Le.tz 0 0 rfl rfl rfl)
def Qqa (p0:(List UInt8)) (p1:(List UInt8)) (p2:Int):Option (Int) :=
 (Qia p0 p1 p2)>>=fun o1 =>
 some o1
theorem Q2d:∀ (p0:(List UInt8)) (p1:(List UInt8)) (p2:Int) (o:Int),Qqa p0 p1 p2=some o→PCall Tryz.prog 139 [sV p0,sV p1,iV p2] (Qtp o):=by
 intro p0 p1 p2 o h;unfold Qqa at h;refine PCall.ofB mixed tbOk Q18 Tryz.func139 rfl (by kernel_rfl) (Nat.le_of_ble_eq_true rfl) ?_;refine Qai h (fun o1 ho hk=>?_);refine Exists.intro (JP1 _ _ o1 (.exit 0) (Qu3 p0 p1)) (And.intro (Qhe (τ := Qol p0 p1 p2) ?_ (TL.loop (Qakt p0 p1 p2 o1 ho))) (Qay ?_))
 ·exact Le.tz 0 0 rfl rfl rfl
 have h:=hk;refine Qam (t:=Qtp) h ?_;exact .refl _
def Qfg (p0:(List UInt8)) (v5:(List Qah)) (v6:Int):Option ((List Qah)⊕((List Qah)×Int×Int)) :=
 if(decide (v6<(p0.length:Int))) then
  Qqa p0 [123,123] v6>>=fun x4 =>
  ( if(decide (x4>v6)) then
    cutL p0 v6 x4>>=fun x6 =>
    appL 48 v5 [(Qah.mk 1 x6 0 v6 x4)]>>=fun x7 =>
    some x7
   else
    some v5:Option ((List Qah)))>>=fun o5 =>
  if(x4==(p0.length:Int)) then
   some (.inr (o5,0,0))
  else
   appL 48 o5 ([(Qah.mk 2 [] 0 x4 (wr (x4+2)))])>>=fun x8 =>
   Qkj p0 (wr (x4+2))>>=fun x9 =>
   ( Qeu p0 [35] x9>>=fun x11 =>
    if x11 then
     Qqa p0 [125,125] x9>>=fun x12 =>
     some x12
    else
     some x9:Option (Int))>>=fun o10 =>
   (Qff p0 x8 o10)>>=fun o13 =>
   match o13 with
   | .inl y14 =>
    Qfg p0 y14.1 y14.2
   | .inr y15 =>
    some (.inr ([],y15,7))
 else
  some (.inl v5)
 partial_fixpoint
theorem Qah5:∀ (p0:(List UInt8)),(∀ (v5:(List Qah)) (v6:Int) (o1:(List Qah)⊕((List Qah)×Int×Int)),Qfg p0 v5 v6=some o1→TL (0,0) Tryz.prog 83 Q15 (JP2 (0,0) 83 o1 (.exit 0) (Qqx p0) .ret (Qqy p0)) (Qls p0 v5 v6)):=by
 intro p0;refine Qfg.partial_correctness p0 _ ?_;intro Qfg' iQfg v5 v6 o1 h;refine TL.round (Qao mixed tbOk (lv:=Qp6) _ _ _ ?_);refine vrfl ?_;refine Qad h (fun hb h=>?_) (fun hb h=>?_)
 ·refine Qal [sV p0,sV [123,123],iV v6] Qtp h (fun x4 hy=>(Q2d p0 [123,123] v6 x4 hy)) (fun x4 hy h=>?_);refine Qai h (fun o5 ho hk=>?_);refine Exists.intro (JP1 _ _ o5 .normal (Q12 p0 x4)) (And.intro ?_ (Qay ?_))
  ·have h:=ho;refine Qad h (fun hb h=>?_) (fun hb h=>?_)
   ·refine Qiw (some v6) (some x4) h (fun x6 hi h=>?_);refine Qix (a:=v5) (b:=[(Qah.mk 1 x6 0 v6 x4)]) (c:=Qag) h (.refl _) (fun _=>rfl) rfl (fun x7 hi h=>?_);exact JP1.a h (Le.tz 0 1 rfl rfl rfl)
   ·exact JP1.a h (Le.tz 0 1 rfl rfl rfl)
  ·have h:=hk;refine vrfl ?_;refine Qad h (fun hb h=>?_) (fun hb h=>?_)
   ·exact JP2.b h (Le.tz 0 0 rfl rfl rfl)
   ·refine Qix (a:=o5) (b:=[(Qah.mk 2 [] 0 x4 (wr (x4+2)))]) (c:=Qag) h (.refl _) (fun _=>rfl) rfl (fun x8 hi h=>?_);refine Qal [sV p0,iV (wr (x4+2))] Qnw h (fun x9 hy=>(Qw0 p0 (wr (x4+2)) x9 hy)) (fun x9 hy h=>?_);refine Qai h (fun o10 ho hk=>?_);refine Exists.intro (JP1 _ _ o10 .normal (Q13 p0 x8)) (And.intro ?_ (Qay ?_))
    ·have h:=ho;refine Qal [sV p0,sV [35],iV x9] Qik h (fun x11 hy=>(Ql5 p0 [35] x9 x11 hy)) (fun x11 hy h=>?_);refine Qad h (fun hb h=>?_) (fun hb h=>?_)
     ·refine Qal [sV p0,sV [125,125],iV x9] Qtp h (fun x12 hy=>(Q2d p0 [125,125] x9 x12 hy)) (fun x12 hy h=>?_);exact JP1.a h (Le.tz 0 1 rfl rfl rfl)
     ·exact JP1.a h (Le.tz 0 1 rfl rfl rfl)
    ·have h:=hk;refine Qai h (fun o13 ho hk=>?_);refine Exists.intro (JP2 _ _ o13 (.exit 2) (Qqv p0) .ret (Qqw p0)) (And.intro (Qhe (τ := Qlr p0 x8 o10) ?_ (TL.loop (Qah4 p0 x8 o10 o13 ho))) (Qf3 (fun y14 hy=>?_) (fun y15 hy=>?_)))
     ·exact Le.tz 0 1 rfl rfl rfl
     ·have h:=(by rw[hy] at hk; exact hk);refine TL.le (τ := Qls p0 y14.1 y14.2) ?_ ((iQfg y14.1 y14.2 _ h));exact Le.tz 0 1 rfl rfl rfl
     ·have h:=(by rw[hy] at hk; exact hk);exact JP2.b h (Le.tow 0 0 rfl (.cons rfl (.p (.not)) (.cons rfl (.refl _) (.cons rfl (.refl _) (.nil)))) (.refl _) rfl)
 ·exact JP2.a h (Le.tz 0 1 rfl rfl rfl)
def Qmg (p0:(List UInt8)):Option ((List Qah)×Int×Int) :=
 if(decide ((p0.length:Int)>65536)) then
  some ([],0,6)
 else
  (Qfg p0 [] 0)>>=fun o1 =>
  match o1 with
  | .inl y2 =>
   some (y2,0,0)
  | .inr y3 =>
   some (y3.1,y3.2.1,y3.2.2)
theorem Q8z:∀ (p0:(List UInt8)) (o:(List Qah)×Int×Int),Qmg p0=some o→PCall Tryz.prog 115 [sV p0] (Qk5 o):=by
 intro p0 o h;unfold Qmg at h;refine PCall.ofB mixed tbOk Qp6 Tryz.func115 rfl (by kernel_rfl) (Nat.le_of_ble_eq_true rfl) ?_;refine vrfl ?_;refine Qad h (fun hb h=>?_) (fun hb h=>?_)
 ·refine Qam (t:=Qk5) h ?_;exact .tup (xs:=[.sl true [],iV 0,iV 6]) (ys:=[.sl false [],iV 0,iV 6]) (.cons (.not) (.cons (.refl _) (.cons (.refl _) (.nil))))
 ·refine Qai h (fun o1 ho hk=>?_);refine Exists.intro (JP2 _ _ o1 (.exit 0) (Qqx p0) .ret (Qqy p0)) (And.intro (Qhe (τ := Qls p0 [] 0) ?_ (TL.loop (Qah5 p0 [] 0 o1 ho))) (Qf3 (fun y2 hy=>?_) (fun y3 hy=>?_)))
  ·exact Le.trans (τ := ⟨[(0,.p (sV p0)),(5,.p (.sl true [])),(6,.p (iV 0))],⟨[],[]⟩⟩) (Le.tz 0 0 rfl rfl rfl) ((Le.own 5 147 5 rfl Qxs).trans (Le.tz 0 1 rfl rfl rfl))
  ·have h:=(by rw[hy] at hk; exact hk);refine Qam (t:=Qk5) h ?_;exact .refl _
  ·have h:=(by rw[hy] at hk; exact hk);refine Qam (t:=Qk5) h ?_;exact .refl _
def Qas (p1:Int) (h0_0:(List Qah)) (h0_1:Int) (h0_2:Bool):Option (Bool) :=
 ( if(!h0_2) then
   if(decide (h0_1<(h0_0.length:Int))) then
    idx h0_0 h0_1>>=fun x2 =>
    some (x2.Kind==p1)
   else
    some false
  else
   some false:Option (Bool))>>=fun o1 =>
 some o1
theorem Qax:∀ (p1:Int) (h0_0:(List Qah)) (h0_1:Int) (h0_2:Bool) (o:Bool),Qas p1 h0_0 h0_1 h0_2=some o→CallOK Tryz.prog 143 [.ptr 0 0,.p (iV p1)] ⟨[[.p (.sl false (h0_0.map Qag)),.p (iV h0_1),.p (bV h0_2)]],[]⟩ (Qdz o) ⟨[[.p (.sl false (h0_0.map Qag)),.p (iV h0_1),.p (bV h0_2)]],[]⟩:=by
 intro p1 h0_0 h0_1 h0_2 o h;unfold Qas at h;refine CallOK.ofB mixed tbOk Qzf Tryz.func143 rfl (by kernel_rfl) (Nat.le_of_ble_eq_true rfl) rfl rfl rfl ?_;refine Qai h (fun o1 ho hk=>?_);refine Exists.intro (JP1 _ _ o1 .normal (Qwv h0_0 h0_1 h0_2)) (And.intro ?_ (Qay ?_))
 ·have h:=ho;refine And.intro (by decide +kernel) (And.intro rfl ?_);refine Qad h (fun hb h=>?_) (fun hb h=>?_)
  ·refine view (Qat _ _) rfl ?_;refine Qad h (fun hb h=>?_) (fun hb h=>?_)
   ·refine Qa2 (l:=h0_0) (c:=Qag) (c' := Qag) h (fun _=>rfl) (fun _=>rfl) (by decide) (fun x2 hi h=>?_);exact JP1.a h (Le.tz 1 0 rfl rfl rfl)
   ·exact JP1.a h (Le.tz 1 0 rfl rfl rfl)
  ·refine bF ?_;exact JP1.a h (Le.tz 1 0 rfl rfl rfl)
 ·have h:=hk;refine Exists.intro _ (And.intro (Le.refl _ _ _) ?_);exact Qb3 (t:=Qdz) (ss:=fun o=>⟨[[.p (.sl false (h0_0.map Qag)),.p (iV h0_1),.p (bV h0_2)]],[]⟩) h ⟨[],rfl,.refl _,.refl _,rfl⟩
def Qb1 (p1:(List UInt8)) (h0_0:(List Qah)) (h0_1:Int) (h0_2:Bool):Option (Bool) :=
 ( Qas 2 h0_0 h0_1 h0_2>>=fun x2 =>
  if x2 then
   if(decide ((wr (h0_1+1))<(h0_0.length:Int))) then
    idx h0_0 (wr (h0_1+1))>>=fun x3 =>
    if(x3.Kind==4) then
     idx h0_0 (wr (h0_1+1))>>=fun x4 =>
     some (x4.Text==p1)
    else
     some false
   else
    some false
  else
   some false:Option (Bool))>>=fun o1 =>
 some o1
theorem Qfh:∀ (p1:(List UInt8)) (h0_0:(List Qah)) (h0_1:Int) (h0_2:Bool) (o:Bool),Qb1 p1 h0_0 h0_1 h0_2=some o→CallOK Tryz.prog 145 [.ptr 0 0,.p (sV p1)] ⟨[[.p (.sl false (h0_0.map Qag)),.p (iV h0_1),.p (bV h0_2)]],[]⟩ (Qny o) ⟨[[.p (.sl false (h0_0.map Qag)),.p (iV h0_1),.p (bV h0_2)]],[]⟩:=by
 intro p1 h0_0 h0_1 h0_2 o h;unfold Qb1 at h;refine CallOK.ofB mixed tbOk Qvp Tryz.func145 rfl (by kernel_rfl) (Nat.le_of_ble_eq_true rfl) rfl rfl rfl ?_;refine Qai h (fun o1 ho hk=>?_);refine Exists.intro (JP1 _ _ o1 .normal (Qsx h0_0 h0_1 h0_2)) (And.intro ?_ (Qay ?_))
 ·have h:=ho;refine And.intro (by decide +kernel) (And.intro rfl ?_);refine Qpx (fun x2=>(Qdz x2).ren [0] []) h (fun x2 hy=>(Qax 2 h0_0 h0_1 h0_2 x2 hy).fd rfl rfl [0] rfl rfl) (fun x2 hy h=>?_);refine Qad h (fun hb h=>?_) (fun hb h=>?_)
  ·refine view (Qat _ _) rfl ?_;refine Qad h (fun hb h=>?_) (fun hb h=>?_)
   ·refine Qa2 (l:=h0_0) (c:=Qag) (c' := Qag) h (fun _=>rfl) (fun _=>rfl) (by decide) (fun x3 hi h=>?_);refine Qad h (fun hb h=>?_) (fun hb h=>?_)
    ·refine Qa2 (l:=h0_0) (c:=Qag) (c' := Qag) h (fun _=>rfl) (fun _=>rfl) (by decide) (fun x4 hi h=>?_);exact JP1.a h (Le.tz 1 0 rfl rfl rfl)
    ·exact JP1.a h (Le.tz 1 0 rfl rfl rfl)
   ·refine bF ?_;exact JP1.a h (Le.tz 1 0 rfl rfl rfl)
  ·refine bF ?_;refine bF ?_;exact JP1.a h (Le.tz 1 0 rfl rfl rfl)
 ·have h:=hk;refine Exists.intro _ (And.intro (Le.refl _ _ _) ?_);exact Qb3 (t:=Qny) (ss:=fun o=>⟨[[.p (.sl false (h0_0.map Qag)),.p (iV h0_1),.p (bV h0_2)]],[]⟩) h ⟨[],rfl,.refl _,.refl _,rfl⟩
def Qaj (p1:Bool) (h0_0:(List Qah)) (h0_1:Int) (h0_2:Bool):Option (Qah×Int×Bool) :=
 ( if(!p1) then
   some true
  else
   some h0_2:Option (Bool))>>=fun o1 =>
 if o1 then
  some ((Qah.mk 0 [] 0 0 0),h0_1,true)
 else
  idx h0_0 (wr ((wr (h0_1+1))-1))>>=fun x2 =>
  some (x2,(wr (h0_1+1)),h0_2)
theorem Qar:∀ (p1:Bool) (h0_0:(List Qah)) (h0_1:Int) (h0_2:Bool) (o:Qah×Int×Bool),Qaj p1 h0_0 h0_1 h0_2=some o→CallOK Tryz.prog 144 [.ptr 0 0,.p (bV p1)] ⟨[[.p (.sl false (h0_0.map Qag)),.p (iV h0_1),.p (bV h0_2)]],[]⟩ (Qki o) ⟨[[.p (.sl false (h0_0.map Qag)),.p (iV o.2.1),.p (bV o.2.2)]],[]⟩:=by
 intro p1 h0_0 h0_1 h0_2 o h;unfold Qaj at h;refine CallOK.ofB mixed tbOk Qwx Tryz.func144 rfl (by kernel_rfl) (Nat.le_of_ble_eq_true rfl) rfl rfl rfl ?_;refine Qai h (fun o1 ho hk=>?_);refine Exists.intro (JP1 _ _ o1 .normal (Qt9 h0_0 h0_1 h0_2)) (And.intro ?_ (Qay ?_))
 ·have h:=ho;refine Qad h (fun hb h=>?_) (fun hb h=>?_)
  ·exact JP1.a h (Le.tz 2 0 rfl rfl rfl)
  ·exact JP1.a h (Le.tz 2 0 rfl rfl rfl)
 ·have h:=hk;refine Qad h (fun hb h=>?_) (fun hb h=>?_)
  ·refine Exists.intro _ (And.intro (Le.refl _ _ _) ?_);exact Qb3 (t:=Qki) (ss:=fun o=>⟨[[.p (.sl false (h0_0.map Qag)),.p (iV o.2.1),.p (bV o.2.2)]],[]⟩) h ⟨[],rfl,.refl _,.refl _,rfl⟩
  ·refine And.intro (by decide +kernel) (And.intro rfl ?_);refine Qa2 (l:=h0_0) (c:=Qag) (c' := Qag) h (fun _=>rfl) (fun _=>rfl) (by decide) (fun x2 hi h=>?_);refine Exists.intro _ (And.intro (Le.refl _ _ _) ?_);exact Qb3 (t:=Qki) (ss:=fun o=>⟨[[.p (.sl false (h0_0.map Qag)),.p (iV o.2.1),.p (bV o.2.2)]],[]⟩) h ⟨[],rfl,.refl _,.refl _,rfl⟩
instance Q9q:Lean.Order.CCPO ((List Qab)→(List Qab)→(List Qab)→Option ((Int×Bool×Int×(List UInt8)×(List UInt8)×Int×(List Qab)×(List Qab)×(List Qab)))):=inferInstance
instance Q9r:Lean.Order.CCPO ((List UInt8)→(List UInt8)→Int→(List Qab)→(List Qab)→(List Qab)→Option ((Int×Bool×Int×(List UInt8)×(List UInt8)×Int×(List Qab)×(List Qab)×(List Qab)))):=inferInstance
def Qcq (h0_0:(List Qah)) (h0_1_:Int) (h0_2_:Bool) (h2_0:Int) (h2_1:(List UInt8)) (h2_2:(List UInt8)) (h2_3:Int) (h2_4:(List Qab)) (h2_5:(List Qab)) (h2_6:(List Qab)):Option ((Int×Bool×Int×(List UInt8)×(List UInt8)×Int×(List Qab)×(List Qab)×(List Qab))) :=
 Qas 7 h0_0 h0_1_ h0_2_>>=fun x3 =>
 if x3 then
  Qaj true h0_0 h0_1_ h0_2_>>=fun x4 =>
  Qas 4 h0_0 x4.2.1 x4.2.2>>=fun x5 =>
  Qaj x5 h0_0 x4.2.1 x4.2.2>>=fun x6 =>
  Qcq h0_0 x6.2.1 x6.2.2 5 x6.1.Text [] 0 [(Qab.mk h2_0 h2_1 h2_2 h2_3 h2_4 h2_5 h2_6)] [] []
 else
  some (h0_1_,h0_2_,h2_0,h2_1,h2_2,h2_3,h2_4,h2_5,h2_6)
 partial_fixpoint
theorem Q9s:∀ (h0_0:(List Qah)),(∀ (h0_1_:Int) (h0_2_:Bool) (h2_0:Int) (h2_1:(List UInt8)) (h2_2:(List UInt8)) (h2_3:Int) (h2_4:(List Qab)) (h2_5:(List Qab)) (h2_6:(List Qab)) (o2:(Int×Bool×Int×(List UInt8)×(List UInt8)×Int×(List Qab)×(List Qab)×(List Qab))),Qcq h0_0 h0_1_ h0_2_ h2_0 h2_1 h2_2 h2_3 h2_4 h2_5 h2_6=some o2→TL (1,0) Tryz.prog 19 Qt6 (JP1 (1,0) 19 o2 (.exit 0) (Qk7 h0_0)) (Qgq h0_0 h0_1_ h0_2_ h2_0 h2_1 h2_2 h2_3 h2_4 h2_5 h2_6)):=by
 intro h0_0;refine Qcq.partial_correctness h0_0 _ ?_;intro Qcq' iQcq h0_1_ h0_2_ h2_0 h2_1 h2_2 h2_3 h2_4 h2_5 h2_6 o2 h;refine TL.round (Qao mixed tbOk (lv:=Qnz) _ _ _ ?_);refine Qap _ _ h (fun x3 hy=>((Qax 7 h0_0 h0_1_ h0_2_ x3 hy).fr [0] [] rfl rfl rfl)) (fun x3 hy h=>?_);refine Qad h (fun hb h=>?_) (fun hb h=>?_)
 ·refine Qap _ _ h (fun x4 hy=>((Qar true h0_0 h0_1_ h0_2_ x4 hy).fr [0] [] rfl rfl rfl)) (fun x4 hy h=>?_);refine And.intro (by decide +kernel) (And.intro rfl ?_);refine Qpx (fun x5=>(Qdz x5).ren [0] []) h (fun x5 hy=>(Qax 4 h0_0 x4.2.1 x4.2.2 x5 hy).fd rfl rfl [0] rfl rfl) (fun x5 hy h=>?_);refine Qtl _ _ h (fun x6 hy=>((Qar x5 h0_0 x4.2.1 x4.2.2 x6 hy).fg [0] [] rfl rfl rfl (Nat.le_of_ble_eq_true rfl))) (fun x6 hy h=>?_);refine TL.le (τ := Qgq h0_0 x6.2.1 x6.2.2 5 x6.1.Text [] 0 [(Qab.mk h2_0 h2_1 h2_2 h2_3 h2_4 h2_5 h2_6)] [] []) ?_ ((iQcq x6.2.1 x6.2.2 5 x6.1.Text [] 0 [(Qab.mk h2_0 h2_1 h2_2 h2_3 h2_4 h2_5 h2_6)] [] [] _ h));exact Le.tow 3 0 rfl (.cons rfl (.refl _) (.cons rfl (.refl _) (.cons rfl (.refl _) (.nil)))) (.cons (.refl _) (.cons (.refl _) (.cons (.cons (.refl _) (.cons (.refl _) (.cons (.refl _) (.cons (.refl _) (.cons (.p (.no (.cons (.ceq (Qaq _) (.refl _)) (.nil)))) (.cons (.p (.not)) (.cons (.p (.not)) (.nil)))))))) (.nil)))) rfl
 ·exact JP1.a h (Le.tz 3 0 rfl rfl rfl)
def Qdc (h0_0:(List Qah)) (h0_1:Int) (h0_2:Bool):Option ((List UInt8)×Int×Bool) :=
 ( Qas 4 h0_0 h0_1 h0_2>>=fun x2 =>
  if x2 then
   idx h0_0 h0_1>>=fun x3 =>
   Qg6 x3.Text>>=fun x4 =>
   Qaj x4 h0_0 h0_1 h0_2>>=fun x5 =>
   some (x5.1.Text,x5.2.1,x5.2.2)
  else
   Qaj false h0_0 h0_1 h0_2>>=fun x6 =>
   some (x6.1.Text,x6.2.1,x6.2.2):Option (((List UInt8)×Int×Bool)))>>=fun o1 =>
 some (o1.1,o1.2.1,o1.2.2)
theorem Qjc:∀ (h0_0:(List Qah)) (h0_1:Int) (h0_2:Bool) (o:(List UInt8)×Int×Bool),Qdc h0_0 h0_1 h0_2=some o→CallOK Tryz.prog 165 [.ptr 0 0] ⟨[[.p (.sl false (h0_0.map Qag)),.p (iV h0_1),.p (bV h0_2)]],[]⟩ (Qpc o) ⟨[[.p (.sl false (h0_0.map Qag)),.p (iV o.2.1),.p (bV o.2.2)]],[]⟩:=by
 intro h0_0 h0_1 h0_2 o h;unfold Qdc at h;refine CallOK.ofB mixed tbOk Qww Tryz.func165 rfl (by kernel_rfl) (Nat.le_of_ble_eq_true rfl) rfl rfl rfl ?_;refine Qai h (fun o1 ho hk=>?_);refine Exists.intro (JP1 _ _ o1 .normal (Qt8 h0_0)) (And.intro ?_ (Qay ?_))
 ·have h:=ho;refine And.intro (by decide +kernel) (And.intro rfl ?_);refine Qpx (fun x2=>(Qdz x2).ren [0] []) h (fun x2 hy=>(Qax 4 h0_0 h0_1 h0_2 x2 hy).fd rfl rfl [0] rfl rfl) (fun x2 hy h=>?_);refine Qad h (fun hb h=>?_) (fun hb h=>?_)
  ·refine Qa2 (l:=h0_0) (c:=Qag) (c' := Qag) h (fun _=>rfl) (fun _=>rfl) (by decide) (fun x3 hi h=>?_);refine Qco [sV x3.Text] Qg3 h (fun x4 hy=>(Qke x3.Text x4 hy)) (fun x4 hy h=>?_);refine Qtl _ _ h (fun x5 hy=>((Qar x4 h0_0 h0_1 h0_2 x5 hy).fg [0] [] rfl rfl rfl (Nat.le_of_ble_eq_true rfl))) (fun x5 hy h=>?_);exact JP1.a h (Le.tz 1 0 rfl rfl rfl)
  ·refine Qtl _ _ h (fun x6 hy=>((Qar false h0_0 h0_1 h0_2 x6 hy).fg [0] [] rfl rfl rfl (Nat.le_of_ble_eq_true rfl))) (fun x6 hy h=>?_);exact JP1.a h (Le.tz 1 0 rfl rfl rfl)
 ·have h:=hk;refine Exists.intro _ (And.intro (Le.refl _ _ _) ?_);exact Qb3 (t:=Qpc) (ss:=fun o=>⟨[[.p (.sl false (h0_0.map Qag)),.p (iV o.2.1),.p (bV o.2.2)]],[]⟩) h ⟨[],rfl,.refl _,.refl _,rfl⟩
def Qaz (p1:(List UInt8)) (h0_0:(List Qah)) (h0_1:Int) (h0_2:Bool):Option (Bool) :=
 ( Qas 4 h0_0 h0_1 h0_2>>=fun x2 =>
  if x2 then
   idx h0_0 h0_1>>=fun x3 =>
   some (x3.Text==p1)
  else
   some false:Option (Bool))>>=fun o1 =>
 some o1
theorem Qbm:∀ (p1:(List UInt8)) (h0_0:(List Qah)) (h0_1:Int) (h0_2:Bool) (o:Bool),Qaz p1 h0_0 h0_1 h0_2=some o→CallOK Tryz.prog 161 [.ptr 0 0,.p (sV p1)] ⟨[[.p (.sl false (h0_0.map Qag)),.p (iV h0_1),.p (bV h0_2)]],[]⟩ (Qpd o) ⟨[[.p (.sl false (h0_0.map Qag)),.p (iV h0_1),.p (bV h0_2)]],[]⟩:=by
 intro p1 h0_0 h0_1 h0_2 o h;unfold Qaz at h;refine CallOK.ofB mixed tbOk Qwy Tryz.func161 rfl (by kernel_rfl) (Nat.le_of_ble_eq_true rfl) rfl rfl rfl ?_;refine Qai h (fun o1 ho hk=>?_);refine Exists.intro (JP1 _ _ o1 .normal (Qua h0_0 h0_1 h0_2)) (And.intro ?_ (Qay ?_))
 ·have h:=ho;refine And.intro (by decide +kernel) (And.intro rfl ?_);refine Qpx (fun x2=>(Qdz x2).ren [0] []) h (fun x2 hy=>(Qax 4 h0_0 h0_1 h0_2 x2 hy).fd rfl rfl [0] rfl rfl) (fun x2 hy h=>?_);refine Qad h (fun hb h=>?_) (fun hb h=>?_)
  ·refine Qa2 (l:=h0_0) (c:=Qag) (c' := Qag) h (fun _=>rfl) (fun _=>rfl) (by decide) (fun x3 hi h=>?_);exact JP1.a h (Le.tz 1 0 rfl rfl rfl)
  ·exact JP1.a h (Le.tz 1 0 rfl rfl rfl)
 ·have h:=hk;refine Exists.intro _ (And.intro (Le.refl _ _ _) ?_);exact Qb3 (t:=Qpd) (ss:=fun o=>⟨[[.p (.sl false (h0_0.map Qag)),.p (iV h0_1),.p (bV h0_2)]],[]⟩) h ⟨[],rfl,.refl _,.refl _,rfl⟩
mutual
def Qcd (h0_0:(List Qah)) (h0_1:Int) (h0_2:Bool):Option (Qab×Int×Bool) :=
 Qhy h0_0 h0_1 h0_2>>=fun x1 =>
 (Qcq h0_0 x1.2.1 x1.2.2 x1.1.Kind x1.1.Name x1.1.Text x1.1.N x1.1.L x1.1.Then x1.1.Else)>>=fun o2 =>
 some ((Qab.mk o2.2.2.1 o2.2.2.2.1 o2.2.2.2.2.1 o2.2.2.2.2.2.1 o2.2.2.2.2.2.2.1 o2.2.2.2.2.2.2.2.1 o2.2.2.2.2.2.2.2.2),o2.1,o2.2.1)
 partial_fixpoint
def Qhy (h0_0:(List Qah)) (h0_1:Int) (h0_2:Bool):Option (Qab×Int×Bool) :=
 Qas 5 h0_0 h0_1 h0_2>>=fun x1 =>
 if x1 then
  Qaj true h0_0 h0_1 h0_2>>=fun x2 =>
  some ((Qab.mk 1 [] x2.1.Text 0 [] [] []),x2.2.1,x2.2.2)
 else
  Qas 6 h0_0 h0_1 h0_2>>=fun x3 =>
  if x3 then
   Qaj true h0_0 h0_1 h0_2>>=fun x4 =>
   some ((Qab.mk 2 [] [] x4.1.N [] [] []),x4.2.1,x4.2.2)
  else
   Qaz [116,114,117,101] h0_0 h0_1 h0_2>>=fun x5 =>
   if x5 then
    Qaj true h0_0 h0_1 h0_2>>=fun x6 =>
    some ((Qab.mk 3 [] [] 1 [] [] []),x6.2.1,x6.2.2)
   else
    Qaz [102,97,108,115,101] h0_0 h0_1 h0_2>>=fun x7 =>
    if x7 then
     Qaj true h0_0 h0_1 h0_2>>=fun x8 =>
     some ((Qab.mk 3 [] [] 0 [] [] []),x8.2.1,x8.2.2)
    else
     Qaz [115,101,99,114,101,116] h0_0 h0_1 h0_2>>=fun x9 =>
     if x9 then
      Qaj true h0_0 h0_1 h0_2>>=fun x10 =>
      Qas 8 h0_0 x10.2.1 x10.2.2>>=fun x11 =>
      Qaj x11 h0_0 x10.2.1 x10.2.2>>=fun x12 =>
      ( Qas 5 h0_0 x12.2.1 x12.2.2>>=fun x14 =>
       if x14 then
        idx h0_0 x12.2.1>>=fun x15 =>
        Qhw x15.Text>>=fun x16 =>
        Qaj x16 h0_0 x12.2.1 x12.2.2>>=fun x17 =>
        some (x17.2.1,x17.2.2,x17.1.Kind,x17.1.Text,x17.1.N,x17.1.From,x17.1.To)
       else
        Qaj false h0_0 x12.2.1 x12.2.2>>=fun x18 =>
        some (x18.2.1,x18.2.2,x18.1.Kind,x18.1.Text,x18.1.N,x18.1.From,x18.1.To):Option ((Int×Bool×Int×(List UInt8)×Int×Int×Int)))>>=fun o13 =>
      Qas 9 h0_0 o13.1 o13.2.1>>=fun x19 =>
      Qaj x19 h0_0 o13.1 o13.2.1>>=fun x20 =>
      some ((Qab.mk 7 o13.2.2.2.1 [] 0 [] [] []),x20.2.1,x20.2.2)
     else
      Qdc h0_0 h0_1 h0_2>>=fun x21 =>
      Qas 8 h0_0 x21.2.1 x21.2.2>>=fun x22 =>
      if(!x22) then
       some ((Qab.mk 4 x21.1 [] 0 [] [] []),x21.2.1,x21.2.2)
      else
       Qaj true h0_0 x21.2.1 x21.2.2>>=fun x23 =>
       Qas 9 h0_0 x23.2.1 x23.2.2>>=fun x24 =>
       if x24 then
        Qaj true h0_0 x23.2.1 x23.2.2>>=fun x25 =>
        some ((Qab.mk 6 x21.1 [] 0 [] [] []),x25.2.1,x25.2.2)
       else
        (Qc6 h0_0 x21 0 x23.2.1 x23.2.2 [])>>=fun o26 =>
        Qas 9 h0_0 o26.1 o26.2.1>>=fun x33 =>
        Qaj x33 h0_0 o26.1 o26.2.1>>=fun x34 =>
        some ((Qab.mk 6 x21.1 [] 0 o26.2.2 [] []),x34.2.1,x34.2.2)
 partial_fixpoint
def Qc6 (h0_0:(List Qah)) (x21:(List UInt8)×Int×Bool) (v5:Int) (h0_1_:Int) (h0_2_:Bool) (h2_4:(List Qab)):Option ((Int×Bool×(List Qab))) :=
 ( if(decide (v5<3)) then
   some (!h0_2_)
  else
   some false:Option (Bool))>>=fun o27 =>
 if o27 then
  Qcd h0_0 h0_1_ h0_2_>>=fun x28 =>
  appL 120 h2_4 [x28.1]>>=fun x29 =>
  Qas 9 h0_0 x28.2.1 x28.2.2>>=fun x30 =>
  if x30 then
   some (x28.2.1,x28.2.2,x29)
  else
   if(decide (v5<2)) then
    Qas 10 h0_0 x28.2.1 x28.2.2>>=fun x31 =>
    Qaj x31 h0_0 x28.2.1 x28.2.2>>=fun x32 =>
    Qc6 h0_0 x21 (wr (v5+1)) x32.2.1 x32.2.2 x29
   else
    Qc6 h0_0 x21 (wr (v5+1)) x28.2.1 x28.2.2 x29
 else
  some (h0_1_,h0_2_,h2_4)
 partial_fixpoint
end
theorem Qvr:∀ (h0_0:(List Qah)),(∀ (h0_1:Int) (h0_2:Bool) (o:Qab×Int×Bool),Qcd h0_0 h0_1 h0_2=some o→CallOK Tryz.prog 162 [.ptr 0 0] ⟨[[.p (.sl false (h0_0.map Qag)),.p (iV h0_1),.p (bV h0_2)]],[]⟩ (Qkh o) ⟨[[.p (.sl false (h0_0.map Qag)),.p (iV o.2.1),.p (bV o.2.2)]],[]⟩)∧(∀ (h0_1:Int) (h0_2:Bool) (o:Qab×Int×Bool),Qhy h0_0 h0_1 h0_2=some o→CallOK Tryz.prog 173 [.ptr 0 0] ⟨[[.p (.sl false (h0_0.map Qag)),.p (iV h0_1),.p (bV h0_2)]],[]⟩ (Qbs o) ⟨[[.p (.sl false (h0_0.map Qag)),.p (iV o.2.1),.p (bV o.2.2)]],[]⟩)∧(∀ (x21:(List UInt8)×Int×Bool) (v5:Int) (h0_1_:Int) (h0_2_:Bool) (h2_4:(List Qab)) (o26:(Int×Bool×(List Qab))),Qc6 h0_0 x21 v5 h0_1_ h0_2_ h2_4=some o26→TL (1,0) Tryz.prog 107 Qs4 (JP1 (1,0) 107 o26 (.exit 0) (Qjw h0_0 x21)) (Qd5 h0_0 x21 v5 h0_1_ h0_2_ h2_4)):=by
 intro h0_0;refine Qcd.mutual_partial_correctness h0_0 _ _ _ ?_ ?_ ?_
 ·intro Qhy' iQhy h0_1 h0_2 o h;refine CallOK.ofB mixed tbOk Qnz Tryz.func162 rfl (by kernel_rfl) (Nat.le_of_ble_eq_true rfl) rfl rfl rfl ?_;refine Qap _ _ h (fun x1 hy=>((iQhy h0_1 h0_2 x1 hy).fr [0] [] rfl rfl rfl)) (fun x1 hy h=>?_);refine Qai h (fun o2 ho hk=>?_);refine Exists.intro (JP1 _ _ o2 (.exit 0) (Qk7 h0_0)) (And.intro (Qhe (τ := Qgq h0_0 x1.2.1 x1.2.2 x1.1.Kind x1.1.Name x1.1.Text x1.1.N x1.1.L x1.1.Then x1.1.Else) ?_ (TL.loop (Q9s h0_0 x1.2.1 x1.2.2 x1.1.Kind x1.1.Name x1.1.Text x1.1.N x1.1.L x1.1.Then x1.1.Else o2 ho))) (Qay ?_))
  ·exact Le.tz 3 0 rfl rfl rfl
  have h:=hk;refine Exists.intro _ (And.intro (Le.refl _ _ _) ?_);exact Qb3 (t:=Qkh) (ss:=fun o=>⟨[[.p (.sl false (h0_0.map Qag)),.p (iV o.2.1),.p (bV o.2.2)]],[]⟩) h ⟨[],rfl,.refl _,.refl _,rfl⟩
 ·intro Qc6' iQc6 h0_1 h0_2 o h;refine CallOK.ofB mixed tbOk Qne Tryz.func173 rfl (by kernel_rfl) (Nat.le_of_ble_eq_true rfl) rfl rfl rfl ?_;refine Qap _ _ h (fun x1 hy=>((Qax 5 h0_0 h0_1 h0_2 x1 hy).fr [0] [] rfl rfl rfl)) (fun x1 hy h=>?_);refine Qad h (fun hb h=>?_) (fun hb h=>?_)
  ·refine Qap _ _ h (fun x2 hy=>((Qar true h0_0 h0_1 h0_2 x2 hy).fr [0] [] rfl rfl rfl)) (fun x2 hy h=>?_);refine Exists.intro _ (And.intro (Le.refl _ _ _) ?_);exact Qb3 (t:=Qbs) (ss:=fun o=>⟨[[.p (.sl false (h0_0.map Qag)),.p (iV o.2.1),.p (bV o.2.2)]],[]⟩) h ⟨[],rfl,.p (.agg' (.cons (.refl _) (.cons (.refl _) (.cons (.refl _) (.cons (.refl _) (.cons (.not) (.cons (.not) (.cons (.not) (.nil))))))))),.refl _,rfl⟩
  ·refine Qap _ _ h (fun x3 hy=>((Qax 6 h0_0 h0_1 h0_2 x3 hy).fr [0] [] rfl rfl rfl)) (fun x3 hy h=>?_);refine Qad h (fun hb h=>?_) (fun hb h=>?_)
   ·refine Qap _ _ h (fun x4 hy=>((Qar true h0_0 h0_1 h0_2 x4 hy).fr [0] [] rfl rfl rfl)) (fun x4 hy h=>?_);refine Exists.intro _ (And.intro (Le.refl _ _ _) ?_);exact Qb3 (t:=Qbs) (ss:=fun o=>⟨[[.p (.sl false (h0_0.map Qag)),.p (iV o.2.1),.p (bV o.2.2)]],[]⟩) h ⟨[],rfl,.p (.agg' (.cons (.refl _) (.cons (.refl _) (.cons (.refl _) (.cons (.refl _) (.cons (.not) (.cons (.not) (.cons (.not) (.nil))))))))),.refl _,rfl⟩
   ·refine Qap _ _ h (fun x5 hy=>((Qbm [116,114,117,101] h0_0 h0_1 h0_2 x5 hy).fr [0] [] rfl rfl rfl)) (fun x5 hy h=>?_);refine Qad h (fun hb h=>?_) (fun hb h=>?_)
    ·refine Qap _ _ h (fun x6 hy=>((Qar true h0_0 h0_1 h0_2 x6 hy).fr [0] [] rfl rfl rfl)) (fun x6 hy h=>?_);refine Exists.intro _ (And.intro (Le.refl _ _ _) ?_);exact Qb3 (t:=Qbs) (ss:=fun o=>⟨[[.p (.sl false (h0_0.map Qag)),.p (iV o.2.1),.p (bV o.2.2)]],[]⟩) h ⟨[],rfl,.p (.agg' (.cons (.refl _) (.cons (.refl _) (.cons (.refl _) (.cons (.refl _) (.cons (.not) (.cons (.not) (.cons (.not) (.nil))))))))),.refl _,rfl⟩
    ·refine Qap _ _ h (fun x7 hy=>((Qbm [102,97,108,115,101] h0_0 h0_1 h0_2 x7 hy).fr [0] [] rfl rfl rfl)) (fun x7 hy h=>?_);refine Qad h (fun hb h=>?_) (fun hb h=>?_)
     ·refine Qap _ _ h (fun x8 hy=>((Qar true h0_0 h0_1 h0_2 x8 hy).fr [0] [] rfl rfl rfl)) (fun x8 hy h=>?_);refine Exists.intro _ (And.intro (Le.refl _ _ _) ?_);exact Qb3 (t:=Qbs) (ss:=fun o=>⟨[[.p (.sl false (h0_0.map Qag)),.p (iV o.2.1),.p (bV o.2.2)]],[]⟩) h ⟨[],rfl,.p (.agg' (.cons (.refl _) (.cons (.refl _) (.cons (.refl _) (.cons (.refl _) (.cons (.not) (.cons (.not) (.cons (.not) (.nil))))))))),.refl _,rfl⟩
     ·refine Qap _ _ h (fun x9 hy=>((Qbm [115,101,99,114,101,116] h0_0 h0_1 h0_2 x9 hy).fr [0] [] rfl rfl rfl)) (fun x9 hy h=>?_);refine Qad h (fun hb h=>?_) (fun hb h=>?_)
      ·refine Qap _ _ h (fun x10 hy=>((Qar true h0_0 h0_1 h0_2 x10 hy).fr [0] [] rfl rfl rfl)) (fun x10 hy h=>?_);refine Qap _ _ h (fun x11 hy=>((Qax 8 h0_0 x10.2.1 x10.2.2 x11 hy).fr [0] [] rfl rfl rfl)) (fun x11 hy h=>?_);refine Qap _ _ h (fun x12 hy=>((Qar x11 h0_0 x10.2.1 x10.2.2 x12 hy).fr [0] [] rfl rfl rfl)) (fun x12 hy h=>?_);refine Qai h (fun o13 ho hk=>?_);refine Exists.intro (JP1 _ _ o13 .normal (Qs2 h0_0)) (And.intro ?_ (Qay ?_))
       ·have h:=ho;refine And.intro (by decide +kernel) (And.intro rfl ?_);refine Qpx (fun x14=>(Qdz x14).ren [0] []) h (fun x14 hy=>(Qax 5 h0_0 x12.2.1 x12.2.2 x14 hy).fd rfl rfl [0] rfl rfl) (fun x14 hy h=>?_);refine Qad h (fun hb h=>?_) (fun hb h=>?_)
        ·refine Qa2 (l:=h0_0) (c:=Qag) (c' := Qag) h (fun _=>rfl) (fun _=>rfl) (by decide) (fun x15 hi h=>?_);refine Qco [sV x15.Text] Qg2 h (fun x16 hy=>(Qm8 x15.Text x16 hy)) (fun x16 hy h=>?_);refine Qtl _ _ h (fun x17 hy=>((Qar x16 h0_0 x12.2.1 x12.2.2 x17 hy).fg [0] [] rfl rfl rfl (Nat.le_of_ble_eq_true rfl))) (fun x17 hy h=>?_);exact JP1.a h (Le.tz 3 0 rfl rfl rfl)
        ·refine Qtl _ _ h (fun x18 hy=>((Qar false h0_0 x12.2.1 x12.2.2 x18 hy).fg [0] [] rfl rfl rfl (Nat.le_of_ble_eq_true rfl))) (fun x18 hy h=>?_);exact JP1.a h (Le.tz 3 0 rfl rfl rfl)
       ·have h:=hk;refine Qap _ _ h (fun x19 hy=>((Qax 9 h0_0 o13.1 o13.2.1 x19 hy).fr [0] [] rfl rfl rfl)) (fun x19 hy h=>?_);refine Qap _ _ h (fun x20 hy=>((Qar x19 h0_0 o13.1 o13.2.1 x20 hy).fr [0] [] rfl rfl rfl)) (fun x20 hy h=>?_);refine Exists.intro _ (And.intro (Le.refl _ _ _) ?_);exact Qb3 (t:=Qbs) (ss:=fun o=>⟨[[.p (.sl false (h0_0.map Qag)),.p (iV o.2.1),.p (bV o.2.2)]],[]⟩) h ⟨[],rfl,.p (.agg' (.cons (.refl _) (.cons (.refl _) (.cons (.refl _) (.cons (.refl _) (.cons (.not) (.cons (.not) (.cons (.not) (.nil))))))))),.refl _,rfl⟩
      ·refine Qap _ _ h (fun x21 hy=>((Qjc h0_0 h0_1 h0_2 x21 hy).fr [0] [] rfl rfl rfl)) (fun x21 hy h=>?_);refine Qap _ _ h (fun x22 hy=>((Qax 8 h0_0 x21.2.1 x21.2.2 x22 hy).fr [0] [] rfl rfl rfl)) (fun x22 hy h=>?_);refine Qad h (fun hb h=>?_) (fun hb h=>?_)
       ·refine Exists.intro _ (And.intro (Le.refl _ _ _) ?_);exact Qb3 (t:=Qbs) (ss:=fun o=>⟨[[.p (.sl false (h0_0.map Qag)),.p (iV o.2.1),.p (bV o.2.2)]],[]⟩) h ⟨[],rfl,.p (.agg' (.cons (.refl _) (.cons (.refl _) (.cons (.refl _) (.cons (.refl _) (.cons (.not) (.cons (.not) (.cons (.not) (.nil))))))))),.refl _,rfl⟩
       ·refine Qap _ _ h (fun x23 hy=>((Qar true h0_0 x21.2.1 x21.2.2 x23 hy).fr [0] [] rfl rfl rfl)) (fun x23 hy h=>?_);refine Qap _ _ h (fun x24 hy=>((Qax 9 h0_0 x23.2.1 x23.2.2 x24 hy).fr [0] [] rfl rfl rfl)) (fun x24 hy h=>?_);refine Qad h (fun hb h=>?_) (fun hb h=>?_)
        ·refine Qap _ _ h (fun x25 hy=>((Qar true h0_0 x23.2.1 x23.2.2 x25 hy).fr [0] [] rfl rfl rfl)) (fun x25 hy h=>?_);refine Exists.intro _ (And.intro (Le.refl _ _ _) ?_);exact Qb3 (t:=Qbs) (ss:=fun o=>⟨[[.p (.sl false (h0_0.map Qag)),.p (iV o.2.1),.p (bV o.2.2)]],[]⟩) h ⟨[],rfl,.p (.agg' (.cons (.refl _) (.cons (.refl _) (.cons (.refl _) (.cons (.refl _) (.cons (.not) (.cons (.not) (.cons (.not) (.nil))))))))),.refl _,rfl⟩
        ·refine Qai h (fun o26 ho hk=>?_);refine Exists.intro (JP1 _ _ o26 (.exit 0) (Qjw h0_0 x21)) (And.intro (Qhe (τ := Qd5 h0_0 x21 0 x23.2.1 x23.2.2 []) ?_ (TL.loop (iQc6 x21 0 x23.2.1 x23.2.2 [] o26 ho))) (Qay ?_))
         ·exact(Le.ownH 2 4 38 7 rfl rfl Qxs).trans (Le.tz 3 1 rfl rfl rfl)
         have h:=hk;refine Qap _ _ h (fun x33 hy=>((Qax 9 h0_0 o26.1 o26.2.1 x33 hy).fr [0] [] rfl rfl rfl)) (fun x33 hy h=>?_);refine Qap _ _ h (fun x34 hy=>((Qar x33 h0_0 o26.1 o26.2.1 x34 hy).fr [0] [] rfl rfl rfl)) (fun x34 hy h=>?_);refine Exists.intro _ (And.intro (Le.refl _ _ _) ?_);exact Qb3 (t:=Qbs) (ss:=fun o=>⟨[[.p (.sl false (h0_0.map Qag)),.p (iV o.2.1),.p (bV o.2.2)]],[]⟩) h ⟨[],rfl,.p (.agg' (.cons (.refl _) (.cons (.refl _) (.cons (.refl _) (.cons (.refl _) (.cons (.refl _) (.cons (.not) (.cons (.not) (.nil))))))))),.refl _,rfl⟩
 ·intro Qcd' Qc6' iQcd iQc6 x21 v5 h0_1_ h0_2_ h2_4 o26 h;refine TL.round (Qao mixed tbOk (lv:=Qne) _ _ _ ?_);refine Qai h (fun o27 ho hk=>?_);refine Exists.intro (JP1 _ _ o27 .normal (Qs3 h0_0 x21 v5 h0_1_ h0_2_ h2_4)) (And.intro ?_ (Qay ?_))
  ·have h:=ho;refine Qad h (fun hb h=>?_) (fun hb h=>?_)
   ·exact JP1.a h (Le.tz 3 1 rfl rfl rfl)
   ·exact JP1.a h (Le.tz 3 1 rfl rfl rfl)
  ·have h:=hk;refine Qad h (fun hb h=>?_) (fun hb h=>?_)
   ·refine And.intro (by decide +kernel) (And.intro rfl ?_);refine Qtl _ _ h (fun x28 hy=>((iQcd h0_1_ h0_2_ x28 hy).fg [0] [] rfl rfl rfl (Nat.le_of_ble_eq_true rfl))) (fun x28 hy h=>?_);refine Qix (a:=h2_4) (b:=[x28.1]) (c:=Qaa) h (.cons (.ceq (Qaq _) (.refl _)) (.nil)) (fun x=>by rw[Qaq]; rfl) rfl (fun x29 hi h=>?_);refine Qap _ _ h (fun x30 hy=>((Qax 9 h0_0 x28.2.1 x28.2.2 x30 hy).fr [0] [] rfl rfl rfl)) (fun x30 hy h=>?_);refine Qad h (fun hb h=>?_) (fun hb h=>?_)
    ·exact JP1.a h (Le.tz 3 1 rfl rfl rfl)
    ·refine Qad h (fun hb h=>?_) (fun hb h=>?_)
     ·refine Qap _ _ h (fun x31 hy=>((Qax 10 h0_0 x28.2.1 x28.2.2 x31 hy).fr [0] [] rfl rfl rfl)) (fun x31 hy h=>?_);refine Qap _ _ h (fun x32 hy=>((Qar x31 h0_0 x28.2.1 x28.2.2 x32 hy).fr [0] [] rfl rfl rfl)) (fun x32 hy h=>?_);refine TL.le (τ := Qd5 h0_0 x21 (wr (v5+1)) x32.2.1 x32.2.2 x29) ?_ ((iQc6 x21 (wr (v5+1)) x32.2.1 x32.2.2 x29 _ h));exact Le.tz 3 1 rfl rfl rfl
     ·refine TL.le (τ := Qd5 h0_0 x21 (wr (v5+1)) x28.2.1 x28.2.2 x29) ?_ ((iQc6 x21 (wr (v5+1)) x28.2.1 x28.2.2 x29 _ h));exact Le.tz 3 1 rfl rfl rfl
   ·exact JP1.a h (Le.tz 3 1 rfl rfl rfl)
theorem Qjd:∀ (h0_0:(List Qah)) (h0_1:Int) (h0_2:Bool) (o:Qab×Int×Bool),Qcd h0_0 h0_1 h0_2=some o→CallOK Tryz.prog 162 [.ptr 0 0] ⟨[[.p (.sl false (h0_0.map Qag)),.p (iV h0_1),.p (bV h0_2)]],[]⟩ (Qkh o) ⟨[[.p (.sl false (h0_0.map Qag)),.p (iV o.2.1),.p (bV o.2.2)]],[]⟩:=fun h0_0 h0_1 h0_2=>(Qvr h0_0).1 h0_1 h0_2
def Qch (h0_0:(List Qah)) (h0_1:Int) (h0_2:Bool):Option (Int×Bool) :=
 Qas 3 h0_0 h0_1 h0_2>>=fun x1 =>
 Qaj x1 h0_0 h0_1 h0_2>>=fun x2 =>
 some (x2.2.1,x2.2.2)
theorem Qfi:∀ (h0_0:(List Qah)) (h0_1:Int) (h0_2:Bool) (o:Int×Bool),Qch h0_0 h0_1 h0_2=some o→CallOK Tryz.prog 163 [.ptr 0 0] ⟨[[.p (.sl false (h0_0.map Qag)),.p (iV h0_1),.p (bV h0_2)]],[]⟩ (Qn0 o) ⟨[[.p (.sl false (h0_0.map Qag)),.p (iV o.1),.p (bV o.2)]],[]⟩:=by
 intro h0_0 h0_1 h0_2 o h;unfold Qch at h;refine CallOK.ofB mixed tbOk Qvq Tryz.func163 rfl (by kernel_rfl) (Nat.le_of_ble_eq_true rfl) rfl rfl rfl ?_;refine Qap _ _ h (fun x1 hy=>((Qax 3 h0_0 h0_1 h0_2 x1 hy).fr [0] [] rfl rfl rfl)) (fun x1 hy h=>?_);refine Qap _ _ h (fun x2 hy=>((Qar x1 h0_0 h0_1 h0_2 x2 hy).fr [0] [] rfl rfl rfl)) (fun x2 hy h=>?_);refine Exists.intro _ (And.intro (Le.refl _ _ _) ?_);exact Qb3 (t:=Qn0) (ss:=fun o=>⟨[[.p (.sl false (h0_0.map Qag)),.p (iV o.1),.p (bV o.2)]],[]⟩) h ⟨[],rfl,.refl _,.refl _,rfl⟩
def Qdm (p1:(List UInt8)) (h0_0:(List Qah)) (h0_1:Int) (h0_2:Bool):Option (Int×Bool) :=
 Qas 2 h0_0 h0_1 h0_2>>=fun x1 =>
 Qaj x1 h0_0 h0_1 h0_2>>=fun x2 =>
 Qaz p1 h0_0 x2.2.1 x2.2.2>>=fun x3 =>
 Qaj x3 h0_0 x2.2.1 x2.2.2>>=fun x4 =>
 Qch h0_0 x4.2.1 x4.2.2>>=fun x5 =>
 some (x5.1,x5.2)
theorem Qkn:∀ (p1:(List UInt8)) (h0_0:(List Qah)) (h0_1:Int) (h0_2:Bool) (o:Int×Bool),Qdm p1 h0_0 h0_1 h0_2=some o→CallOK Tryz.prog 164 [.ptr 0 0,.p (sV p1)] ⟨[[.p (.sl false (h0_0.map Qag)),.p (iV h0_1),.p (bV h0_2)]],[]⟩ (Qq2 o) ⟨[[.p (.sl false (h0_0.map Qag)),.p (iV o.1),.p (bV o.2)]],[]⟩:=by
 intro p1 h0_0 h0_1 h0_2 o h;unfold Qdm at h;refine CallOK.ofB mixed tbOk Qxz Tryz.func164 rfl (by kernel_rfl) (Nat.le_of_ble_eq_true rfl) rfl rfl rfl ?_;refine Qap _ _ h (fun x1 hy=>((Qax 2 h0_0 h0_1 h0_2 x1 hy).fr [0] [] rfl rfl rfl)) (fun x1 hy h=>?_);refine Qap _ _ h (fun x2 hy=>((Qar x1 h0_0 h0_1 h0_2 x2 hy).fr [0] [] rfl rfl rfl)) (fun x2 hy h=>?_);refine Qap _ _ h (fun x3 hy=>((Qbm p1 h0_0 x2.2.1 x2.2.2 x3 hy).fr [0] [] rfl rfl rfl)) (fun x3 hy h=>?_);refine Qap _ _ h (fun x4 hy=>((Qar x3 h0_0 x2.2.1 x2.2.2 x4 hy).fr [0] [] rfl rfl rfl)) (fun x4 hy h=>?_);refine Qap _ _ h (fun x5 hy=>((Qfi h0_0 x4.2.1 x4.2.2 x5 hy).fr [0] [] rfl rfl rfl)) (fun x5 hy h=>?_);refine Exists.intro _ (And.intro (Le.refl _ _ _) ?_);exact Qb3 (t:=Qq2) (ss:=fun o=>⟨[[.p (.sl false (h0_0.map Qag)),.p (iV o.1),.p (bV o.2)]],[]⟩) h ⟨[],rfl,.refl _,.refl _,rfl⟩
mutual
def Qb2 (p1:Bool) (p2:Bool) (h0_0:(List Qah)) (h0_1:Int) (h0_2:Bool):Option ((List Qab)×Int×Bool) :=
 (Qbz p1 p2 h0_0 [] h0_1 h0_2)>>=fun o1 =>
 match o1 with
 | .inl y2 =>
  some (y2.1,y2.2.1,y2.2.2)
 | .inr y3 =>
  some (y3.1,y3.2.1,y3.2.2)
 partial_fixpoint
def Qbz (p1:Bool) (p2:Bool) (h0_0:(List Qah)) (v7:(List Qab)) (h0_1_:Int) (h0_2_:Bool):Option (((List Qab)×Int×Bool)⊕((List Qab)×Int×Bool)) :=
 ( if(!h0_2_) then
   some (decide (h0_1_<(h0_0.length:Int)))
  else
   some false:Option (Bool))>>=fun o4 =>
 if o4 then
  Qas 1 h0_0 h0_1_ h0_2_>>=fun x5 =>
  if x5 then
   Qaj true h0_0 h0_1_ h0_2_>>=fun x6 =>
   ( if(decide ((wr ((v7.length:Int)-1)) ≥ 0)) then
     idx v7 (wr ((v7.length:Int)-1))>>=fun x8 =>
     some (x8.Kind==8)
    else
     some false:Option (Bool))>>=fun o7 =>
   if o7 then
    idx v7 (wr ((v7.length:Int)-1))>>=fun x9 =>
    need (x9.Text.length+x6.1.Text.length≤9223372036854775807)>>=fun _ =>
    idx v7 (wr ((v7.length:Int)-1))>>=fun x10 =>
    Qbz p1 p2 h0_0 (v7.set ((wr ((v7.length:Int)-1)).toNat) (Qab.mk x10.Kind x10.Name (x9.Text++x6.1.Text) x10.N x10.L x10.Then x10.Else)) x6.2.1 x6.2.2
   else
    appL 120 v7 ([(Qab.mk 8 [] x6.1.Text 0 [] [] [])])>>=fun x11 =>
    Qbz p1 p2 h0_0 x11 x6.2.1 x6.2.2
  else
   ( if p1 then
     Qb1 [101,110,100] h0_0 h0_1_ h0_2_>>=fun x13 =>
     if x13 then
      some true
     else
      if p2 then
       Qb1 [101,108,115,101] h0_0 h0_1_ h0_2_>>=fun x14 =>
       some x14
      else
       some false
    else
     if p2 then
      Qb1 [101,108,115,101] h0_0 h0_1_ h0_2_>>=fun x15 =>
      some x15
     else
      some false:Option (Bool))>>=fun o12 =>
   if o12 then
    some (.inr (v7,h0_1_,h0_2_))
   else
    Qas 2 h0_0 h0_1_ h0_2_>>=fun x16 =>
    Qaj x16 h0_0 h0_1_ h0_2_>>=fun x17 =>
    Qas 3 h0_0 x17.2.1 x17.2.2>>=fun x18 =>
    if x18 then
     Qaj true h0_0 x17.2.1 x17.2.2>>=fun x19 =>
     Qbz p1 p2 h0_0 v7 x19.2.1 x19.2.2
    else
     Qg9 h0_0 x17.2.1 x17.2.2>>=fun x20 =>
     appL 120 v7 [x20.1]>>=fun x21 =>
     Qbz p1 p2 h0_0 x21 x20.2.1 x20.2.2
 else
  some (.inl (v7,h0_1_,h0_2_))
 partial_fixpoint
def Qg9 (h0_0:(List Qah)) (h0_1:Int) (h0_2:Bool):Option (Qab×Int×Bool) :=
 Qaz [105,102] h0_0 h0_1 h0_2>>=fun x1 =>
 if x1 then
  Qaj true h0_0 h0_1 h0_2>>=fun x2 =>
  Qcd h0_0 x2.2.1 x2.2.2>>=fun x3 =>
  Qch h0_0 x3.2.1 x3.2.2>>=fun x4 =>
  Qb2 true true h0_0 x4.1 x4.2>>=fun x5 =>
  ( Qb1 [101,108,115,101] h0_0 x5.2.1 x5.2.2>>=fun x7 =>
   if x7 then
    Qdm [101,108,115,101] h0_0 x5.2.1 x5.2.2>>=fun x8 =>
    Qb2 true false h0_0 x8.1 x8.2>>=fun x9 =>
    some (x9.2.1,x9.2.2,x9.1)
   else
    some (x5.2.1,x5.2.2,[]):Option ((Int×Bool×(List Qab))))>>=fun o6 =>
  Qdm [101,110,100] h0_0 o6.1 o6.2.1>>=fun x10 =>
  some ((Qab.mk 10 [] [] 0 [x3.1] x5.1 o6.2.2),x10.1,x10.2)
 else
  ( Qaz [101,97,99,104] h0_0 h0_1 h0_2>>=fun x12 =>
   if x12 then
    some true
   else
    Qaz [108,101,116] h0_0 h0_1 h0_2>>=fun x13 =>
    some x13:Option (Bool))>>=fun o11 =>
  if o11 then
   ( Qaz [108,101,116] h0_0 h0_1 h0_2>>=fun x15 =>
    if x15 then
     some 12
    else
     some 11:Option (Int))>>=fun o14 =>
   Qaj true h0_0 h0_1 h0_2>>=fun x16 =>
   Qdc h0_0 x16.2.1 x16.2.2>>=fun x17 =>
   ( if(o14==11) then
     Qaz [105,110] h0_0 x17.2.1 x17.2.2>>=fun x19 =>
     Qaj x19 h0_0 x17.2.1 x17.2.2>>=fun x20 =>
     some (x20.2.1,x20.2.2)
    else
     Qas 11 h0_0 x17.2.1 x17.2.2>>=fun x21 =>
     Qaj x21 h0_0 x17.2.1 x17.2.2>>=fun x22 =>
     some (x22.2.1,x22.2.2):Option ((Int×Bool)))>>=fun o18 =>
   Qcd h0_0 o18.1 o18.2>>=fun x23 =>
   Qch h0_0 x23.2.1 x23.2.2>>=fun x24 =>
   Qb2 true false h0_0 x24.1 x24.2>>=fun x25 =>
   Qdm [101,110,100] h0_0 x25.2.1 x25.2.2>>=fun x26 =>
   some ((Qab.mk o14 x17.1 [] 0 [x23.1] x25.1 []),x26.1,x26.2)
  else
   ( Qaz [117,115,101] h0_0 h0_1 h0_2>>=fun x28 =>
    if x28 then
     Qaj true h0_0 h0_1 h0_2>>=fun x29 =>
     Qdc h0_0 x29.2.1 x29.2.2>>=fun x30 =>
     some (x30.2.1,x30.2.2,13,x30.1)
    else
     some (h0_1,h0_2,9,[]):Option ((Int×Bool×Int×(List UInt8))))>>=fun o27 =>
   Qcd h0_0 o27.1 o27.2.1>>=fun x31 =>
   Qch h0_0 x31.2.1 x31.2.2>>=fun x32 =>
   some ((Qab.mk o27.2.2.1 o27.2.2.2 [] 0 [x31.1] [] []),x32.1,x32.2)
 partial_fixpoint
end
theorem Quc:∀ (h0_0:(List Qah)),(∀ (p1:Bool) (p2:Bool) (h0_1:Int) (h0_2:Bool) (o:(List Qab)×Int×Bool),Qb2 p1 p2 h0_0 h0_1 h0_2=some o→CallOK Tryz.prog 116 [.ptr 0 0,.p (bV p1),.p (bV p2)] ⟨[[.p (.sl false (h0_0.map Qag)),.p (iV h0_1),.p (bV h0_2)]],[]⟩ (Qf2 o) ⟨[[.p (.sl false (h0_0.map Qag)),.p (iV o.2.1),.p (bV o.2.2)]],[]⟩)∧(∀ (p1:Bool) (p2:Bool) (v7:(List Qab)) (h0_1_:Int) (h0_2_:Bool) (o1:((List Qab)×Int×Bool)⊕((List Qab)×Int×Bool)),Qbz p1 p2 h0_0 v7 h0_1_ h0_2_=some o1→TL (1,0) Tryz.prog 89 Qs1 (JP2 (1,0) 89 o1 (.exit 0) (Qju p1 p2 h0_0) .ret (Qjv p1 p2 h0_0)) (Qcb p1 p2 h0_0 v7 h0_1_ h0_2_))∧(∀ (h0_1:Int) (h0_2:Bool) (o:Qab×Int×Bool),Qg9 h0_0 h0_1 h0_2=some o→CallOK Tryz.prog 146 [.ptr 0 0] ⟨[[.p (.sl false (h0_0.map Qag)),.p (iV h0_1),.p (bV h0_2)]],[]⟩ (Qfc o) ⟨[[.p (.sl false (h0_0.map Qag)),.p (iV o.2.1),.p (bV o.2.2)]],[]⟩):=by
 intro h0_0;refine Qb2.mutual_partial_correctness h0_0 _ _ _ ?_ ?_ ?_
 ·intro Qbz' iQbz p1 p2 h0_1 h0_2 o h;refine CallOK.ofB mixed tbOk Qnd Tryz.func116 rfl (by kernel_rfl) (Nat.le_of_ble_eq_true rfl) rfl rfl rfl ?_;refine Qai h (fun o1 ho hk=>?_);refine Exists.intro (JP2 _ _ o1 (.exit 0) (Qju p1 p2 h0_0) .ret (Qjv p1 p2 h0_0)) (And.intro (Qhe (τ := Qcb p1 p2 h0_0 [] h0_1 h0_2) ?_ (TL.loop (iQbz p1 p2 [] h0_1 h0_2 o1 ho))) (Qf3 (fun y2 hy=>?_) (fun y3 hy=>?_)))
  ·exact Le.trans (τ := ⟨[(0,.ptr 0 0),(1,.p (bV p1)),(2,.p (bV p2)),(7,.p (.sl true []))],⟨[[.p (.sl false (h0_0.map Qag)),.p (iV h0_1),.p (bV h0_2)]],[]⟩⟩) (Le.tz 1 0 rfl rfl rfl) ((Le.xnil (.s 7) 38 7 rfl).trans (Le.tz 1 1 rfl rfl rfl))
  ·have h:=(by rw[hy] at hk; exact hk);refine Exists.intro _ (And.intro (Le.trans (τ := ⟨[(6,.x 0 1 (.sl 38 7 (y2.1.map Qaa)))],⟨[[.p (.sl false (h0_0.map Qag)),.p (iV y2.2.1),.p (bV y2.2.2)]],[1]⟩⟩) (Le.tz 1 1 rfl rfl rfl) ((Le.frzv (.s 6) 0 1 rfl rfl rfl rfl).trans (Le.refl _ _ _))) ?_);exact Qb3 (t:=Qf2) (ss:=fun o=>⟨[[.p (.sl false (h0_0.map Qag)),.p (iV o.2.1),.p (bV o.2.2)]],[]⟩) h ⟨[],rfl,.refl _,.refl _,rfl⟩
  ·have h:=(by rw[hy] at hk; exact hk);refine Exists.intro _ (And.intro (Le.trans (τ := ⟨[(6,.x 0 1 (.sl 38 7 (y3.1.map Qaa)))],⟨[[.p (.sl false (h0_0.map Qag)),.p (iV y3.2.1),.p (bV y3.2.2)]],[1]⟩⟩) (Le.tz 1 1 rfl rfl rfl) ((Le.frzv (.s 6) 0 1 rfl rfl rfl rfl).trans (Le.refl _ _ _))) ?_);exact Qb3 (t:=Qf2) (ss:=fun o=>⟨[[.p (.sl false (h0_0.map Qag)),.p (iV o.2.1),.p (bV o.2.2)]],[]⟩) h ⟨[],rfl,.refl _,.refl _,rfl⟩
 ·intro Qbz' Qg9' iQbz iQg9 p1 p2 v7 h0_1_ h0_2_ o1 h;refine TL.round (Qao mixed tbOk (lv:=Qnd) _ _ _ ?_);refine Qai h (fun o4 ho hk=>?_);refine Exists.intro (JP1 _ _ o4 .normal (Qsy p1 p2 h0_0 v7 h0_1_ h0_2_)) (And.intro ?_ (Qay ?_))
  ·have h:=ho;refine And.intro (by decide +kernel) (And.intro rfl ?_);refine Qad h (fun hb h=>?_) (fun hb h=>?_)
   ·refine view (Qat _ _) rfl ?_;exact JP1.a h (Le.tz 1 1 rfl rfl rfl)
   ·exact JP1.a h (Le.tz 1 1 rfl rfl rfl)
  ·have h:=hk;refine Qad h (fun hb h=>?_) (fun hb h=>?_)
   ·refine Qap _ _ h (fun x5 hy=>((Qax 1 h0_0 h0_1_ h0_2_ x5 hy).fr [0] [] rfl rfl rfl)) (fun x5 hy h=>?_);refine Qad h (fun hb h=>?_) (fun hb h=>?_)
    ·refine Qap _ _ h (fun x6 hy=>((Qar true h0_0 h0_1_ h0_2_ x6 hy).fr [0] [] rfl rfl rfl)) (fun x6 hy h=>?_);refine And.intro rfl (Exists.intro _ (And.intro (List.length_map _) ?_));refine Qai h (fun o7 ho hk=>?_);refine Exists.intro (JP1 _ _ o7 .normal (Qsz p1 p2 h0_0 v7 x6)) (And.intro ?_ (Qay ?_))
     ·have h:=ho;refine Qad h (fun hb h=>?_) (fun hb h=>?_)
      ·refine Q06 (l:=v7) (c:=Qaa) (c' := Qa0) h rfl Qaq (fun _=>rfl) (by decide) (fun x8 hi h=>?_);refine And.intro rfl ?_;refine And.intro rfl (And.intro (Nat.le_of_ble_eq_true rfl) ?_);exact JP1.a h (Le.tz 1 1 rfl rfl rfl)
      ·exact JP1.a h (Le.tz 1 1 rfl rfl rfl)
     ·have h:=hk;refine Qad h (fun hb h=>?_) (fun hb h=>?_)
      ·refine Q06 (l:=v7) (c:=Qaa) (c' := Qa0) h rfl Qaq (fun _=>rfl) (by decide) (fun x9 hi h=>?_);refine And.intro rfl ?_;refine And.intro rfl (And.intro (Nat.le_of_ble_eq_true rfl) ?_);refine Qrt h (fun h=>?_);refine Q06 (l:=v7) (c:=Qaa) (c' := Qa0) h rfl Qaq (fun _=>rfl) (by decide) (fun x10 hi h=>?_);refine And.intro rfl ?_;refine And.intro rfl (And.intro (Nat.le_of_ble_eq_true rfl) (And.intro rfl (And.intro rfl (Exists.intro ((v7.set ((wr ((v7.length:Int)-1)).toNat) (Qab.mk x10.Kind x10.Name (x9.Text++x6.1.Text) x10.N x10.L x10.Then x10.Else)).map Qaa) (And.intro (Qaq0 (.ceq (Qaq _) (.refl _))) ?_)))));refine TL.le (τ := Qcb p1 p2 h0_0 (v7.set ((wr ((v7.length:Int)-1)).toNat) (Qab.mk x10.Kind x10.Name (x9.Text++x6.1.Text) x10.N x10.L x10.Then x10.Else)) x6.2.1 x6.2.2) ?_ ((iQbz p1 p2 (v7.set ((wr ((v7.length:Int)-1)).toNat) (Qab.mk x10.Kind x10.Name (x9.Text++x6.1.Text) x10.N x10.L x10.Then x10.Else)) x6.2.1 x6.2.2 _ h));exact Le.trans (τ := ⟨[(0,.ptr 0 0),(1,.p (bV p1)),(2,.p (bV p2)),(7,.x 0 2 (.sl 38 7 ((v7.set ((wr ((v7.length:Int)-1)).toNat) (Qab.mk x10.Kind x10.Name (x9.Text++x6.1.Text) x10.N x10.L x10.Then x10.Else)).map Qaa)))],⟨[[.p (.sl false (h0_0.map Qag)),.p (iV x6.2.1),.p (bV x6.2.2)]],[2]⟩⟩) (Le.tz 1 1 rfl rfl rfl) ((Le.ver (.s 7) 0 2 1 rfl rfl rfl rfl).trans (Le.tz 1 1 rfl rfl rfl))
      ·refine Q07 (a:=v7) (b:=[(Qab.mk 8 [] x6.1.Text 0 [] [] [])]) (c:=Qaa) h (.cons (.ceq (Qaq _) (.cons (.refl _) (.cons (.refl _) (.cons (.refl _) (.cons (.refl _) (.cons (.not) (.cons (.not) (.cons (.not) (.nil))))))))) (.nil)) (fun x=>by rw[Qaq]; rfl) rfl (fun x11 hi h=>?_);refine TL.le (τ := Qcb p1 p2 h0_0 x11 x6.2.1 x6.2.2) ?_ ((iQbz p1 p2 x11 x6.2.1 x6.2.2 _ h));exact Le.trans (τ := ⟨[(0,.ptr 0 0),(1,.p (bV p1)),(2,.p (bV p2)),(7,.x 0 2 (.sl 38 7 (x11.map Qaa)))],⟨[[.p (.sl false (h0_0.map Qag)),.p (iV x6.2.1),.p (bV x6.2.2)]],[2]⟩⟩) (Le.tz 1 1 rfl rfl rfl) ((Le.ver (.s 7) 0 2 1 rfl rfl rfl rfl).trans (Le.tz 1 1 rfl rfl rfl))
    ·refine Qai h (fun o12 ho hk=>?_);refine Exists.intro (JP1 _ _ o12 .normal (Qs0 p1 p2 h0_0 v7 h0_1_ h0_2_)) (And.intro ?_ (Qay ?_))
     ·have h:=ho;refine Qad h (fun hb h=>?_) (fun hb h=>?_)
      ·refine Qap _ _ h (fun x13 hy=>((Qfh [101,110,100] h0_0 h0_1_ h0_2_ x13 hy).fr [0] [] rfl rfl rfl)) (fun x13 hy h=>?_);refine Qad h (fun hb h=>?_) (fun hb h=>?_)
       ·exact JP1.a h (Le.tz 1 1 rfl rfl rfl)
       ·refine Qad h (fun hb h=>?_) (fun hb h=>?_)
        ·refine Qap _ _ h (fun x14 hy=>((Qfh [101,108,115,101] h0_0 h0_1_ h0_2_ x14 hy).fr [0] [] rfl rfl rfl)) (fun x14 hy h=>?_);exact JP1.a h (Le.tz 1 1 rfl rfl rfl)
        ·exact JP1.a h (Le.tz 1 1 rfl rfl rfl)
      ·refine bF ?_;refine Qad h (fun hb h=>?_) (fun hb h=>?_)
       ·refine Qap _ _ h (fun x15 hy=>((Qfh [101,108,115,101] h0_0 h0_1_ h0_2_ x15 hy).fr [0] [] rfl rfl rfl)) (fun x15 hy h=>?_);exact JP1.a h (Le.tz 1 1 rfl rfl rfl)
       ·exact JP1.a h (Le.tz 1 1 rfl rfl rfl)
     ·have h:=hk;refine Qad h (fun hb h=>?_) (fun hb h=>?_)
      ·exact JP2.b h (Le.tz 1 1 rfl rfl rfl)
      ·refine Qap _ _ h (fun x16 hy=>((Qax 2 h0_0 h0_1_ h0_2_ x16 hy).fr [0] [] rfl rfl rfl)) (fun x16 hy h=>?_);refine Qap _ _ h (fun x17 hy=>((Qar x16 h0_0 h0_1_ h0_2_ x17 hy).fr [0] [] rfl rfl rfl)) (fun x17 hy h=>?_);refine Qap _ _ h (fun x18 hy=>((Qax 3 h0_0 x17.2.1 x17.2.2 x18 hy).fr [0] [] rfl rfl rfl)) (fun x18 hy h=>?_);refine Qad h (fun hb h=>?_) (fun hb h=>?_)
       ·refine Qap _ _ h (fun x19 hy=>((Qar true h0_0 x17.2.1 x17.2.2 x19 hy).fr [0] [] rfl rfl rfl)) (fun x19 hy h=>?_);refine TL.le (τ := Qcb p1 p2 h0_0 v7 x19.2.1 x19.2.2) ?_ ((iQbz p1 p2 v7 x19.2.1 x19.2.2 _ h));exact Le.tz 1 1 rfl rfl rfl
       ·refine Qap _ _ h (fun x20 hy=>((iQg9 x17.2.1 x17.2.2 x20 hy).fr [0] [] rfl rfl rfl)) (fun x20 hy h=>?_);refine Q07 (a:=v7) (b:=[x20.1]) (c:=Qaa) h (.cons (.ceq (Qaq _) (.refl _)) (.nil)) (fun x=>by rw[Qaq]; rfl) rfl (fun x21 hi h=>?_);refine TL.le (τ := Qcb p1 p2 h0_0 x21 x20.2.1 x20.2.2) ?_ ((iQbz p1 p2 x21 x20.2.1 x20.2.2 _ h));exact Le.trans (τ := ⟨[(0,.ptr 0 0),(1,.p (bV p1)),(2,.p (bV p2)),(7,.x 0 2 (.sl 38 7 (x21.map Qaa)))],⟨[[.p (.sl false (h0_0.map Qag)),.p (iV x20.2.1),.p (bV x20.2.2)]],[2]⟩⟩) (Le.tz 1 1 rfl rfl rfl) ((Le.ver (.s 7) 0 2 1 rfl rfl rfl rfl).trans (Le.tz 1 1 rfl rfl rfl))
   ·exact JP2.a h (Le.tz 1 1 rfl rfl rfl)
 ·intro Qb2' iQb2 h0_1 h0_2 o h;refine CallOK.ofB mixed tbOk Qt7 Tryz.func146 rfl (by kernel_rfl) (Nat.le_of_ble_eq_true rfl) rfl rfl rfl ?_;refine Qap _ _ h (fun x1 hy=>((Qbm [105,102] h0_0 h0_1 h0_2 x1 hy).fr [0] [] rfl rfl rfl)) (fun x1 hy h=>?_);refine Qad h (fun hb h=>?_) (fun hb h=>?_)
  ·refine Qap _ _ h (fun x2 hy=>((Qar true h0_0 h0_1 h0_2 x2 hy).fr [0] [] rfl rfl rfl)) (fun x2 hy h=>?_);refine Qap _ _ h (fun x3 hy=>((Qjd h0_0 x2.2.1 x2.2.2 x3 hy).fr [0] [] rfl rfl rfl)) (fun x3 hy h=>?_);refine Qap _ _ h (fun x4 hy=>((Qfi h0_0 x3.2.1 x3.2.2 x4 hy).fr [0] [] rfl rfl rfl)) (fun x4 hy h=>?_);refine Qap _ _ h (fun x5 hy=>((iQb2 true true x4.1 x4.2 x5 hy).fr [0] [] rfl rfl rfl)) (fun x5 hy h=>?_);refine Qai h (fun o6 ho hk=>?_);refine Exists.intro (JP1 _ _ o6 .normal (Qrc h0_0 x3 x5)) (And.intro ?_ (Qay ?_))
   ·have h:=ho;refine Qap _ _ h (fun x7 hy=>((Qfh [101,108,115,101] h0_0 x5.2.1 x5.2.2 x7 hy).fr [0] [] rfl rfl rfl)) (fun x7 hy h=>?_);refine Qad h (fun hb h=>?_) (fun hb h=>?_)
    ·refine Qap _ _ h (fun x8 hy=>((Qkn [101,108,115,101] h0_0 x5.2.1 x5.2.2 x8 hy).fr [0] [] rfl rfl rfl)) (fun x8 hy h=>?_);refine Qap _ _ h (fun x9 hy=>((iQb2 true false x8.1 x8.2 x9 hy).fr [0] [] rfl rfl rfl)) (fun x9 hy h=>?_);refine JP1.a h ?_;exact Le.tow 3 0 rfl (.cons rfl (.refl _) (.cons rfl (.refl _) (.cons rfl (.refl _) (.nil)))) (.cons (.refl _) (.cons (.refl _) (.cons (.cons (.refl _) (.cons (.refl _) (.cons (.refl _) (.cons (.refl _) (.cons (.p (.sl' (fun h=>h) (.cons (.ceq (Qaq _) (.refl _)) (.nil)))) (.cons (.refl _) (.cons (.refl _) (.nil)))))))) (.nil)))) rfl
    ·refine JP1.a h ?_;exact Le.tow 3 0 rfl (.cons rfl (.refl _) (.cons rfl (.refl _) (.cons rfl (.refl _) (.nil)))) (.cons (.refl _) (.cons (.refl _) (.cons (.cons (.refl _) (.cons (.refl _) (.cons (.refl _) (.cons (.refl _) (.cons (.p (.sl' (fun h=>h) (.cons (.ceq (Qaq _) (.refl _)) (.nil)))) (.cons (.refl _) (.cons (.p (.not)) (.nil)))))))) (.nil)))) rfl
   ·have h:=hk;refine Qap _ _ h (fun x10 hy=>((Qkn [101,110,100] h0_0 o6.1 o6.2.1 x10 hy).fr [0] [] rfl rfl rfl)) (fun x10 hy h=>?_);refine Exists.intro _ (And.intro (Le.refl _ _ _) ?_);exact Qb3 (t:=Qfc) (ss:=fun o=>⟨[[.p (.sl false (h0_0.map Qag)),.p (iV o.2.1),.p (bV o.2.2)]],[]⟩) h ⟨[],rfl,.p (.agg' (.cons (.refl _) (.cons (.refl _) (.cons (.refl _) (.cons (.refl _) (.cons (.not) (.cons (.refl _) (.cons (.refl _) (.nil))))))))),.refl _,rfl⟩
  ·refine Qai h (fun o11 ho hk=>?_);refine Exists.intro (JP1 _ _ o11 .normal (Qrd h0_0 h0_1 h0_2)) (And.intro ?_ (Qay ?_))
   ·have h:=ho;refine Qap _ _ h (fun x12 hy=>((Qbm [101,97,99,104] h0_0 h0_1 h0_2 x12 hy).fr [0] [] rfl rfl rfl)) (fun x12 hy h=>?_);refine Qad h (fun hb h=>?_) (fun hb h=>?_)
    ·exact JP1.a h (Le.tz 2 0 rfl rfl rfl)
    ·refine Qap _ _ h (fun x13 hy=>((Qbm [108,101,116] h0_0 h0_1 h0_2 x13 hy).fr [0] [] rfl rfl rfl)) (fun x13 hy h=>?_);exact JP1.a h (Le.tz 2 0 rfl rfl rfl)
   ·have h:=hk;refine Qad h (fun hb h=>?_) (fun hb h=>?_)
    ·refine Qai h (fun o14 ho hk=>?_);refine Exists.intro (JP1 _ _ o14 .normal (Qre h0_0 h0_1 h0_2)) (And.intro ?_ (Qay ?_))
     ·have h:=ho;refine Qap _ _ h (fun x15 hy=>((Qbm [108,101,116] h0_0 h0_1 h0_2 x15 hy).fr [0] [] rfl rfl rfl)) (fun x15 hy h=>?_);refine Qad h (fun hb h=>?_) (fun hb h=>?_)
      ·exact JP1.a h (Le.tz 3 0 rfl rfl rfl)
      ·exact JP1.a h (Le.tz 3 0 rfl rfl rfl)
     ·have h:=hk;refine Qap _ _ h (fun x16 hy=>((Qar true h0_0 h0_1 h0_2 x16 hy).fr [0] [] rfl rfl rfl)) (fun x16 hy h=>?_);refine Qap _ _ h (fun x17 hy=>((Qjc h0_0 x16.2.1 x16.2.2 x17 hy).fr [0] [] rfl rfl rfl)) (fun x17 hy h=>?_);refine Qai h (fun o18 ho hk=>?_);refine Exists.intro (JP1 _ _ o18 .normal (Qrf h0_0 o14 x17)) (And.intro ?_ (Qay ?_))
      ·have h:=ho;refine Qad h (fun hb h=>?_) (fun hb h=>?_)
       ·refine Qap _ _ h (fun x19 hy=>((Qbm [105,110] h0_0 x17.2.1 x17.2.2 x19 hy).fr [0] [] rfl rfl rfl)) (fun x19 hy h=>?_);refine Qap _ _ h (fun x20 hy=>((Qar x19 h0_0 x17.2.1 x17.2.2 x20 hy).fr [0] [] rfl rfl rfl)) (fun x20 hy h=>?_);exact JP1.a h (Le.tz 3 0 rfl rfl rfl)
       ·refine Qap _ _ h (fun x21 hy=>((Qax 11 h0_0 x17.2.1 x17.2.2 x21 hy).fr [0] [] rfl rfl rfl)) (fun x21 hy h=>?_);refine Qap _ _ h (fun x22 hy=>((Qar x21 h0_0 x17.2.1 x17.2.2 x22 hy).fr [0] [] rfl rfl rfl)) (fun x22 hy h=>?_);exact JP1.a h (Le.tz 3 0 rfl rfl rfl)
      ·have h:=hk;refine Qap _ _ h (fun x23 hy=>((Qjd h0_0 o18.1 o18.2 x23 hy).fr [0] [] rfl rfl rfl)) (fun x23 hy h=>?_);refine Qap _ _ h (fun x24 hy=>((Qfi h0_0 x23.2.1 x23.2.2 x24 hy).fr [0] [] rfl rfl rfl)) (fun x24 hy h=>?_);refine Qap _ _ h (fun x25 hy=>((iQb2 true false x24.1 x24.2 x25 hy).fr [0] [] rfl rfl rfl)) (fun x25 hy h=>?_);refine Qap _ _ h (fun x26 hy=>((Qkn [101,110,100] h0_0 x25.2.1 x25.2.2 x26 hy).fr [0] [] rfl rfl rfl)) (fun x26 hy h=>?_);refine Exists.intro _ (And.intro (Le.refl _ _ _) ?_);exact Qb3 (t:=Qfc) (ss:=fun o=>⟨[[.p (.sl false (h0_0.map Qag)),.p (iV o.2.1),.p (bV o.2.2)]],[]⟩) h ⟨[],rfl,.p (.agg' (.cons (.refl _) (.cons (.refl _) (.cons (.refl _) (.cons (.refl _) (.cons (.no (.cons (.ceq (Qaq _) (.refl _)) (.nil))) (.cons (.refl _) (.cons (.not) (.nil))))))))),.refl _,rfl⟩
    ·refine Qai h (fun o27 ho hk=>?_);refine Exists.intro (JP1 _ _ o27 .normal (Qrg h0_0)) (And.intro ?_ (Qay ?_))
     ·have h:=ho;refine Qap _ _ h (fun x28 hy=>((Qbm [117,115,101] h0_0 h0_1 h0_2 x28 hy).fr [0] [] rfl rfl rfl)) (fun x28 hy h=>?_);refine Qad h (fun hb h=>?_) (fun hb h=>?_)
      ·refine Qap _ _ h (fun x29 hy=>((Qar true h0_0 h0_1 h0_2 x29 hy).fr [0] [] rfl rfl rfl)) (fun x29 hy h=>?_);refine Qap _ _ h (fun x30 hy=>((Qjc h0_0 x29.2.1 x29.2.2 x30 hy).fr [0] [] rfl rfl rfl)) (fun x30 hy h=>?_);exact JP1.a h (Le.tz 3 0 rfl rfl rfl)
      ·exact JP1.a h (Le.tz 3 0 rfl rfl rfl)
     ·have h:=hk;refine Qap _ _ h (fun x31 hy=>((Qjd h0_0 o27.1 o27.2.1 x31 hy).fr [0] [] rfl rfl rfl)) (fun x31 hy h=>?_);refine Qap _ _ h (fun x32 hy=>((Qfi h0_0 x31.2.1 x31.2.2 x32 hy).fr [0] [] rfl rfl rfl)) (fun x32 hy h=>?_);refine Exists.intro _ (And.intro (Le.refl _ _ _) ?_);exact Qb3 (t:=Qfc) (ss:=fun o=>⟨[[.p (.sl false (h0_0.map Qag)),.p (iV o.2.1),.p (bV o.2.2)]],[]⟩) h ⟨[],rfl,.p (.agg' (.cons (.refl _) (.cons (.refl _) (.cons (.refl _) (.cons (.refl _) (.cons (.no (.cons (.ceq (Qaq _) (.refl _)) (.nil))) (.cons (.not) (.cons (.not) (.nil))))))))),.refl _,rfl⟩
theorem Qvs:∀ (p1:Bool) (p2:Bool) (h0_0:(List Qah)) (h0_1:Int) (h0_2:Bool) (o:(List Qab)×Int×Bool),Qb2 p1 p2 h0_0 h0_1 h0_2=some o→CallOK Tryz.prog 116 [.ptr 0 0,.p (bV p1),.p (bV p2)] ⟨[[.p (.sl false (h0_0.map Qag)),.p (iV h0_1),.p (bV h0_2)]],[]⟩ (Qf2 o) ⟨[[.p (.sl false (h0_0.map Qag)),.p (iV o.2.1),.p (bV o.2.2)]],[]⟩:=fun p1 p2 h0_0 h0_1 h0_2=>(Quc h0_0).1 p1 p2 h0_1 h0_2
def Qpe (p0:(List UInt8)):Option ((List Qab)×Int×Int) :=
 Qmg p0>>=fun x1 =>
 if(x1.2.2 != 0) then
  some ([],x1.2.1,x1.2.2)
 else
  Qb2 false false x1.1 0 false>>=fun x2 =>
  if x2.2.2 then
   if(decide (x2.2.1<(x1.1.length:Int))) then
    idx x1.1 x2.2.1>>=fun x3 =>
    some ([],x3.From,7)
   else
    some ([],(p0.length:Int),7)
  else
   Qdw x2.1>>=fun x4 =>
   if(decide (x4>1024)) then
    some ([],0,5)
   else
    Qe5 x2.1>>=fun x5 =>
    if(decide (x5>12)) then
     some ([],0,8)
    else
     some (x2.1,0,0)
theorem Qaci:∀ (p0:(List UInt8)) (o:(List Qab)×Int×Int),Qpe p0=some o→PCall Tryz.prog 84 [sV p0] (Qgp o):=by
 intro p0 o h;unfold Qpe at h;refine PCall.ofB mixed tbOk Qacg Tryz.func84 rfl (by kernel_rfl) (Nat.le_of_ble_eq_true rfl) ?_;refine Qal [sV p0] Qk5 h (fun x1 hy=>(Q8z p0 x1 hy)) (fun x1 hy h=>?_);refine Qad h (fun hb h=>?_) (fun hb h=>?_)
 ·refine Qam (t:=Qgp) h ?_;exact .tup (xs:=[.sl true [],iV x1.2.1,iV x1.2.2]) (ys:=[.sl false [],iV x1.2.1,iV x1.2.2]) (.cons (.not) (.cons (.refl _) (.cons (.refl _) (.nil))))
 ·refine Qap _ _ h (fun x2 hy=>((Qvs false false x1.1 0 false x2 hy).fr [0] [] rfl rfl rfl)) (fun x2 hy h=>?_);refine Qad h (fun hb h=>?_) (fun hb h=>?_)
  ·refine view (Qat _ _) rfl ?_;refine Qad h (fun hb h=>?_) (fun hb h=>?_)
   ·refine And.intro (by decide +kernel) (And.intro rfl ?_);refine Qa2 (l:=x1.1) (c:=Qag) (c' := Qag) h (fun _=>rfl) (fun _=>rfl) (by decide) (fun x3 hi h=>?_);refine Qam (t:=Qgp) h ?_;exact .tup (xs:=[.sl true [],iV x3.From,iV 7]) (ys:=[.sl false [],iV x3.From,iV 7]) (.cons (.not) (.cons (.refl _) (.cons (.refl _) (.nil))))
   ·refine vrfl ?_;refine Qam (t:=Qgp) h ?_;exact .tup (xs:=[.sl true [],iV (p0.length:Int),iV 7]) (ys:=[.sl false [],iV (p0.length:Int),iV 7]) (.cons (.not) (.cons (.refl _) (.cons (.refl _) (.nil))))
  ·refine Qal [.sl false (x2.1.map Qaa)] Qf8 h (fun x4 hy=>(Qyq x2.1 x4 hy)) (fun x4 hy h=>?_);refine Qad h (fun hb h=>?_) (fun hb h=>?_)
   ·refine Qam (t:=Qgp) h ?_;exact .tup (xs:=[.sl true [],iV 0,iV 5]) (ys:=[.sl false [],iV 0,iV 5]) (.cons (.not) (.cons (.refl _) (.cons (.refl _) (.nil))))
   ·refine Qal [.sl false (x2.1.map Qaa)] Qil h (fun x5 hy=>(Q1y x2.1 x5 hy)) (fun x5 hy h=>?_);refine Qad h (fun hb h=>?_) (fun hb h=>?_)
    ·refine Qam (t:=Qgp) h ?_;exact .tup (xs:=[.sl true [],iV 0,iV 8]) (ys:=[.sl false [],iV 0,iV 8]) (.cons (.not) (.cons (.refl _) (.cons (.refl _) (.nil))))
    ·refine Qam (t:=Qgp) h ?_;exact .refl _
mutual
def Qfv (p0:(List Qae)) (p1:(List Qab)) (p2:Int):Option (Int) :=
 (Qez p0 p1 p2 0 0)>>=fun o1 =>
 some o1
 partial_fixpoint
def Qez (p0:(List Qae)) (p1:(List Qab)) (p2:Int) (v7:Int) (v8:Int):Option (Int) :=
 ( if(decide (v8<(p1.length:Int))) then
   some (decide (v7<p2))
  else
   some false:Option (Bool))>>=fun o2 =>
 if o2 then
  idx p1 v8>>=fun x3 =>
  Qfv p0 x3.Then (wr (p2-v7))>>=fun x4 =>
  idx p1 v8>>=fun x5 =>
  Qfv p0 x5.Else (wr (p2-v7))>>=fun x6 =>
  ( idx p1 v8>>=fun x8 =>
   if(x8.Kind==13) then
    some (decide ((wr ((wr ((wr (v7+1))+x4))+x6))<p2))
   else
    some false:Option (Bool))>>=fun o7 =>
  if o7 then
   idx p1 v8>>=fun x9 =>
   Qhx p0 x9.Name>>=fun x10 =>
   Qfv p0 x10.1 (wr (p2-(wr ((wr ((wr (v7+1))+x4))+x6))))>>=fun x11 =>
   Qez p0 p1 p2 (wr ((wr ((wr ((wr (v7+1))+x4))+x6))+x11)) (wr (v8+1))
  else
   Qez p0 p1 p2 (wr ((wr ((wr (v7+1))+x4))+x6)) (wr (v8+1))
 else
  some v7
 partial_fixpoint
end
theorem Q80:∀ (p0:(List Qae)),(∀ (p1:(List Qab)) (p2:Int) (o:Int),Qfv p0 p1 p2=some o→PCall Tryz.prog 60 [.sl false (p0.map Qaf),.sl false (p1.map Qaa),iV p2] (Qh9 o))∧(∀ (p1:(List Qab)) (p2:Int) (v7:Int) (v8:Int) (o1:Int),Qez p0 p1 p2 v7 v8=some o1→TL (0,0) Tryz.prog 76 Q4j (JP1 (0,0) 76 o1 (.exit 0) (Qs5 p0 p1 p2)) (Qja p0 p1 p2 v7 v8)):=by
 intro p0;refine Qfv.mutual_partial_correctness p0 _ _ ?_ ?_
 ·intro Qez' iQez p1 p2 o h;refine PCall.ofB mixed tbOk Qyt Tryz.func60 rfl (by kernel_rfl) (Nat.le_of_ble_eq_true rfl) ?_;refine Qai h (fun o1 ho hk=>?_);refine Exists.intro (JP1 _ _ o1 (.exit 0) (Qs5 p0 p1 p2)) (And.intro (Qhe (τ := Qja p0 p1 p2 0 0) ?_ (TL.loop (iQez p1 p2 0 0 o1 ho))) (Qay ?_))
  ·exact Le.tz 0 0 rfl rfl rfl
  have h:=hk;refine Qam (t:=Qh9) h ?_;exact .refl _
 ·intro Qfv' Qez' iQfv iQez p1 p2 v7 v8 o1 h;refine TL.round (Qao mixed tbOk (lv:=Qyt) _ _ _ ?_);refine Qai h (fun o2 ho hk=>?_);refine Exists.intro (JP1 _ _ o2 .normal (Q4h p0 p1 p2 v7 v8)) (And.intro ?_ (Qay ?_))
  ·have h:=ho;refine view (Qat _ _) rfl ?_;refine Qad h (fun hb h=>?_) (fun hb h=>?_)
   ·exact JP1.a h (Le.tz 0 0 rfl rfl rfl)
   ·exact JP1.a h (Le.tz 0 0 rfl rfl rfl)
  ·have h:=hk;refine Qad h (fun hb h=>?_) (fun hb h=>?_)
   ·refine And.intro (by decide +kernel) (And.intro rfl ?_);refine Qa2 (l:=p1) (c:=Qaa) (c' := Qa0) h Qaq (fun _=>rfl) (by decide) (fun x3 hi h=>?_);refine Qco [.sl false (p0.map Qaf),.sl false (x3.Then.map Qaa),iV (wr (p2-v7))] Qh9 h (fun x4 hy=>(iQfv x3.Then (wr (p2-v7)) x4 hy)) (fun x4 hy h=>?_);refine Qa2 (l:=p1) (c:=Qaa) (c' := Qa0) h Qaq (fun _=>rfl) (by decide) (fun x5 hi h=>?_);refine Qco [.sl false (p0.map Qaf),.sl false (x5.Else.map Qaa),iV (wr (p2-v7))] Qh9 h (fun x6 hy=>(iQfv x5.Else (wr (p2-v7)) x6 hy)) (fun x6 hy h=>?_);refine Qai h (fun o7 ho hk=>?_);refine Exists.intro (JP1 _ _ o7 .normal (Q4i p0 p1 p2 v7 v8 x4 x6)) (And.intro ?_ (Qay ?_))
    ·have h:=ho;refine Qa2 (l:=p1) (c:=Qaa) (c' := Qa0) h Qaq (fun _=>rfl) (by decide) (fun x8 hi h=>?_);refine Qad h (fun hb h=>?_) (fun hb h=>?_)
     ·exact JP1.a h (Le.tz 0 0 rfl rfl rfl)
     ·exact JP1.a h (Le.tz 0 0 rfl rfl rfl)
    ·have h:=hk;refine Qad h (fun hb h=>?_) (fun hb h=>?_)
     ·refine Qa2 (l:=p1) (c:=Qaa) (c' := Qa0) h Qaq (fun _=>rfl) (by decide) (fun x9 hi h=>?_);refine Qal [.sl false (p0.map Qaf),sV x9.Name] Qg4 h (fun x10 hy=>(Qkf p0 x9.Name x10 hy)) (fun x10 hy h=>?_);refine Qal [.sl false (p0.map Qaf),.sl false (x10.1.map Qaa),iV (wr (p2-(wr ((wr ((wr (v7+1))+x4))+x6))))] Qh9 h (fun x11 hy=>(iQfv x10.1 (wr (p2-(wr ((wr ((wr (v7+1))+x4))+x6)))) x11 hy)) (fun x11 hy h=>?_);refine TL.le (τ := Qja p0 p1 p2 (wr ((wr ((wr ((wr (v7+1))+x4))+x6))+x11)) (wr (v8+1))) ?_ ((iQez p1 p2 (wr ((wr ((wr ((wr (v7+1))+x4))+x6))+x11)) (wr (v8+1)) _ h));exact Le.tz 0 0 rfl rfl rfl
     ·refine TL.le (τ := Qja p0 p1 p2 (wr ((wr ((wr (v7+1))+x4))+x6)) (wr (v8+1))) ?_ ((iQez p1 p2 (wr ((wr ((wr (v7+1))+x4))+x6)) (wr (v8+1)) _ h));exact Le.tz 0 0 rfl rfl rfl
   ·exact JP1.a h (Le.tz 0 0 rfl rfl rfl)
theorem Qacj:∀ (p0:(List Qae)) (p1:(List Qab)) (p2:Int) (o:Int),Qfv p0 p1 p2=some o→PCall Tryz.prog 60 [.sl false (p0.map Qaf),.sl false (p1.map Qaa),iV p2] (Qh9 o):=fun p0 p1 p2=>(Q80 p0).1 p1 p2
def Qdr (p0:(List Qae)) (p1:(List UInt8)):Option ((List Qae)×Bool) :=
 Qgo p0 8>>=fun x1 =>
 Qo7 x1>>=fun x2 =>
 if(x2.2 != 0) then
  some (x1,true)
 else
  Qhx x1 p1>>=fun x3 =>
  Qfv x1 x3.1 3000>>=fun x4 =>
  some (x1,(decide (x4<3000)))
theorem Qud:∀ (p0:(List Qae)) (p1:(List UInt8)) (o:(List Qae)×Bool),Qdr p0 p1=some o→PCall Tryz.prog 26 [.sl false (p0.map Qaf),sV p1] (Qfd o):=by
 intro p0 p1 o h;unfold Qdr at h;refine PCall.ofB mixed tbOk Qub Tryz.func26 rfl (by kernel_rfl) (Nat.le_of_ble_eq_true rfl) ?_;refine Qal [.sl false (p0.map Qaf),iV 8] Qkb h (fun x1 hy=>(Qwo p0 8 x1 hy)) (fun x1 hy h=>?_);refine Qal [.sl false (x1.map Qaf)] Qh2 h (fun x2 hy=>(Qab3 x1 x2 hy)) (fun x2 hy h=>?_);refine Qad h (fun hb h=>?_) (fun hb h=>?_)
 ·refine Qam (t:=Qfd) h ?_;exact .refl _
 ·refine Qal [.sl false (x1.map Qaf),sV p1] Qg4 h (fun x3 hy=>(Qkf x1 p1 x3 hy)) (fun x3 hy h=>?_);refine Qal [.sl false (x1.map Qaf),.sl false (x3.1.map Qaa),iV 3000] Qh9 h (fun x4 hy=>(Qacj x1 x3.1 3000 x4 hy)) (fun x4 hy h=>?_);refine Qam (t:=Qfd) h ?_;exact .refl _
def Qca (p0:(List Qak)):Option ((List Qak)) :=
 appL 32 [] p0
theorem Qje:∀ (p0:(List Qak)) (o:(List Qak)),Qca p0=some o→CallOK Tryz.prog 88 [.p (.sl false (p0.map Qbg))] ⟨[],[]⟩ (Qcv o) ⟨[],[1]⟩:=by
 intro p0 o h;unfold Qca at h;have h:(appL 32 ([]:List Qak) p0>>=fun r=>some r)=some o:=by rw[h]; rfl
 refine CallOK.ofB mixed tbOk Qjb Tryz.func88 rfl (by kernel_rfl) (Nat.le_of_ble_eq_true rfl) rfl rfl rfl ?_;refine⟨rfl,rfl,rfl,fun b hb=>?_⟩;cases b with
 | true =>
  refine bT ?_;obtain rfl:=List.map_eq_nil_iff.1 (hb rfl);have h:some ([]:List Qak)=some o:=h;refine Exists.intro _ (And.intro (Le.xnil (.s 2) 46 3 rfl) ?_);exact Qb3 (t:=Qcv) (ss:=fun o=>⟨[],[1]⟩) h ⟨[0],rfl,.refl _,.refl _,rfl⟩
 | false =>
  refine bF ?_;refine Qaf8 (a:=([]:List Qak)) (b:=p0) (c:=Qbg) h (.refl _) (.refl _) (fun _=>rfl) (.inl rfl) (fun r hi h=>?_);refine Exists.intro _ (And.intro (Le.refl _ _ _) ?_);exact Qb3 (t:=Qcv) (ss:=fun o=>⟨[],[1]⟩) h ⟨[0],rfl,.refl _,.refl _,rfl⟩
instance Q2e:Lean.Order.CCPO ((List UInt8)→Bool→(List (Qbd×Int))→Option (((List UInt8)×Bool×(List (Qbd×Int)))⊕((List UInt8)×Bool×(List (Qbd×Int))))):=inferInstance
instance Q2f:Lean.Order.CCPO ((List Qab)→(List Qak)→Int→(List UInt8)→Bool→(List (Qbd×Int))→Option (((List UInt8)×Bool×(List (Qbd×Int)))⊕((List UInt8)×Bool×(List (Qbd×Int))))):=inferInstance
instance Q22:Lean.Order.CCPO (Bool→(List (Qbd×Int))→Int→Option ((List UInt8)×Bool×(List (Qbd×Int))×Int)):=inferInstance
instance Q23:Lean.Order.CCPO ((List Qab)→(List Qak)→(List UInt8)→Bool→(List (Qbd×Int))→Int→Option ((List UInt8)×Bool×(List (Qbd×Int))×Int)):=inferInstance
instance Qzg:Lean.Order.CCPO (Bool→(List (Qbd×Int))→Int→Option (((List UInt8)×Bool×(List (Qbd×Int))×Int)⊕((List UInt8)×Bool×(List (Qbd×Int))×Int))):=inferInstance
instance Qzh:Lean.Order.CCPO ((List Qak)→Int→(List UInt8)→Bool→(List (Qbd×Int))→Int→Option (((List UInt8)×Bool×(List (Qbd×Int))×Int)⊕((List UInt8)×Bool×(List (Qbd×Int))×Int))):=inferInstance
end Go.Proofs.YtfgegilhjlnohaaGreat
end

noncomputable section
namespace Go.Proofs.YtfgegilhjlnohaaGreat
open Go.RowKit
set_option linter.unusedSimpArgs false
set_option linter.unusedVariables false
mutual
def nn:Qab→Nat
 | ⟨_,_,_,_,a,b,c⟩=>1+nns a+nns b+nns c
def nns:List Qab→Nat
 | []=>0
 | x::r=>nn x+nns r
end
mutual
def dp:Qab→Nat
 | ⟨_,_,_,_,a,b,c⟩=>1+max (dps a) (max (dps b) (dps c))
def dps:List Qab→Nat
 | []=>0
 | x::r=>max (dp x) (dps r)
end
mutual
def sm:Qab→Prop
 | ⟨_,s,t,_,a,b,c⟩=>s.length≤40∧t.length≤60∧sms a∧sms b∧sms c
def sms:List Qab→Prop
 | []=>True
 | x::r=>sm x∧sms r
end
theorem Qhg(x:Qab):nn x=1+nns x.L+nns x.Then+nns x.Else:=by cases x; rw[nn]
theorem Qaku(x:Qab):dp x=1+max (dps x.L) (max (dps x.Then) (dps x.Else)):=by cases x; rw[dp]
theorem Qaq3(x:Qab):sm x↔(x.Name.length≤40∧x.Text.length≤60∧sms x.L∧sms x.Then∧sms x.Else):=by cases x; rw[sm]
theorem Qhl(x:Qab):1≤nn x:=by rw[Qhg]; omega
theorem Qfj:∀ l:List Qab,l.length≤nns l
 | []=>by simp[nns]
 | x::r=>by have:=Qfj r; have:=Qhl x; simp[nns]; omega
theorem Qek:∀ {l:List Qab} {x:Qab},x ∈ l→nn x≤nns l
 | y::r,x,h=>by
  rcases List.mem_cons.1 h with rfl | h
  ·simp[nns]
  ·have:=Qek h; simp[nns]; omega
def Qn1(g:List Qab→Nat→List Qab×Nat):List Qab→Nat→List Qab×Nat
 | [],n=>([],n)
 | x::r,n=>if n=0 then([],0) else
  (⟨x.Kind,x.Name.take 40,x.Text.take 60,x.N,(g x.L (n-1)).1,(g x.Then (g x.L (n-1)).2).1,(g x.Else (g x.Then (g x.L (n-1)).2).2).1⟩ ::
   (Qn1 g r (g x.Else (g x.Then (g x.L (n-1)).2).2).2).1,(Qn1 g r (g x.Else (g x.Then (g x.L (n-1)).2).2).2).2)
def Qhm:Nat→List Qab→Nat→List Qab×Nat
 | 0,_,n=>([],n)
 | d+1,l,n=>Qn1 (Qhm d) l n
def LG(d:Nat)(g:List Qab→Nat→List Qab×Nat):Prop:=∀ (l:List Qab) (n:Nat),nns (g l n).1+(g l n).2=n∧dps (g l n).1≤d∧sms (g l n).1
theorem Qakv{d:Nat}{g:List Qab→Nat→List Qab×Nat}(hg:LG d g):LG (d+1) (Qn1 g):=fun l=>by
 induction l with
 | nil=>intro n; simp[Qn1,nns,dps,sms]
 | cons x r ih =>
  intro n;unfold Qn1;split
  ·subst_vars; simp[nns,dps,sms]
  ·obtain⟨a1,a2,a3⟩:=hg x.L (n-1);obtain⟨b1,b2,b3⟩:=hg x.Then (g x.L (n-1)).2;obtain⟨c1,c2,c3⟩:=hg x.Else (g x.Then (g x.L (n-1)).2).2;obtain⟨d1,d2,d3⟩:=ih (g x.Else (g x.Then (g x.L (n-1)).2).2).2;simp only[nns,Qhg,dps,Qaku,sms,Qaq3];refine⟨by omega,by omega,⟨?_,?_,a3,b3,c3⟩,d3⟩
   ·simp; omega
   ·simp; omega
theorem Qpf:∀ d,LG d (Qhm d)
 | 0=>fun l n=>by simp[Qhm,nns,dps,sms]
 | d+1=>Qakv (Qpf d)
theorem Qao6{l:List UInt8}{k:Nat}:(l.take (if(k:Int)<(l.length:Int) then(k:Int) else(l.length:Int)).toNat).drop (0:Int).toNat=l.take k:=by
 split
 ·simp
 ·simp;rw[List.take_of_length_le (by omega)]
theorem Qakw(l:List UInt8)(k:Nat):cutL l 0 (if(k:Int)<(l.length:Int) then(k:Int) else(l.length:Int))=some (l.take k):=by
 rw[Qmq (by omega) (by split<;>omega) (by split<;>omega),Qao6]
def LIs(g:List Qab→Nat→List Qab×Nat)(f:List Qab→Int→Option (List Qab×Int)):Prop:=∀ (l:List Qab) (n:Nat),n≤100→f l n=some ((g l n).1,((g l n).2:Int))
theorem Qam8{d:Nat}(hd:d+1≤15)(hf:LIs (Qhm d) (fun l n=>Qbb l d n))(l:List Qab):∀ k,k≤l.length→∀ (n:Nat) (acc:List Qab),acc.length=k→k+n≤100 →
  Qb7 l ((d+1:Nat):Int) n acc k=some (((Qn1 (Qhm d) (l.drop k) n).2:Int),acc++(Qn1 (Qhm d) (l.drop k) n).1):=by
 refine upto ?_ fun k hk ih=>?_
 ·intro n acc _ _;rw[Qb7];simp[Qn1]
 ·intro n acc ha hn;rw[Qb7,Qcc hk];have h40:=Qakw (l[k].Name) 40;have h60:=Qakw (l[k].Text) 60;simp only[ltI,hk,decide_true,if_true];by_cases h0:n=0
  ·subst h0;simp[Qn1]
  ·have e1:wr (((d+1:Nat):Int)-1)=d:=by rw[Qg1 (by omega) (by omega)]; omega
   have e2:wr ((n:Int)-1)=((n-1:Nat):Int):=by rw[Qg1 (by omega) (by omega)]; omega
   have hpos:decide ((n:Int)>0)=true:=decide_eq_true (by omega);have hpos2:decide (((d+1:Nat):Int)>0)=true:=decide_eq_true (by omega);simp only[hpos,hpos2,if_true,Qac,Qa1,getE hk,e1,e2];rw[show(40:Int)=((40:Nat):Int) from rfl,h40,Qac,show(60:Int)=((60:Nat):Int) from rfl,h60,Qac];obtain⟨a1,-,-⟩:=Qpf d l[k].L (n-1);have f1:=hf l[k].L (n-1) (by omega);obtain⟨b1,-,-⟩:=Qpf d l[k].Then (Qhm d l[k].L (n-1)).2;have f2:=hf l[k].Then (Qhm d l[k].L (n-1)).2 (by omega);obtain⟨c1,-,-⟩:=Qpf d l[k].Else (Qhm d l[k].Then (Qhm d l[k].L (n-1)).2).2;have f3:=hf l[k].Else (Qhm d l[k].Then (Qhm d l[k].L (n-1)).2).2 (by omega);simp only at f1 f2 f3;simp only[f1,f2,f3,Qac];rw[Qes (by simp; omega) (by simp; omega),Qac,Qa3 (by omega)];rw[ih _ _ (by simp[ha]) (by omega),Qn1,if_neg h0];simp
theorem Qagi:∀ d,d≤15→LIs (Qhm d) (fun l n=>Qbb l (d:Nat) n)
 | 0,_=>fun l n hn=>by
  have h0:decide (((0:Nat):Int)>0)=false:=rfl;show Qbb l ((0:Nat):Int) n=_;rw[Qbb,Qb7];simp only[h0,Qac];have e:∀ b c:Bool,(if b=true then if c=true then some false else some false else some false:Option Bool)=some false:=fun b c=>by cases b<;>cases c<;>rfl
  rw[e];rfl
 | d+1,h=>fun l n hn=>by
  have:=Qam8 h (Qagi d (by omega)) l 0 (by omega) n [] rfl (by omega);show Qbb l ((d+1:Nat):Int) n=_;rw[Qbb];rw[show((0:Nat):Int)=0 from rfl] at this;rw[this];simp[Qhm]
section
end
section
end
def Qyu(c:UInt8):Bool:=decide (97≤c.toNat)&&decide (c.toNat≤122)
def digB(c:UInt8):Bool:=decide (48≤c.toNat)&&decide (c.toNat≤57)
def letB(c:UInt8):Bool:=Qyu c||(digB c||c.toNat==95)
def Qao7:List UInt8→Bool
 | []=>false
 | c::_=>decide (97≤c.toNat)
theorem Q5x(c:UInt8)(r:List UInt8):Qao7 (c::r)=decide (97≤c.toNat):=rfl
def Qom(s:List UInt8):Bool := !(s==[])&&(decide (s.length≤32)&&(Qao7 s&&s.all letB))
theorem geN(n k:Nat):decide ((n:Int) ≥ (k:Int))=decide (k≤n):=by
 by_cases h:k≤n
 ·rw[decide_eq_true h,decide_eq_true (by omega:(n:Int) ≥ k)]
 ·rw[decide_eq_false h,decide_eq_false (by omega)]
theorem leN(n k:Nat):decide ((n:Int)≤(k:Int))=decide (n≤k):=by
 by_cases h:n≤k
 ·rw[decide_eq_true h,decide_eq_true (by omega:(n:Int)≤k)]
 ·rw[decide_eq_false h,decide_eq_false (by omega)]
theorem eqN(n k:Nat):((n:Int)==(k:Int))=(n==k):=by
 by_cases h:n=k
 ·subst h; simp
 ·rw[beq_eq_false_iff_ne.2 h,beq_eq_false_iff_ne.2 (by omega)]
theorem Qaq4(c:UInt8):Qo9 (c.toNat:Int)=some (digB c):=by
 have a:=geN c.toNat 48;have b:=leN c.toNat 57;rw[Qo9];rw[show(48:Int)=((48:Nat):Int) from rfl,show(57:Int)=((57:Nat):Int) from rfl,a,b,digB];cases decide (48≤c.toNat)<;>rfl
theorem Qaq5(c:UInt8):Qfp (c.toNat:Int)=some (digB c):=by
 have a:=geN c.toNat 48;have b:=leN c.toNat 57;rw[Qfp];rw[show(48:Int)=((48:Nat):Int) from rfl,show(57:Int)=((57:Nat):Int) from rfl,a,b,digB];cases decide (48≤c.toNat)<;>rfl
theorem Qan3(c:UInt8):Qfq (c.toNat:Int)=some (Qyu c):=by
 have a:=geN c.toNat 97;have b:=leN c.toNat 122;rw[Qfq];rw[show(97:Int)=((97:Nat):Int) from rfl,show(122:Int)=((122:Nat):Int) from rfl,a,b,Qyu];cases decide (97≤c.toNat)<;>rfl
theorem Qao8(c:UInt8):Qpa (c.toNat:Int)=some (letB c):=by
 have a:=geN c.toNat 97;have b:=leN c.toNat 122;have d:=eqN c.toNat 95;rw[Qpa,Qaq4];rw[show(97:Int)=((97:Nat):Int) from rfl,show(122:Int)=((122:Nat):Int) from rfl,show(95:Int)=((95:Nat):Int) from rfl,a,b,d,letB,Qyu];simp only[Qac];cases decide (97≤c.toNat)<;>cases decide (c.toNat≤122)<;>cases digB c<;>cases (c.toNat==95)<;>rfl
theorem Qaq6(s:List UInt8)(hs:s.length<9223372036854775807):∀ k,k≤s.length→Qh7 s k=some (if(s.drop k).all letB then .inl () else .inr ()):=by
 refine upto ?_ fun k hk ih=>?_
 ·rw[Qh7]; simp
 ·rw[Qh7,Qa3 (by omega),ih];simp only[ltI,hk,decide_true,if_true,Qa1,getE hk,Qac,Qao8];rw[Qcc hk,List.all_cons];cases letB s[k]<;>rfl
theorem Qaq7(s:List UInt8)(hs:s.length<9223372036854775807):Qp5 s=some (Qom s):=by
 have h:=Qaq6 s hs 0 (by omega);rw[Qp5,show(0:Int)=((0:Nat):Int) from rfl,h,List.drop_zero,Qom];have e:=leN s.length 32;rw[show(32:Int)=((32:Nat):Int) from rfl,e];cases ha:s.all letB with
 | false=>cases (s==[])<;>cases decide (s.length≤32)<;>cases Qao7 s<;>rfl
 | true =>
  cases s with
  | nil=>rfl
  | cons c r =>
   have g:=geN c.toNat 97;rw[show(97:Int)=((97:Nat):Int) from rfl];simp only[if_true,Qac,Qa1,List.getElem?_cons_zero,g,Q5x];have e0:((c::r)==([]:List UInt8))=false:=rfl;rw[e0];cases decide ((c::r).length≤32)<;>simp
theorem Qam9{c:UInt8}(h:letB c=true):Qyu c=decide (97≤c.toNat):=by
 unfold letB Qyu digB at *;by_cases h1:97≤c.toNat
 ·rw[decide_eq_true h1] at h ⊢;simp at h ⊢;omega
 ·rw[decide_eq_false h1]; rfl
theorem Qaq8(s:List UInt8)(hs:s.length<9223372036854775807):∀ k,k≤s.length→Qef s k=some (if(s.drop k).all letB then .inl () else .inr ()):=by
 refine upto ?_ fun k hk ih=>?_
 ·rw[Qef]; simp
 ·have d:=eqN s[k].toNat 95;rw[Qef,Qa3 (by omega),ih];simp only[ltI,hk,decide_true,if_true,Qa1,getE hk,Qac,Qan3,Qaq5];rw[Qcc hk,List.all_cons,letB];have e:(((s[k].toNat:Nat):Int) != 95) = !(s[k].toNat==95):=by rw[← d]; rfl
  rw[e];cases Qyu s[k]<;>cases digB s[k]<;>cases (s[k].toNat==95)<;>rfl
theorem Qaq9(s:List UInt8)(hs:s.length<9223372036854775807):Qhw s=some (Qom s):=by
 have h:=Qaq8 s hs 0 (by omega);rw[Qhw,show(0:Int)=((0:Nat):Int) from rfl,h,List.drop_zero,Qom];cases s with
 | nil=>rfl
 | cons c r =>
  have e1:decide ((((c::r).length:Nat):Int)<1)=false:=decide_eq_false (by simp; omega);have e2:decide ((((c::r).length:Nat):Int)>32) = !(decide ((c::r).length≤32)):=by
   by_cases h:(c::r).length≤32
   ·rw[decide_eq_true h,decide_eq_false (by omega)]; rfl
   ·rw[decide_eq_false h,decide_eq_true (by omega)]; rfl
  simp only[e1,e2,Bool.false_eq_true,if_false,Qa1,List.getElem?_cons_zero,Qac,Qan3,Q5x];have e0:((c::r)==([]:List UInt8))=false:=rfl;rw[e0];cases ha:(c::r).all letB with
  | true =>
   have hl:letB c=true:=by rw[List.all_cons,Bool.and_eq_true] at ha; exact ha.1
   rw[Qam9 hl];cases decide ((c::r).length≤32)<;>cases decide (97≤c.toNat)<;>rfl
  | false=>cases decide ((c::r).length≤32)<;>cases decide (97≤c.toNat)<;>cases Qyu c<;>rfl
theorem Qao9(a b:List UInt8):s2b (a++b)=s2b a++s2b b:=by simp[s2b]
theorem Q2g(a:List UInt8):(s2b a).length=a.length:=by simp[s2b]
theorem Qapa(l:List UInt8):b2s (s2b l)=some l:=by
 unfold b2s s2b;rw[if_pos]
 ·rw[List.map_map];congr 1;have:∀ c:UInt8,((fun n:Int=>UInt8.ofNat n.toNat) ∘ fun c:UInt8=>(c.toNat:Int)) c=c:=fun c=>by simp
  rw[show((fun n:Int=>UInt8.ofNat n.toNat) ∘ fun c:UInt8=>(c.toNat:Int))=id from funext this,List.map_id]
 ·rw[List.all_eq_true];intro n hn;obtain⟨c,-,rfl⟩:=List.mem_map.1 hn;have:=c.toNat_lt;simp only[decide_eq_true_eq];omega
def kws:List (List UInt8):=[[105,102],[101,108,115,101],[101,110,100],[101,97,99,104],[105,110],[108,101,116],[117,115,101],[116,114,117,101],[102,97,108,115,101],[115,101,99,114,101,116]]
def Qhn(s:List UInt8):Bool := !(kws.any (· == s))&&Qom s
theorem Qapb(s:List UInt8)(hs:s.length<9223372036854775807):Qi8 s=some (Qhn s):=by
 have c:∀ a:List UInt8,(a==s)=(s==a):=fun a=>by rw[Bool.beq_comm]
 rw[Qi8,Qaq7 s hs,Qhn];simp only[kws,List.any_cons,List.any_nil,c];generalize (s==[105,102])=a1;generalize (s==[101,108,115,101])=a2;generalize (s==[101,110,100])=a3;generalize (s==[101,97,99,104])=a4;generalize (s==[105,110])=a5;generalize (s==[108,101,116])=a6;generalize (s==[117,115,101])=a7;generalize (s==[116,114,117,101])=a8;generalize (s==[102,97,108,115,101])=a9;generalize (s==[115,101,99,114,101,116])=a10;generalize Qom s=b;cases a1
 ·cases a2
  ·cases a3
   ·cases a4
    ·cases a5
     ·cases a6
      ·cases a7
       ·cases a8
        ·cases a9
         ·cases a10<;>cases b<;>rfl
         ·rfl
        ·rfl
       ·rfl
      ·rfl
     ·rfl
    ·rfl
   ·rfl
  ·rfl
 ·rfl
theorem Qara(s:List UInt8)(l:List (List UInt8))(hl:l.length<9223372036854775807):∀ k,k≤l.length→Qdx s l k=some (if(l.drop k).any (· == s) then .inr () else .inl ()):=by
 refine upto ?_ fun k hk ih=>?_
 ·rw[Qdx]; simp
 ·rw[Qdx,Qa3 (by omega),ih];simp only[ltI,hk,decide_true,if_true,Qa1,getE hk,Qac];rw[Qcc hk,List.any_cons];cases (l[k]==s)<;>rfl
theorem Qapc(s:List UInt8)(hs:s.length<9223372036854775807):Qg6 s=some (Qhn s):=by
 have h:=Qara s kws (by decide) 0 (by omega);rw[Qg6,Qsr];simp only[Qac,Qaq9 s hs];rw[show(0:Int)=((0:Nat):Int) from rfl];show(Qdx s kws _>>=_)=_;rw[h,List.drop_zero,Qhn];cases kws.any (· == s)<;>rfl
theorem Q81{s:List UInt8}(h:Qom s=true):(s==[])=false:=by
 unfold Qom at h;cases hs:(s==[]) with
 | false=>rfl
 | true=>rw[hs] at h; cases h
theorem Q2h{s:List UInt8}(h:Qhn s=true):Qom s=true:=by
 unfold Qhn at h;cases hw:Qom s with
 | true=>rfl
 | false=>rw[hw] at h; simp at h
def hasB:List UInt8→Bool
 | []=>false
 | c::r=>(c==123&&r.head? == some 123)||hasB r
theorem pre2(l:List UInt8):([123,123]:List UInt8).isPrefixOf l=(match l with | []=>false | c::r=>c==123&&r.head? == some 123):=by
 match l with
 | []=>rfl
 | [c]=>simp[List.isPrefixOf]
 | c::d::r =>
  simp only[List.isPrefixOf,List.head?_cons];have e1:(123==c)=(c==123):=Bool.beq_comm;have e2:(123==d)=(d==123):=Bool.beq_comm;rw[e1,e2];cases (c==123)<;>cases hd:(d==123)<;>simp_all
theorem Qack:∀ l:List UInt8,decide (Lib.index l [123,123] ≥ 0)=hasB l
 | []=>rfl
 | c::r=>by
  have ih:=Qack r;have hg:=Lib.index_ge r [123,123];have hp2:([123,123]:List UInt8).isPrefixOf (c::r)=(c==123&&r.head? == some 123):=pre2 (c::r);unfold Lib.index;rw[hp2,hasB];generalize (c==123&&r.head? == some 123)=b;cases b with
  | true=>rfl
  | false =>
   simp only[Bool.false_or];by_cases h1:Lib.index r [123,123] = -1
   ·rw[h1] at ih ⊢;rw[← ih]; rfl
   ·rw[if_neg (by decide),if_neg (by simpa using h1),← ih,decide_eq_true (by omega),decide_eq_true (by omega)]
theorem tHas(s:List UInt8)(hs:s.length<4294967281):Qfr s [123,123]=some (hasB s):=by
 rw[Qfr,Ql7,Qcw,Qru hs];simp only[Qac,Qack]
theorem Qapd(s:List UInt8)(k:Nat)(hk:k<s.length)(hs:s.length<4294967281):Qeu s [123,123] k=some (match s.drop k with | []=>false | c::r=>c==123&&r.head? == some 123):=by
 have e1:decide ((k:Int) ≥ 0)=true:=decide_eq_true (by omega);have e2:decide ((k:Int)≤(s.length:Int))=true:=decide_eq_true (by omega);have e3:wr ((s.length:Int)-k)=((s.length-k:Nat):Int):=by rw[Qg1 (by omega) (by omega)]; omega
 have e4:wr ((k:Int)+(([123,123]:List UInt8).length:Int))=((k+2:Nat):Int):=by rw[Qg1 (by simp; omega) (by simp; omega)]; simp
 rw[Qeu,e1,e2,e3,e4];simp only[if_true];by_cases h2:2≤s.length-k
 ·have e5:decide (((([123,123]:List UInt8).length:Nat):Int)≤((s.length-k:Nat):Int))=true:=decide_eq_true (by simp; omega);rw[e5,Qmq (by omega) (by omega) (by omega)];simp only[if_true,Qac];have hk1:k+1<s.length:=by omega
  have e6:(s.take (k+2)).drop k=[s[k],s[k+1]]:=by
   apply List.ext_getElem
   ·simp; omega
   ·intro i h1 h2;simp at h1 h2
    match i,h2 with
    | 0,_=>simp
    | 1,_=>simp
  rw[Int.toNat_natCast,Int.toNat_natCast,e6,Qcc hk,Qcc hk1];simp only[List.head?_cons];have:(([s[k],s[k+1]]:List UInt8)==[123,123])=(s[k]==123&&(some s[k+1]==some 123)):=by
   have e:(some s[k+1]==some (123:UInt8))=(s[k+1]==123):=rfl;rw[e,List.cons_beq_cons,List.cons_beq_cons];show(s[k]==123&&(s[k+1]==123&&true))=_;rw[Bool.and_true]
  rw[this]
 ·have e5:decide (((([123,123]:List UInt8).length:Nat):Int)≤((s.length-k:Nat):Int))=false:=decide_eq_false (by simp; omega);rw[e5,Qcc hk];have:s.drop (k+1)=[]:=List.drop_eq_nil_of_le (by omega);rw[this];simp
theorem Qana(s:List UInt8)(hs:s.length<4294967281):∀ k,k≤s.length→Qe7 s [123,123] k=some (if hasB (s.drop k) then .inr () else .inl ()):=by
 refine upto ?_ fun k hk ih=>?_
 ·rw[Qe7]; simp[hasB]
 ·rw[Qe7,Qa3 (by omega),ih,Qapd s k hk hs];simp only[ltI,hk,decide_true,if_true,Qac];rw[Qcc hk,hasB];show(if(s[k]==123&&(s.drop (k+1)).head? == some 123)=true then _ else _)=_;generalize (s[k]==123&&(s.drop (k+1)).head? == some 123)=b;cases b<;>rfl
theorem Qape(s:List UInt8)(hs:s.length<4294967281):Qo6 s [123,123]=some (hasB s):=by
 have h:=Qana s hs 0 (by omega);rw[Qo6,show(0:Int)=((0:Nat):Int) from rfl,h,List.drop_zero];cases hasB s<;>rfl
def endB(s:List UInt8):Bool:=s.getLast? == some 123
theorem tEnd(s:List UInt8)(hs:s.length<4294967281):Qcm s [123]=some (endB s):=by
 rw[Qcm,Qb8,endB];cases hl:s.getLast? with
 | none =>
  have:s=[]:=List.getLast?_eq_none_iff.1 hl;subst this;rfl
 | some c =>
  have hne:s≠[]:=fun h=>by subst h; cases hl
  have hpos:0<s.length:=List.length_pos_iff.2 hne;have e1:decide ((s.length:Int) ≥ ((([123]:List UInt8).length:Nat):Int))=true:=decide_eq_true (by simp; omega);have e2:wr ((s.length:Int)-((([123]:List UInt8).length:Nat):Int))=((s.length-1:Nat):Int):=by rw[Qg1 (by simp; omega) (by simp; omega)]; simp; omega
  rw[e1,e2,Qmq (by omega) (by omega) (by omega)];simp only[if_true,Qac,Int.toNat_natCast,List.take_length];have e3:s.drop (s.length-1)=[c]:=by
   have h1:s.length-1<s.length:=by omega
   rw[Qcc h1,List.drop_eq_nil_of_le (by omega)];rw[List.getLast?_eq_getElem?,getE h1] at hl;cases hl; rfl
  rw[e3];simp
theorem rEnd(s:List UInt8)(hs:s.length<4294967281)(hne:(s==[])=false):(idx s (wr ((s.length:Int)-1))>>=fun x=>some ((x.toNat:Int)==123))=some (endB s):=by
 have hne:s≠[]:=fun h=>by subst h; cases hne
 have hpos:0<s.length:=List.length_pos_iff.2 hne;have e2:wr ((s.length:Int)-1)=((s.length-1:Nat):Int):=by rw[Qg1 (by omega) (by omega)]; omega
 have h1:s.length-1<s.length:=by omega
 rw[e2,Qa1,getE h1,Qac,endB,List.getLast?_eq_getElem?,getE h1];have d:=eqN s[s.length-1].toNat 123;rw[show(123:Int)=((123:Nat):Int) from rfl,d];congr 1;by_cases h:s[s.length-1]=123
 ·rw[h]; rfl
 ·have:s[s.length-1].toNat≠123:=fun e=>h (UInt8.toNat_inj.1 (by rw[e]; rfl))
  rw[beq_eq_false_iff_ne.2 this]
  symm
  rw[beq_eq_false_iff_ne];intro e; exact h (Option.some.inj e)
mutual
def allN(Q:Qab→Prop):Qab→Prop
 | ⟨k,s,t,n,a,b,c⟩=>Q ⟨k,s,t,n,a,b,c⟩∧allL Q a∧allL Q b∧allL Q c
def allL(Q:Qab→Prop):List Qab→Prop
 | []=>True
 | x::r=>allN Q x∧allL Q r
end
theorem Qon(Q:Qab→Prop)(x:Qab):allN Q x↔(Q x∧allL Q x.L∧allL Q x.Then∧allL Q x.Else):=by cases x; rw[allN]
theorem Qqb{Q:Qab→Prop}:∀ {l:List Qab} {x:Qab},x ∈ l→allL Q l→allN Q x
 | y::r,x,h,hs=>by
  rw[allL] at hs;rcases List.mem_cons.1 h with rfl | h
  ·exact hs.1
  ·exact Qqb h hs.2
theorem Qakx{R Q:Qab→Prop}(h:∀ x:Qab,x.Name.length≤40→x.Text.length≤60→R x→Q x):∀ n (l:List Qab),nns l≤n→sms l→allL R l→allL Q l:=by
 intro n
 induction n with
 | zero=>intro l hn _; cases l with
  | nil=>intro _; rw[allL]; trivial
  | cons x r=>have:=Qhl x; simp[nns] at hn; omega
 | succ n ih =>
  intro l
  induction l with
  | nil=>intro _ _ _; rw[allL]; trivial
  | cons x r ihr =>
   intro hn hs hr;rw[nns,Qhg] at hn;rw[sms,Qaq3] at hs;obtain⟨⟨h1,h2,h3,h4,h5⟩,h6⟩:=hs;rw[allL,Qon] at hr ⊢;obtain⟨⟨g1,g2,g3,g4⟩,g5⟩:=hr;exact⟨⟨h x h1 h2 g1,ih _ (by omega) h3 g2,ih _ (by omega) h4 g3,ih _ (by omega) h5 g4⟩,ihr (by omega) h6 g5⟩
structure okNd (x:Qab):Prop where
 nm:x.Name.length≤1000000
 tx:x.Text.length≤1000000
 rg : -9223372036854775808≤x.N∧x.N≤9223372036854775807
 qt:x.Kind=1→∃ q,Qk4 x.Text=some q∧Qm7 x.Text=some q
def Q5y (s:List UInt8):List UInt8×Bool:=(Qk4 s).getD ([],false)
def zl(l:List Qab):Bool:=l.length==0
mutual
def Q4k:Qab→Bool
 | ⟨k,s,t,n,a,b,c⟩ =>
  if k==1 then(Q5y t).2&&(s==[]&&(n==0&&(zl a&&(zl b&&zl c)))) else
  if k==2 then s==[]&&(t==[]&&(zl a&&(zl b&&zl c))) else
  if k==3 then(n==0||n==1)&&(s==[]&&(t==[]&&(zl a&&(zl b&&zl c)))) else
  if k==4 then Qhn s&&(t==[]&&(n==0&&(zl a&&(zl b&&zl c)))) else
  if k==5 then Qom s&&(a.length==1&&(Qdn a&&(t==[]&&(n==0&&(zl b&&zl c))))) else
  if k==6 then Qhn s&&(decide (a.length≤3)&&(Qdn a&&(t==[]&&(n==0&&(zl b&&zl c))))) else
  if k==7 then Qom s&&(t==[]&&(n==0&&(zl a&&(zl b&&zl c)))) else false
def Qdn:List Qab→Bool
 | []=>true
 | x::r=>Q4k x&&Qdn r
end
theorem Qw1(x:Qab):Q4k x =
  if x.Kind==1 then(Q5y x.Text).2&&(x.Name==[]&&(x.N==0&&(zl x.L&&(zl x.Then&&zl x.Else)))) else
  if x.Kind==2 then x.Name==[]&&(x.Text==[]&&(zl x.L&&(zl x.Then&&zl x.Else))) else
  if x.Kind==3 then(x.N==0||x.N==1)&&(x.Name==[]&&(x.Text==[]&&(zl x.L&&(zl x.Then&&zl x.Else)))) else
  if x.Kind==4 then Qhn x.Name&&(x.Text==[]&&(x.N==0&&(zl x.L&&(zl x.Then&&zl x.Else)))) else
  if x.Kind==5 then Qom x.Name&&(x.L.length==1&&(Qdn x.L&&(x.Text==[]&&(x.N==0&&(zl x.Then&&zl x.Else))))) else
  if x.Kind==6 then Qhn x.Name&&(decide (x.L.length≤3)&&(Qdn x.L&&(x.Text==[]&&(x.N==0&&(zl x.Then&&zl x.Else))))) else
  if x.Kind==7 then Qom x.Name&&(x.Text==[]&&(x.N==0&&(zl x.L&&(zl x.Then&&zl x.Else)))) else false:=by cases x; rw[Q4k]
theorem zI(l:List Qab):((l.length:Int)==0)=zl l:=eqN l.length 0
theorem gI(l:List Qab):decide ((l.length:Int)>0) = !zl l:=by
 unfold zl;by_cases h:l.length=0
 ·rw[h]; rfl
 ·rw[beq_eq_false_iff_ne.2 h,decide_eq_true (by omega)]; rfl
theorem oneI(l:List Qab):((l.length:Int)==1)=(l.length==1):=eqN l.length 1
theorem low1(a:BitVec 64):a &&& ~~~1#64=0#64↔(a=0#64∨a=1#64):=by
 constructor
 ·intro h;have hb:∀ i,0<i→a.getLsbD i=false:=fun i hi=>by
   have:=congrArg (fun x:BitVec 64=>x.getLsbD i) h;simp only[BitVec.getLsbD_and,BitVec.getLsbD_not,BitVec.getLsbD_zero] at this;by_cases h64:i<64
   ·have h1:(1#64).getLsbD i=false:=by simp[BitVec.getLsbD_one]; omega
    rw[h1] at this;simpa [h64] using this
   ·exact BitVec.getLsbD_of_ge a i (by omega)
  cases h0:a.getLsbD 0 with
  | false =>
   left;apply BitVec.eq_of_getLsbD_eq;intro i _;by_cases hi:i=0
   ·subst hi; rw[h0]; simp
   ·rw[hb i (by omega)]; simp
  | true =>
   right;apply BitVec.eq_of_getLsbD_eq;intro i _;by_cases hi:i=0
   ·subst hi; rw[h0]; simp
   ·rw[hb i (by omega)]; simp[BitVec.getLsbD_one]; omega
 ·rintro (h | h)<;>subst h<;>decide
theorem ofI{n:Int}(h1 : -9223372036854775808≤n)(h2:n≤9223372036854775807)(m:Int)(h3:0≤m)(h4:m≤1):BitVec.ofInt 64 n=BitVec.ofInt 64 m↔n=m:=by
 constructor
 ·intro h;have:=congrArg BitVec.toInt h;rw[BitVec.toInt_ofInt,BitVec.toInt_ofInt,Int.bmod_def,Int.bmod_def] at this;simp only[show(((2:Nat) ^ 64:Nat):Int)=18446744073709551616 from rfl] at this;split at this<;>split at this<;>omega
 ·intro h; rw[h]
theorem Qasx(m:Nat)(h:m<18446744073709551616):(IntKind.i64.wrap (m:Int)=0)↔m=0:=by
 rw[IntKind.wrap_i64];omega
theorem Qarb(n:Int)(h1 : -9223372036854775808≤n)(h2:n≤9223372036854775807):((bits .andNot .i64 n 1)==0)=(n==0||n==1):=by
 have hw:=Qasx (BitVec.ofInt 64 n &&& ~~~(BitVec.ofInt 64 1)).toNat (BitVec.isLt _);have e:bits .andNot .i64 n 1=IntKind.i64.wrap ((BitVec.ofInt 64 n &&& ~~~(BitVec.ofInt 64 1)).toNat:Int):=rfl;have e2:(BitVec.ofInt 64 n &&& ~~~(BitVec.ofInt 64 1)).toNat=0↔(n=0∨n=1):=by
  have z:(BitVec.ofInt 64 n &&& ~~~(BitVec.ofInt 64 1)).toNat=0↔BitVec.ofInt 64 n &&& ~~~1#64=0#64:=by
   constructor
   ·intro h; exact BitVec.eq_of_toNat_eq h
   ·intro h; exact congrArg BitVec.toNat h
  rw[z,low1];have a0:=ofI h1 h2 0 (by omega) (by omega);have a1:=ofI h1 h2 1 (by omega) (by omega);rw[← a0,← a1];exact Iff.rfl
 rw[e2] at hw;rw[e];by_cases h:n=0∨n=1
 ·rw[hw.2 h];rcases h with h | h<;>subst h<;>rfl
 ·have:¬ IntKind.i64.wrap ((BitVec.ofInt 64 n &&& ~~~(BitVec.ofInt 64 1)).toNat:Int)=0:=fun k=>h (hw.1 k)
  rw[beq_eq_false_iff_ne.2 this];simp only[not_or] at h;rw[beq_eq_false_iff_ne.2 h.1,beq_eq_false_iff_ne.2 h.2];rfl
section
variable (n:Nat) (ih:∀ x:Qab,nn x≤n→allN okNd x→Qfs x=some (Q4k x))
include ih
theorem Qarc(l:List Qab)(h:nns l≤n)(ho:allL okNd l)(hl:l.length<9223372036854775807):∀ k,k≤l.length→∃ r,Qau l k=some r ∧
  (match r with | .inl _=>Qdn (l.drop k)=true | .inr v=>0≤v∧Qdn (l.drop k)=false):=by
 refine upto ?_ fun k hk ihk=>?_
 ·rw[Qau];refine⟨.inl (),by simp,?_⟩;simp[Qdn]
 ·have hx:=Qek (List.getElem_mem hk);rw[Qau,Qa3 (by omega)];simp only[ltI,hk,decide_true,if_true,Qa1,getE hk,Qac,Qvm,ih l[k] (by omega) (Qqb (List.getElem_mem hk) ho)];rw[Qcc hk];simp only[Qdn];cases he:Q4k l[k] with
  | true =>
   obtain⟨r,h1,h2⟩:=ihk;refine⟨r,by simpa using h1,?_⟩;simpa using h2
  | false=>exact⟨.inr k,by simp,by omega,rfl⟩
end
theorem Qasy:∀ n (x:Qab),n<1000000000→nn x≤n→allN okNd x→Qfs x=some (Q4k x):=by
 intro n
 induction n with
 | zero=>intro x _ h; have:=Qhl x; omega
 | succ n ih =>
  intro x hb h ho;rw[Qhg] at h;obtain⟨hq,ho1,-,-⟩:=(Qon okNd x).1 ho;have hnm:=hq.nm;rw[Qfs,Qip,Qw1,Qapb x.Name (by omega),Qaq7 x.Name (by omega)];simp only[Qac,gI,Qarb _ hq.rg.1 hq.rg.2];have e2:(x.N != 0) = !(x.N==0):=rfl;have e3:((x.L.length:Int)==0)=zl x.L:=zI x.L;have e4:((x.L.length:Int)==1)=(x.L.length==1):=oneI x.L;simp only[e2,e3,e4];by_cases k1:x.Kind=1
  ·obtain⟨q,q1,q2⟩:=hq.qt k1;simp only[k1,beq_self_eq_true,if_true,q1,Qac,Q5y,Option.getD_some];generalize (x.Name==[])=a1;generalize (x.Text==[])=a2;generalize (x.N==0)=a3;generalize zl x.L=a4;generalize zl x.Then=a5;generalize zl x.Else=a6;cases q.2<;>cases a1<;>cases a2<;>cases a3<;>cases a4<;>cases a5<;>cases a6<;>rfl
  by_cases k2:x.Kind=2
  ·simp only[k2,beq_self_eq_true,if_true,show((2:Int)==1)=false from rfl,Bool.false_eq_true,if_false];generalize (x.Name==[])=a1;generalize (x.Text==[])=a2;generalize (x.N==0)=a3;generalize zl x.L=a4;generalize zl x.Then=a5;generalize zl x.Else=a6;cases a1<;>cases a2<;>cases a3<;>cases a4<;>cases a5<;>cases a6<;>rfl
  by_cases k3:x.Kind=3
  ·simp only[k3,beq_self_eq_true,if_true,show((3:Int)==1)=false from rfl,show((3:Int)==2)=false from rfl,Bool.false_eq_true,if_false];generalize (x.N==0||x.N==1)=a0;generalize (x.Name==[])=a1;generalize (x.Text==[])=a2;generalize (x.N==0)=a3;generalize zl x.L=a4;generalize zl x.Then=a5;generalize zl x.Else=a6;cases a0<;>cases a1<;>cases a2<;>cases a3<;>cases a4<;>cases a5<;>cases a6<;>rfl
  have nw:Qhn x.Name=true→(x.Name==[])=false:=fun h=>Q81 (Q2h h)
  have ww:Qom x.Name=true→(x.Name==[])=false:=fun h=>Q81 h
  by_cases k4:x.Kind=4
  ·simp only[k4,beq_self_eq_true,if_true,show((4:Int)==1)=false from rfl,show((4:Int)==2)=false from rfl,show((4:Int)==3)=false from rfl,Bool.false_eq_true,if_false];cases hn:Qhn x.Name with
   | false=>rfl
   | true =>
    rw[nw hn];generalize (x.Text==[])=a2;generalize (x.N==0)=a3;generalize zl x.L=a4;generalize zl x.Then=a5;generalize zl x.Else=a6;cases a2<;>cases a3<;>cases a4<;>cases a5<;>cases a6<;>rfl
  by_cases k7:x.Kind=7
  ·simp only[k7,beq_self_eq_true,if_true,show((7:Int)==1)=false from rfl,show((7:Int)==2)=false from rfl,show((7:Int)==3)=false from rfl,show((7:Int)==4)=false from rfl,show((7:Int)==5)=false from rfl,show((7:Int)==6)=false from rfl,Bool.false_eq_true,if_false];cases hn:Qom x.Name with
   | false=>rfl
   | true =>
    rw[ww hn];generalize (x.Text==[])=a2;generalize (x.N==0)=a3;generalize zl x.L=a4;generalize zl x.Then=a5;generalize zl x.Else=a6;cases a2<;>cases a3<;>cases a4<;>cases a5<;>cases a6<;>rfl
  have b1:(x.Kind==1)=false:=beq_eq_false_iff_ne.2 k1;have b2:(x.Kind==2)=false:=beq_eq_false_iff_ne.2 k2;have b3:(x.Kind==3)=false:=beq_eq_false_iff_ne.2 k3;have b4:(x.Kind==4)=false:=beq_eq_false_iff_ne.2 k4;have b7:(x.Kind==7)=false:=beq_eq_false_iff_ne.2 k7;simp only[b1,b2,b3,b4,b7,Bool.false_eq_true,if_false];by_cases k5:x.Kind=5
  ·simp only[k5,beq_self_eq_true,if_true];cases hn:Qom x.Name with
   | false=>rfl
   | true =>
    rw[ww hn];cases hl:(x.L.length==1) with
    | false =>
     generalize (x.Text==[])=a2;generalize (x.N==0)=a3;generalize zl x.Then=a5;generalize zl x.Else=a6;cases a2<;>cases a3<;>cases a5<;>cases a6<;>rfl
    | true =>
     have hl1:x.L.length=1:=by simpa using hl
     obtain⟨y,hy⟩:=List.length_eq_one_iff.1 hl1;have hy1:nn y≤n:=by have:=Qek (show y ∈ x.L by rw[hy]; simp); omega
     have hy2:allN okNd y:=Qqb (show y ∈ x.L by rw[hy]; simp) ho1;rw[hy];simp only[Qao1,List.getElem?_cons_zero,Qac,ih y (by omega) hy1 hy2,Qdn,Bool.and_true];generalize (x.Text==[])=a2;generalize (x.N==0)=a3;generalize zl x.Then=a5;generalize zl x.Else=a6;generalize Q4k y=a7;cases a2<;>cases a3<;>cases a5<;>cases a6<;>cases a7<;>rfl
  by_cases k6:x.Kind=6
  ·simp only[k6,beq_self_eq_true,if_true,show((6:Int)==5)=false from rfl,Bool.false_eq_true,if_false];cases hn:Qhn x.Name with
   | false=>rfl
   | true =>
    rw[nw hn];have hmin:((x.L.length:Int)==(if 3<(x.L.length:Int) then 3 else(x.L.length:Int)))=decide (x.L.length≤3):=by
     by_cases h3:x.L.length≤3
     ·rw[if_neg (by omega),decide_eq_true h3]; simp
     ·rw[if_pos (by omega),decide_eq_false h3,beq_eq_false_iff_ne.2 (by omega)]
    rw[hmin];have hll:=Qfj x.L;obtain⟨r,hr,hp⟩:=Qarc n (fun y=>ih y (by omega)) x.L (by omega) ho1 (by omega) 0 (by omega);rw[Qa6,Qbl,show(0:Int)=((0:Nat):Int) from rfl,hr];rw[List.drop_zero] at hp;cases r with
    | inl u =>
     simp only at hp;rw[hp];generalize (x.Text==[])=a2;generalize (x.N==((0:Nat):Int))=a3;generalize zl x.Then=a5;generalize zl x.Else=a6;generalize decide (x.L.length≤3)=a7;cases a2<;>cases a3<;>cases a5<;>cases a6<;>cases a7<;>rfl
    | inr v =>
     simp only at hp;have hv:decide (v ≥ ((0:Nat):Int))=true:=decide_eq_true (by omega);simp only[hp.2,Qac,hv];generalize (x.Text==[])=a2;generalize (x.N==((0:Nat):Int))=a3;generalize zl x.Then=a5;generalize zl x.Else=a6;generalize decide (x.L.length≤3)=a7;cases a2<;>cases a3<;>cases a5<;>cases a6<;>cases a7<;>rfl
  have b5:(x.Kind==5)=false:=beq_eq_false_iff_ne.2 k5;have b6:(x.Kind==6)=false:=beq_eq_false_iff_ne.2 k6;simp only[b5,b6,Bool.false_eq_true,if_false]
def Qanb(x:Qab)(p1 p2 p3 p4 p5:Bool):Bool:=(p1||x.Name==[])&&((p2||x.Text==[])&&((p3||x.N==0)&&((p4||zl x.L)&&((p5||zl x.Then)&&(x.Kind==10||zl x.Else)))))
theorem Qard(x:Qab)(p1 p2 p3 p4 p5:Bool):Qea x p1 p2 p3 p4 p5=some (Qanb x p1 p2 p3 p4 p5):=by
 unfold Qea Qanb;simp only[zI];generalize (x.Name==[])=a1;generalize (x.Text==[])=a2;generalize (x.N==0)=a3;generalize zl x.L=a4;generalize zl x.Then=a5;generalize zl x.Else=a6;generalize (x.Kind==10)=a7;have e:∀ b:Bool,(if a7=true then some true else some b:Option Bool)=some (a7||b):=fun b=>by cases a7<;>rfl
 simp only[e];generalize (a7||a6)=a8;cases p1<;>cases p2<;>cases p3<;>cases p4<;>cases p5<;>cases a1<;>(try rfl)<;>cases a2<;>(try rfl)<;>cases a3<;>(try rfl)<;>cases a4<;>(try rfl)<;>cases a5<;>rfl
section
variable (n:Nat) (ih:∀ x:Qab,nn x≤n→allN okNd x→Qtn x=some (Q4k x))
include ih
theorem Qapf(l:List Qab)(h:nns l≤n)(ho:allL okNd l)(hl:l.length<9223372036854775807):∀ k,k≤l.length→Qio l k=some (if Qdn (l.drop k) then .inl () else .inr ()):=by
 refine upto ?_ fun k hk ihk=>?_
 ·rw[Qio]; simp[Qdn]
 ·have hx:=Qek (List.getElem_mem hk);rw[Qio,Qa3 (by omega),ihk];simp only[ltI,hk,decide_true,if_true,Qa1,getE hk,Qac,ih l[k] (by omega) (Qqb (List.getElem_mem hk) ho)];rw[Qcc hk,Qdn];cases Q4k l[k]<;>rfl
theorem Qan4(l:List Qab)(h:nns l≤n)(ho:allL okNd l)(hl:l.length<9223372036854775807):Qm9 l=some (Qdn l):=by
 have:=Qapf n ih l h ho hl 0 (by omega);rw[Qm9,show(0:Int)=((0:Nat):Int) from rfl,this,List.drop_zero];cases Qdn l<;>rfl
end
theorem Qasz:∀ n (x:Qab),n<1000000000→nn x≤n→allN okNd x→Qtn x=some (Q4k x):=by
 intro n
 induction n with
 | zero=>intro x _ h; have:=Qhl x; omega
 | succ n ih =>
  intro x hb h ho;rw[Qhg] at h;obtain⟨hq,ho1,-,-⟩:=(Qon okNd x).1 ho;have hnm:=hq.nm;have hll:=Qfj x.L;have hex:=Qan4 n (fun y=>ih y (by omega)) x.L (by omega) ho1 (by omega);have el:decide ((x.L.length:Int)≤3)=decide (x.L.length≤3):=leN x.L.length 3;rw[Qtn,Qw1,Qapc x.Name (by omega),Qaq9 x.Name (by omega),hex];simp only[Qac,Qard,Qanb,oneI,el];by_cases k1:x.Kind=1
  ·obtain⟨q,q1,q2⟩:=hq.qt k1;have e10:(x.Kind==10)=false:=beq_eq_false_iff_ne.2 (by omega);simp only[e10];simp only[k1,beq_self_eq_true,if_true,q2,q1,Qac,Q5y,Option.getD_some];generalize (x.Name==[])=a1;generalize (x.N==0)=a3;generalize zl x.L=a4;generalize zl x.Then=a5;generalize zl x.Else=a6;cases q.2<;>cases a1<;>cases a3<;>cases a4<;>cases a5<;>cases a6<;>rfl
  have b1:(x.Kind==1)=false:=beq_eq_false_iff_ne.2 k1;by_cases h10:x.Kind=10
  ·simp only[h10]; rfl
  have e10:(x.Kind==10)=false:=beq_eq_false_iff_ne.2 h10;simp only[e10,b1,Bool.false_eq_true,if_false,Bool.false_or,Bool.true_or,Bool.true_and];generalize (x.Kind==2)=k2;generalize (x.Kind==3)=k3;generalize (x.Kind==4)=k4;generalize (x.Kind==5)=k5;generalize (x.Kind==6)=k6;generalize (x.Kind==7)=k7;generalize (x.Name==[])=a1;generalize (x.Text==[])=a2;generalize (x.N==0)=a3;generalize (x.N==1)=a8;generalize zl x.L=a4;generalize zl x.Then=a5;generalize zl x.Else=a6;generalize Qhn x.Name=n1;generalize Qom x.Name=n2;generalize (x.L.length==1)=l1;generalize decide (x.L.length≤3)=l3;generalize Qdn x.L=ex;cases k2
  ·cases k3
   ·cases k4
    ·cases k5
     ·cases k6
      ·cases k7
       ·rfl
       ·cases n2<;>rfl
      ·cases n1<;>(try rfl)<;>cases l3<;>(try rfl)<;>cases ex<;>rfl
     ·cases n2<;>(try rfl)<;>cases l1<;>(try rfl)<;>cases ex<;>rfl
    ·cases n1<;>rfl
   ·cases a3<;>(try rfl)<;>cases a8<;>rfl
  ·rfl
def litB:List Qab→Bool
 | []=>false
 | x::_=>x.Kind==8
def Qah6(x:Qab)(r:List Qab)(inn:Bool):Bool:=x.Kind==8&&(litB r||((!r.isEmpty||inn)&&endB x.Text))
mutual
def Q4l:Qab→Bool
 | ⟨k,s,t,n,a,b,c⟩ =>
  if k==8 then !(t==[])&&(!(hasB t)&&(s==[]&&(n==0&&(zl a&&(zl b&&zl c))))) else
  if k==9 then(a.length==1&&Qdn a)&&(s==[]&&(t==[]&&(n==0&&(zl b&&zl c)))) else
  if k==10 then(a.length==1&&Qdn a)&&((Qbp b true&&Qbp c true)&&(s==[]&&(t==[]&&n==0))) else
  if k==11||k==12 then Qhn s&&((a.length==1&&Qdn a)&&(Qbp b true&&(t==[]&&(n==0&&zl c)))) else
  if k==13 then Qhn s&&((a.length==1&&Qdn a)&&(t==[]&&(n==0&&(zl b&&zl c)))) else false
def Qbp:List Qab→Bool→Bool
 | [],_=>true
 | x::r,inn=>Q4l x&&(!(Qah6 x r inn)&&Qbp r inn)
end
theorem Qqc(x:Qab):Q4l x =
  if x.Kind==8 then !(x.Text==[])&&(!(hasB x.Text)&&(x.Name==[]&&(x.N==0&&(zl x.L&&(zl x.Then&&zl x.Else))))) else
  if x.Kind==9 then(x.L.length==1&&Qdn x.L)&&(x.Name==[]&&(x.Text==[]&&(x.N==0&&(zl x.Then&&zl x.Else)))) else
  if x.Kind==10 then(x.L.length==1&&Qdn x.L)&&((Qbp x.Then true&&Qbp x.Else true)&&(x.Name==[]&&(x.Text==[]&&x.N==0))) else
  if x.Kind==11||x.Kind==12 then Qhn x.Name&&((x.L.length==1&&Qdn x.L)&&(Qbp x.Then true&&(x.Text==[]&&(x.N==0&&zl x.Else)))) else
  if x.Kind==13 then Qhn x.Name&&((x.L.length==1&&Qdn x.L)&&(x.Text==[]&&(x.N==0&&(zl x.Then&&zl x.Else)))) else false:=by cases x; rw[Q4l]
theorem Qw2{l:List Qab}(h:zl l=true):l=[]:=List.eq_nil_of_length_eq_zero (by simpa [zl] using h)
theorem Qacl(b:Bool):Qbp [] b=true:=by rw[Qbp]
theorem Qaky{x:Qab}(h:Q4l x=true)(hk:x.Kind=8):(x.Text==[])=false:=by
 rw[Qqc,hk] at h;simp only[beq_self_eq_true,if_true] at h;cases ht:(x.Text==[]) with
 | false=>rfl
 | true=>rw[ht] at h; cases h
theorem Qare(k n:Nat)(hk:k<n)(hn:n<9223372036854775807):((k:Int)==wr ((n:Int)-1))=(k+1==n):=by
 have e:wr ((n:Int)-1)=((n-1:Nat):Int):=by rw[Qg1 (by omega) (by omega)]; omega
 rw[e,eqN];by_cases h:k+1=n
 ·rw[beq_iff_eq.2 h,beq_iff_eq.2 (by omega)]
 ·rw[beq_eq_false_iff_ne.2 h,beq_eq_false_iff_ne.2 (by omega)]
theorem Qakz{l:List Qab}{k:Nat}(hk:k<l.length):(l.drop (k+1)).isEmpty=(k+1==l.length):=by
 by_cases h:k+1=l.length
 ·rw[List.drop_eq_nil_of_le (by omega),beq_iff_eq.2 h]; rfl
 ·rw[beq_eq_false_iff_ne.2 h,Qcc (by omega:k+1<l.length)]; rfl
end Go.Proofs.YtfgegilhjlnohaaGreat
end
