/- The proof's texts, part 10 of 13: the walks by a logic in which data are by value, the plain laws, and at the end the law, for every input. -/
import Derived.Test.YtfgegilhjlnohaaGreatMgSecrecyChecks9

noncomputable section
set_option linter.unusedVariables false
set_option linter.unusedSimpArgs false
set_option maxRecDepth 100000
set_option maxHeartbeats 4000000
namespace Go.Proofs.YtfgegilhjlnohaaGreat
open Go.RowKit
structure Qah where
 Name:(List UInt8)
 K:Int
 Secret:Bool
def Qam (x:Qah):List V:=[sV x.Name,iV x.K,bV x.Secret]
structure Qa6 where
 Where:(List UInt8)
 Bad:Bool
 Tells:Bool
structure Qag where
 name_:(List UInt8)
 it_:Bool
def Qap (x:Qag):List V:=[sV x.name_,bV x.it_]
structure Qak where
 Kind:Int
 Text:(List UInt8)
 N:Int
 From:Int
 To:Int
def Qai (x:Qak):List V:=[iV x.Kind,sV x.Text,iV x.N,iV x.From,iV x.To]
def Qzh (y:Int×Bool):D :=.tup [.p (iV y.1),.p (bV y.2)]
def Qll (y:(List Qak)×Int×Int):D :=.tup [.p (.sl false (y.1.map Qai)),.p (iV y.2.1),.p (iV y.2.2)]
def Qqs:List (Nat×List Nat):=[(0,[0]),(1,[0,12]),(2,[2,3,4]),(3,[0,5]),(4,[0,5,6]),(5,[0,5,6,17]),(6,[0,5,6,7]),(7,[0,5,6,7,23]),(8,[0,5,7]),(9,[0,5,7,37]),(10,[2,3,4]),(11,[0,5,7]),(12,[0,5,6]),(13,[0,5,6,52]),(14,[0,5,6]),(15,[0,5,6]),(16,[0,5,6,62]),(17,[2,3,4]),(18,[0,5,6,8,9]),(19,[0,5,6,8,71]),(20,[2,3,4]),(21,[0,5,8]),(22,[0,5,6,8]),(23,[0,5,6,81]),(24,[2,3,4]),(1000005,[0,5,6]),(1000015,[0,5,6]),(2007005,[]),(2013005,[])]
def Q2l (p0:(List UInt8)) (x4:Int) (o5:(List Qak)):St:=⟨[(0,.p (sV p0)),(5,.own 0 147 5 (o5.map Qai)),(7,.p (iV x4))],⟨[],[(o5.map Qai).length]⟩⟩
def Q2m (p0:(List UInt8)) (x8:(List Qak)) (o10:Int):St:=⟨[(0,.p (sV p0)),(5,.own 0 147 5 (x8.map Qai)),(6,.p (iV o10))],⟨[],[(x8.map Qai).length]⟩⟩
def Ql4 (p0:(List UInt8)) (v5_:(List Qak)) (v6_:Int):St:=⟨[(0,.p (sV p0)),(5,.own 0 147 5 (v5_.map Qai)),(6,.p (iV v6_))],⟨[],[(v5_.map Qai).length]⟩⟩
def Qri (p0:(List UInt8)) (y14:(List Qak)×Int):St:=⟨[(0,.p (sV p0)),(5,.own 0 147 5 (y14.1.map Qai)),(6,.p (iV y14.2))],⟨[],[(y14.1.map Qai).length]⟩⟩
def Qrj (p0:(List UInt8)) (y15:Int):St:=⟨[(2,.p (.sl true [])),(3,.p (iV y15)),(4,.p (iV 7))],⟨[],[]⟩⟩
def Q2n:Code:=((Qaz (Tryz.f115.body.getD .skip)).getD 1 .skip)
def Ql5 (p0:(List UInt8)) (v5:(List Qak)) (v6:Int):St:=⟨[(0,.p (sV p0)),(5,.own 0 147 5 (v5.map Qai)),(6,.p (iV v6))],⟨[],[(v5.map Qai).length]⟩⟩
def Qrk (p0:(List UInt8)) (y2:(List Qak)):St:=⟨[(5,.own 0 147 5 (y2.map Qai))],⟨[],[(y2.map Qai).length]⟩⟩
def Qrl (p0:(List UInt8)) (y3:(List Qak)×Int×Int):St:=⟨[(2,.p (.sl false (y3.1.map Qai))),(3,.p (iV y3.2.1)),(4,.p (iV y3.2.2))],⟨[],[]⟩⟩
def Q2o:Code:=((Qaz (Tryz.f115.body.getD .skip)).getD 0 .skip)
def Qwb (y:Bool):D :=.p (bV y)
def Qacf:List (Nat×List Nat):=[(0,[0]),(1,[2]),(3000001,[])]
def Q4q  (o1:Bool):St:=⟨[(2,.p (bV o1))],⟨[],[]⟩⟩
def Qn9 (y:Int):D :=.p (iV y)
def Qxf:List (Nat×List Nat):=[(0,[0,1]),(1,[0,1,14]),(2,[0,1]),(3,[4]),(1000001,[0,1]),(3000001,[])]
def Q2p (p0:(List UInt8)) (v1:Int) (o2:Bool):St:=⟨[(0,.p (sV p0)),(1,.p (iV v1)),(14,.p (bV o2))],⟨[],[]⟩⟩
def Ql6 (p0:(List UInt8)) (v1:Int):St:=⟨[(0,.p (sV p0)),(1,.p (iV v1))],⟨[],[]⟩⟩
def Qrm (p0:(List UInt8)) (o1:Int):St:=⟨[(1,.p (iV o1))],⟨[],[]⟩⟩
def Q2q:Code:=((Qaz (Tryz.f140.body.getD .skip)).getD 0 .skip)
def Qug (y:Int):D :=.p (iV y)
def Q2r:List (Nat×List Nat):=[(0,[0,1,2]),(1,[0,1,2,17]),(2,[0,1,2]),(3,[6]),(1000001,[0,1,2]),(3000001,[])]
def Q85 (p0:(List UInt8)) (p1:(List UInt8)) (v2:Int) (o2:Bool):St:=⟨[(0,.p (sV p0)),(1,.p (sV p1)),(2,.p (iV v2)),(17,.p (bV o2))],⟨[],[]⟩⟩
def Qoz (p0:(List UInt8)) (p1:(List UInt8)) (v2:Int):St:=⟨[(0,.p (sV p0)),(1,.p (sV p1)),(2,.p (iV v2))],⟨[],[]⟩⟩
def Qvq (p0:(List UInt8)) (p1:(List UInt8)) (o1:Int):St:=⟨[(2,.p (iV o1))],⟨[],[]⟩⟩
def Q86:Code:=((Qaz (Tryz.f139.body.getD .skip)).getD 0 .skip)
def Qlm (y:Qak×Bool):D :=.tup [.p (.agg [iV y.1.Kind,sV y.1.Text,iV y.1.N,iV y.1.From,iV y.1.To]),.p (bV y.2)]
def Quh:List (Nat×List Nat):=[(0,[0,1,4]),(1,[0,1,4,6]),(2,[0,1,4,6,7]),(3,[0,1,4,6,7,24]),(4,[1,4,6]),(5,[4,6]),(6,[4,5]),(7,[0,1,4,6,7,8]),(8,[0,1,4,6,7,8,9]),(9,[0,1,4,6,7,8,9,33]),(10,[0,1,4,6,7,8,9]),(11,[0,1,4,6,7,8,9,40]),(12,[4,6]),(13,[4,5]),(14,[0,1,4,6,7,48]),(15,[1,4,10,11]),(16,[4,5]),(17,[0,1,4,6,7,12]),(18,[0,1,4,6,7,12,64]),(19,[0,1,4,12,86]),(20,[0,1,4,12]),(21,[4,5]),(22,[0,1,4,6,12,106]),(23,[0,1,4,12,116]),(24,[0,1,4,12]),(25,[1,4,12,13,14]),(26,[4,5]),(27,[4,5]),(1000009,[0,1,4,6,7,8,9]),(1000019,[0,1,4,12]),(1000023,[0,1,4,12]),(3000019,[]),(3000022,[]),(3000023,[])]
def Qqt (p0:(List UInt8)) (p1:Int) (x1:UInt8) (v9:Int):St:=⟨[(0,.p (sV p0)),(1,.p (iV p1)),(4,.ptr 0 0),(6,.ptr 1 0),(7,.p (nV .u8 (x1.toNat:Int))),(8,.p (sV [46,40,41,44,61])),(9,.p (iV v9))],⟨[[.p (iV 0),.p (sV []),.p (iV 0),.p (iV 0),.p (iV 0)],[.p (iV 0),.p (sV []),.p (iV 0),.p (iV p1),.p (iV (wr (p1+1)))]],[]⟩⟩
def Qxg (p0:(List UInt8)) (p1:Int) (x1:UInt8) (y4:Unit):St:=⟨[(0,.p (sV p0)),(1,.p (iV p1)),(4,.ptr 0 0),(6,.ptr 1 0),(7,.p (nV .u8 (x1.toNat:Int)))],⟨[[.p (iV 0),.p (sV []),.p (iV 0),.p (iV 0),.p (iV 0)],[.p (iV 0),.p (sV []),.p (iV 0),.p (iV p1),.p (iV (wr (p1+1)))]],[]⟩⟩
def Qxh (p0:(List UInt8)) (p1:Int) (x1:UInt8) (y5:Int×Int):St:=⟨[(4,.ptr 0 0),(5,.p (bV true))],⟨[[.p (iV y5.1),.p (sV []),.p (iV 0),.p (iV p1),.p (iV (wr (p1+1)))],[.p (iV y5.2),.p (sV []),.p (iV 0),.p (iV p1),.p (iV (wr (p1+1)))]],[]⟩⟩
def Qacg:Code:=((Qaz (Tryz.f142.body.getD .skip)).getD 0 .skip)
def Qach (p0:(List UInt8)) (p1:Int) (v12:Int) (o11:Bool):St:=⟨[(0,.p (sV p0)),(1,.p (iV p1)),(4,.ptr 0 0),(12,.p (iV v12)),(86,.p (bV o11))],⟨[[.p (iV 0),.p (sV []),.p (iV 0),.p (iV 0),.p (iV 0)],[.p (iV 0),.p (sV []),.p (iV 0),.p (iV p1),.p (iV (wr (p1+1)))]],[]⟩⟩
def Qqu (p0:(List UInt8)) (p1:Int) (v12:Int):St:=⟨[(0,.p (sV p0)),(1,.p (iV p1)),(4,.ptr 0 0),(12,.p (iV v12))],⟨[[.p (iV 0),.p (sV []),.p (iV 0),.p (iV 0),.p (iV 0)],[.p (iV 0),.p (sV []),.p (iV 0),.p (iV p1),.p (iV (wr (p1+1)))]],[]⟩⟩
def Qxi (p0:(List UInt8)) (p1:Int) (o10:Int):St:=⟨[(0,.p (sV p0)),(1,.p (iV p1)),(4,.ptr 0 0),(12,.p (iV o10))],⟨[[.p (iV 0),.p (sV []),.p (iV 0),.p (iV 0),.p (iV 0)],[.p (iV 0),.p (sV []),.p (iV 0),.p (iV p1),.p (iV (wr (p1+1)))]],[]⟩⟩
def Qaci:Code:=((Qaz (Tryz.f142.body.getD .skip)).getD 1 .skip)
def Qacj (p0:(List UInt8)) (p1:Int) (o20:Bool):St:=⟨[(0,.p (sV p0)),(1,.p (iV p1)),(4,.ptr 0 0),(6,.ptr 1 0),(12,.p (iV (wr (p1+1)))),(106,.p (bV o20))],⟨[[.p (iV 0),.p (sV []),.p (iV 0),.p (iV 0),.p (iV 0)],[.p (iV 0),.p (sV []),.p (iV 0),.p (iV p1),.p (iV (wr (p1+1)))]],[]⟩⟩
def Qack (p0:(List UInt8)) (p1:Int) (v12:Int) (o23:Bool):St:=⟨[(0,.p (sV p0)),(1,.p (iV p1)),(4,.ptr 0 0),(12,.p (iV v12)),(116,.p (bV o23))],⟨[[.p (iV 0),.p (sV []),.p (iV 0),.p (iV 0),.p (iV 0)],[.p (iV 0),.p (sV []),.p (iV 0),.p (iV p1),.p (iV (wr (p1+1)))]],[]⟩⟩
def Qqv (p0:(List UInt8)) (p1:Int) (v12:Int):St:=⟨[(0,.p (sV p0)),(1,.p (iV p1)),(4,.ptr 0 0),(12,.p (iV v12))],⟨[[.p (iV 0),.p (sV []),.p (iV 0),.p (iV 0),.p (iV 0)],[.p (iV 0),.p (sV []),.p (iV 0),.p (iV p1),.p (iV (wr (p1+1)))]],[]⟩⟩
def Qxj (p0:(List UInt8)) (p1:Int) (o22:Int):St:=⟨[(0,.p (sV p0)),(1,.p (iV p1)),(4,.ptr 0 0),(12,.p (iV o22))],⟨[[.p (iV 0),.p (sV []),.p (iV 0),.p (iV 0),.p (iV 0)],[.p (iV 0),.p (sV []),.p (iV 0),.p (iV p1),.p (iV (wr (p1+1)))]],[]⟩⟩
def Qacl:Code:=((Qaz (Tryz.f142.body.getD .skip)).getD 2 .skip)
def Qoa (y:(List UInt8)×Int):D :=.tup [.p (sV y.1),.p (iV y.2)]
def Qxk:List (Nat×List Nat):=[(0,[0,1]),(1,[0,1,6]),(2,[0,1,6]),(3,[0,1,6,15]),(4,[0,1,6,19]),(5,[4,5]),(6,[0,1,6,26]),(7,[0,1,6,31]),(8,[4,5]),(9,[0,1,6,7]),(10,[0,1,6,7,37]),(11,[0,1,6]),(12,[0,1,6,7,41]),(13,[0,1,6]),(14,[0,1,6,49]),(15,[0,1,6]),(16,[4,5]),(17,[0,1,6]),(18,[0,1,6,8,9]),(19,[0,1,6,9,79]),(20,[4,5]),(21,[0,1,6,9]),(22,[0,1,6]),(23,[4,5]),(1000003,[0,1,6]),(3000009,[]),(3000014,[]),(3000019,[])]
def Q2s (p0:(List UInt8)) (v1:Int) (v6:(List UInt8)) (o6:Int):St:=⟨[(0,.p (sV p0)),(1,.p (iV v1)),(6,.p (sV v6)),(7,.p (nV .u8 o6))],⟨[],[]⟩⟩
def Q2t (p0:(List UInt8)) (v1:Int) (v6:(List UInt8)) (o8:Bool):St:=⟨[(0,.p (sV p0)),(1,.p (iV v1)),(6,.p (sV v6)),(49,.p (bV o8))],⟨[],[]⟩⟩
def Q2u (p0:(List UInt8)) (v1:Int) (v6:(List UInt8)) (x10:Int×Int) (o11:Bool):St:=⟨[(0,.p (sV p0)),(1,.p (iV v1)),(6,.p (sV v6)),(9,.p (iV x10.2)),(79,.p (bV o11))],⟨[],[]⟩⟩
def Qeg (p0:(List UInt8)) (v1:Int) (v6:(List UInt8)):St:=⟨[(0,.p (sV p0)),(1,.p (iV v1)),(6,.p (sV v6))],⟨[],[]⟩⟩
def Qrn (p0:(List UInt8)) (y2:Unit):St:=⟨[],⟨[],[]⟩⟩
def Qro (p0:(List UInt8)) (y3:(List UInt8)×Int):St:=⟨[(4,.p (sV y3.1)),(5,.p (iV y3.2))],⟨[],[]⟩⟩
def Q2v:Code:=((Qaz (Tryz.f159.body.getD .skip)).getD 0 .skip)
def Qg3 (y:(List Qab)×Int×Int):D :=.tup [.p (.sl false (y.1.map Qaa)),.p (iV y.2.1),.p (iV y.2.2)]
def Qacm:List (Nat×List Nat):=[(0,[0]),(1,[0,5,6,7]),(2,[0,5,6,7,17]),(3,[2,3,4]),(4,[0,5,8]),(5,[0,5,8,9]),(6,[0,5,8,9,28]),(7,[0,5,8,35]),(8,[2,3,4]),(9,[2,3,4]),(10,[9,48]),(11,[2,3,4]),(12,[9,51]),(13,[2,3,4]),(14,[2,3,4])]
def Qob (y:Bool):D :=.p (bV y)
def Qwc:List (Nat×List Nat):=[(0,[0,1]),(1,[4]),(3000001,[])]
def Qth (h0_0:(List Qak)) (h0_1:Int) (h0_2:Bool) (o1:Bool):St:=⟨[(4,.p (bV o1))],⟨[[.p (.sl false (h0_0.map Qai)),.p (iV h0_1),.p (bV h0_2)]],[]⟩⟩
def Qgd (y:(List Qab)×Int×Bool):D :=.p (.sl false (y.1.map Qaa))
def Qnn:List (Nat×List Nat):=[(0,[0,1,2]),(1,[0,1,2,7]),(2,[0,1,2,7,27]),(3,[0,1,2,7,29]),(4,[0,1,2,7,8]),(5,[0,1,2,7,8,9]),(6,[0,1,2,7,8,9,45]),(7,[0,1,2,7]),(8,[0,1,2,7]),(9,[0,1,2,7,73]),(10,[6]),(11,[0,1,2,7]),(12,[0,1,2,7,80]),(13,[0,1,2,7]),(14,[0,1,2,7]),(15,[6]),(1000002,[0,1,2,7]),(3000002,[]),(3000006,[]),(3000009,[]),(9000005,[1,0,0,0]),(9000006,[5,0,0,0,6,0,0,0,7,0,0,0]),(9000007,[4,0,0,0,5,0,0,0,6,0,0,0,9,0,0,0,10,0,0,0,11,1,7,0]),(9000008,[4,0,0,0]),(9000014,[4,0,0,0])]
def Qti (p1:Bool) (p2:Bool) (h0_0:(List Qak)) (v7:(List Qab)) (h0_1_:Int) (h0_2_:Bool) (o4:Bool):St:=⟨[(0,.ptr 0 0),(1,.p (bV p1)),(2,.p (bV p2)),(7,.x 0 1 (.sl 38 7 (v7.map Qaa))),(27,.p (bV o4))],⟨[[.p (.sl false (h0_0.map Qai)),.p (iV h0_1_),.p (bV h0_2_)]],[1]⟩⟩
def Qtj (p1:Bool) (p2:Bool) (h0_0:(List Qak)) (v7:(List Qab)) (x6:Qak×Int×Bool) (o7:Bool):St:=⟨[(0,.ptr 0 0),(1,.p (bV p1)),(2,.p (bV p2)),(7,.x 0 1 (.sl 38 7 (v7.map Qaa))),(8,.p (sV x6.1.Text)),(9,.p (iV (wr ((v7.length:Int)-1)))),(45,.p (bV o7))],⟨[[.p (.sl false (h0_0.map Qai)),.p (iV x6.2.1),.p (bV x6.2.2)]],[1]⟩⟩
def Qtk (p1:Bool) (p2:Bool) (h0_0:(List Qak)) (v7:(List Qab)) (h0_1_:Int) (h0_2_:Bool) (o12:Bool):St:=⟨[(0,.ptr 0 0),(1,.p (bV p1)),(2,.p (bV p2)),(7,.x 0 1 (.sl 38 7 (v7.map Qaa))),(73,.p (bV o12))],⟨[[.p (.sl false (h0_0.map Qai)),.p (iV h0_1_),.p (bV h0_2_)]],[1]⟩⟩
def Qcg (p1:Bool) (p2:Bool) (h0_0:(List Qak)) (v7:(List Qab)) (h0_1_:Int) (h0_2_:Bool):St:=⟨[(0,.ptr 0 0),(1,.p (bV p1)),(2,.p (bV p2)),(7,.x 0 1 (.sl 38 7 (v7.map Qaa)))],⟨[[.p (.sl false (h0_0.map Qai)),.p (iV h0_1_),.p (bV h0_2_)]],[1]⟩⟩
def Qj4 (p1:Bool) (p2:Bool) (h0_0:(List Qak)) (y2:(List Qab)×Int×Bool):St:=⟨[(7,.x 0 1 (.sl 38 7 (y2.1.map Qaa)))],⟨[[.p (.sl false (h0_0.map Qai)),.p (iV y2.2.1),.p (bV y2.2.2)]],[1]⟩⟩
def Qj5 (p1:Bool) (p2:Bool) (h0_0:(List Qak)) (y3:(List Qab)×Int×Bool):St:=⟨[(6,.x 0 1 (.sl 38 7 (y3.1.map Qaa)))],⟨[[.p (.sl false (h0_0.map Qai)),.p (iV y3.2.1),.p (bV y3.2.2)]],[1]⟩⟩
def Qtl:Code:=((Qaz (Tryz.f116.body.getD .skip)).getD 0 .skip)
def Qko (y:Qab×Int×Bool):D :=.p (.agg [iV y.1.Kind,sV y.1.Name,sV y.1.Text,iV y.1.N,.sl false (y.1.L.map Qaa),.sl false (y.1.Then.map Qaa),.sl false (y.1.Else.map Qaa)])
def Qoc:List (Nat×List Nat):=[(0,[0,2]),(1,[0,2,3]),(2,[0,2,3,7]),(3,[0,2,3]),(4,[0,2,3]),(5,[2]),(1000002,[0,2,3]),(5000004,[3,1005,1008]),(8000004,[2])]
def Qg4 (h0_0:(List Qak)) (h0_1_:Int) (h0_2_:Bool) (h2_0:Int) (h2_1:(List UInt8)) (h2_2:(List UInt8)) (h2_3:Int) (h2_4:(List Qab)) (h2_5:(List Qab)) (h2_6:(List Qab)):St:=⟨[(0,.ptr 0 0),(2,.ptr 1 0),(3,.ptr 2 0)],⟨[[.p (.sl false (h0_0.map Qai)),.p (iV h0_1_),.p (bV h0_2_)],[.p (iV 0),.p (sV []),.p (sV []),.p (iV 0),.p (.sl true []),.p (.sl true []),.p (.sl true [])],[.p (iV h2_0),.p (sV h2_1),.p (sV h2_2),.p (iV h2_3),.p (.sl false (h2_4.map Qaa)),.p (.sl false (h2_5.map Qaa)),.p (.sl false (h2_6.map Qaa))]],[]⟩⟩
def Qln (h0_0:(List Qak)) (o2:Int×Bool×Int×(List UInt8)×(List UInt8)×Int×(List Qab)×(List Qab)×(List Qab)):St:=⟨[(2,.ptr 1 0),(3,.ptr 2 0)],⟨[[.p (.sl false (h0_0.map Qai)),.p (iV o2.1),.p (bV o2.2.1)],[.p (iV 0),.p (sV []),.p (sV []),.p (iV 0),.p (.sl true []),.p (.sl true []),.p (.sl true [])],[.p (iV o2.2.2.1),.p (sV o2.2.2.2.1),.p (sV o2.2.2.2.2.1),.p (iV o2.2.2.2.2.2.1),.p (.sl false (o2.2.2.2.2.2.2.1.map Qaa)),.p (.sl false (o2.2.2.2.2.2.2.2.1.map Qaa)),.p (.sl false (o2.2.2.2.2.2.2.2.2.map Qaa))]],[]⟩⟩
def Quw:Code:=((Qaz (Tryz.f162.body.getD .skip)).getD 0 .skip)
def Qfq (y:Qab×Int×Bool):D :=.p (.agg [iV y.1.Kind,sV y.1.Name,sV y.1.Text,iV y.1.N,.sl false (y.1.L.map Qaa),.sl false (y.1.Then.map Qaa),.sl false (y.1.Else.map Qaa)])
def Qux:List (Nat×List Nat):=[(0,[0,2]),(1,[0,2,7]),(2,[0,2]),(3,[0,2,3]),(4,[0,2,3]),(5,[0,2,3]),(6,[0,2,3,20]),(7,[0,2,3]),(8,[0,2,3]),(9,[2,3]),(10,[2]),(11,[0,2,34]),(12,[0,2,4]),(13,[0,2,4,37]),(14,[0,2,4]),(15,[0,2,4]),(16,[0,2,4]),(17,[0,2,4,46]),(18,[0,2,4]),(19,[0,2,4]),(20,[0,2,4]),(21,[0,2,4]),(22,[0,2,4]),(23,[2,4]),(24,[2]),(25,[0,2,5]),(26,[0,2,5,69]),(27,[0,2,5]),(28,[0,2,5]),(29,[0,2,5]),(30,[0,2,5]),(31,[2,5]),(32,[2]),(2006007,[]),(2013005,[]),(2017005,[]),(2026009,[]),(3000011,[])]
def Qru (h0_0:(List Qak)) (x3:Qab×Int×Bool) (x5:(List Qab)×Int×Bool) (o6:Int×Bool×(List Qab)):St:=⟨[(0,.ptr 0 0),(2,.ptr 1 0),(3,.ptr 2 0)],⟨[[.p (.sl false (h0_0.map Qai)),.p (iV o6.1),.p (bV o6.2.1)],[.p (iV 0),.p (sV []),.p (sV []),.p (iV 0),.p (.sl true []),.p (.sl true []),.p (.sl true [])],[.p (iV 10),.p (sV []),.p (sV []),.p (iV 0),.p (.sl true ([x3.1].map Qaa)),.p (.sl false (x5.1.map Qaa)),.p (.sl false (o6.2.2.map Qaa))]],[]⟩⟩
def Qrv (h0_0:(List Qak)) (h0_1:Int) (h0_2:Bool) (o11:Bool):St:=⟨[(0,.ptr 0 0),(2,.ptr 1 0),(34,.p (bV o11))],⟨[[.p (.sl false (h0_0.map Qai)),.p (iV h0_1),.p (bV h0_2)],[.p (iV 0),.p (sV []),.p (sV []),.p (iV 0),.p (.sl true []),.p (.sl true []),.p (.sl true [])]],[]⟩⟩
def Qrw (h0_0:(List Qak)) (h0_1:Int) (h0_2:Bool) (o14:Int):St:=⟨[(0,.ptr 0 0),(2,.ptr 1 0),(4,.ptr 2 0)],⟨[[.p (.sl false (h0_0.map Qai)),.p (iV h0_1),.p (bV h0_2)],[.p (iV 0),.p (sV []),.p (sV []),.p (iV 0),.p (.sl true []),.p (.sl true []),.p (.sl true [])],[.p (iV o14),.p (sV []),.p (sV []),.p (iV 0),.p (.sl true []),.p (.sl true []),.p (.sl true [])]],[]⟩⟩
def Qrx (h0_0:(List Qak)) (o14:Int) (x17:(List UInt8)×Int×Bool) (o18:Int×Bool):St:=⟨[(0,.ptr 0 0),(2,.ptr 1 0),(4,.ptr 2 0)],⟨[[.p (.sl false (h0_0.map Qai)),.p (iV o18.1),.p (bV o18.2)],[.p (iV 0),.p (sV []),.p (sV []),.p (iV 0),.p (.sl true []),.p (.sl true []),.p (.sl true [])],[.p (iV o14),.p (sV x17.1),.p (sV []),.p (iV 0),.p (.sl true []),.p (.sl true []),.p (.sl true [])]],[]⟩⟩
def Qry (h0_0:(List Qak)) (o27:Int×Bool×Int×(List UInt8)):St:=⟨[(0,.ptr 0 0),(2,.ptr 1 0),(5,.ptr 2 0)],⟨[[.p (.sl false (h0_0.map Qai)),.p (iV o27.1),.p (bV o27.2.1)],[.p (iV 0),.p (sV []),.p (sV []),.p (iV 0),.p (.sl true []),.p (.sl true []),.p (.sl true [])],[.p (iV o27.2.2.1),.p (sV o27.2.2.2),.p (sV []),.p (iV 0),.p (.sl true []),.p (.sl true []),.p (.sl true [])]],[]⟩⟩
def Qod (_:Int×Bool):D :=.tup []
def Qwd:List (Nat×List Nat):=[(0,[])]
def Qrp (_:Int×Bool):D :=.tup []
def Qyn:List (Nat×List Nat):=[(0,[0,1]),(1,[0]),(2,[])]
def Qbx (y:Qab×Int×Bool):D :=.p (.agg [iV y.1.Kind,sV y.1.Name,sV y.1.Text,iV y.1.N,.sl false (y.1.L.map Qaa),.sl false (y.1.Then.map Qaa),.sl false (y.1.Else.map Qaa)])
def Qno:List (Nat×List Nat):=[(0,[0,2]),(1,[0,2,7]),(2,[2]),(3,[0,2,13]),(4,[2]),(5,[0,2,19]),(6,[2]),(7,[2]),(8,[0,2,24]),(9,[2]),(10,[2]),(11,[0,2,29]),(12,[0,2]),(13,[0,2]),(14,[0,2,3]),(15,[2,3]),(16,[2]),(17,[0,2,4]),(18,[0,2,4,66]),(19,[2]),(20,[0,2,4]),(21,[0,2,4]),(22,[0,2,4,72]),(23,[2,4]),(24,[2]),(25,[0,2,4,5]),(26,[0,2,4,5,84]),(27,[0,2,4,5]),(28,[0,2,4,5]),(29,[0,2,4,5,95]),(30,[0,2,4,5,97]),(31,[0,2,4,5]),(32,[2,4]),(33,[2]),(1000026,[0,2,4,5]),(3000014,[]),(3000026,[]),(5000014,[17]),(5000028,[3,1001,1007]),(8000028,[2])]
def Qtm (h0_0:(List Qak)) (o13:Int×Bool×Int×(List UInt8)×Int×Int×Int):St:=⟨[(0,.ptr 0 0),(2,.ptr 1 0),(3,.ptr 2 0)],⟨[[.p (.sl false (h0_0.map Qai)),.p (iV o13.1),.p (bV o13.2.1)],[.p (iV 0),.p (sV []),.p (sV []),.p (iV 0),.p (.sl true []),.p (.sl true []),.p (.sl true [])],[.p (iV o13.2.2.1),.p (sV o13.2.2.2.1),.p (iV o13.2.2.2.2.1),.p (iV o13.2.2.2.2.2.1),.p (iV o13.2.2.2.2.2.2)]],[]⟩⟩
def Qtn (h0_0:(List Qak)) (x21:(List UInt8)×Int×Bool) (v5:Int) (h0_1_:Int) (h0_2_:Bool) (h2_4:(List Qab)) (o27:Bool):St:=⟨[(0,.ptr 0 0),(2,.ptr 1 0),(4,.ptr 2 0),(5,.p (iV v5)),(84,.p (bV o27))],⟨[[.p (.sl false (h0_0.map Qai)),.p (iV h0_1_),.p (bV h0_2_)],[.p (iV 0),.p (sV []),.p (sV []),.p (iV 0),.p (.sl true []),.p (.sl true []),.p (.sl true [])],[.p (iV 6),.p (sV x21.1),.p (sV []),.p (iV 0),.own 0 38 7 (h2_4.map Qaa),.p (.sl true []),.p (.sl true [])]],[(h2_4.map Qaa).length]⟩⟩
def Qed (h0_0:(List Qak)) (x21:(List UInt8)×Int×Bool) (v5:Int) (h0_1_:Int) (h0_2_:Bool) (h2_4:(List Qab)):St:=⟨[(0,.ptr 0 0),(2,.ptr 1 0),(4,.ptr 2 0),(5,.p (iV v5))],⟨[[.p (.sl false (h0_0.map Qai)),.p (iV h0_1_),.p (bV h0_2_)],[.p (iV 0),.p (sV []),.p (sV []),.p (iV 0),.p (.sl true []),.p (.sl true []),.p (.sl true [])],[.p (iV 6),.p (sV x21.1),.p (sV []),.p (iV 0),.own 0 38 7 (h2_4.map Qaa),.p (.sl true []),.p (.sl true [])]],[(h2_4.map Qaa).length]⟩⟩
def Qj6 (h0_0:(List Qak)) (x21:(List UInt8)×Int×Bool) (o26:Int×Bool×(List Qab)):St:=⟨[(0,.ptr 0 0),(2,.ptr 1 0),(4,.ptr 2 0)],⟨[[.p (.sl false (h0_0.map Qai)),.p (iV o26.1),.p (bV o26.2.1)],[.p (iV 0),.p (sV []),.p (sV []),.p (iV 0),.p (.sl true []),.p (.sl true []),.p (.sl true [])],[.p (iV 6),.p (sV x21.1),.p (sV []),.p (iV 0),.own 0 38 7 (o26.2.2.map Qaa),.p (.sl true []),.p (.sl true [])]],[(o26.2.2.map Qaa).length]⟩⟩
def Qto:Code:=((Qaz (Tryz.f173.body.getD .skip)).getD 0 .skip)
def Qd6 (y:Bool):D :=.p (bV y)
def Qz3:List (Nat×List Nat):=[(0,[0,1]),(1,[4]),(3000001,[])]
def Qxl (h0_0:(List Qak)) (h0_1:Int) (h0_2:Bool) (o1:Bool):St:=⟨[(4,.p (bV o1))],⟨[[.p (.sl false (h0_0.map Qai)),.p (iV h0_1),.p (bV h0_2)]],[]⟩⟩
def Qpy (y:(List UInt8)×Int×Bool):D :=.p (sV y.1)
def Qxm:List (Nat×List Nat):=[(0,[0]),(1,[2]),(3000001,[]),(5000001,[17])]
def Quy (h0_0:(List Qak)) (o1:(List UInt8)×Int×Bool):St:=⟨[(2,.p (sV o1.1))],⟨[[.p (.sl false (h0_0.map Qai)),.p (iV o1.2.1),.p (bV o1.2.2)]],[]⟩⟩
def Qkp (y:Qak×Int×Bool):D :=.p (.agg [iV y.1.Kind,sV y.1.Text,iV y.1.N,iV y.1.From,iV y.1.To])
def Qxn:List (Nat×List Nat):=[(0,[0,1,4]),(1,[0,4,12]),(2,[4]),(3,[4]),(4,[0,4]),(5,[4]),(3000001,[])]
def Quz (h0_0:(List Qak)) (h0_1:Int) (h0_2:Bool) (o1:Bool):St:=⟨[(0,.ptr 0 0),(4,.ptr 1 0),(12,.p (bV o1))],⟨[[.p (.sl false (h0_0.map Qai)),.p (iV h0_1),.p (bV h0_2)],[.p (iV 0),.p (sV []),.p (iV 0),.p (iV 0),.p (iV 0)]],[]⟩⟩
def Qpz (y:Bool):D :=.p (bV y)
def Qxo:List (Nat×List Nat):=[(0,[0,1]),(1,[4]),(3000001,[])]
def Qu0 (h0_0:(List Qak)) (h0_1:Int) (h0_2:Bool) (o1:Bool):St:=⟨[(4,.p (bV o1))],⟨[[.p (.sl false (h0_0.map Qai)),.p (iV h0_1),.p (bV h0_2)]],[]⟩⟩
def Qik (y:Int):D :=.p (iV y)
def Qzi:List (Nat×List Nat):=[(0,[0,1,2]),(1,[0,1,2,7]),(2,[0,1,2,7,8]),(3,[0,1,2,7,8,19]),(4,[0,1,2,7,8]),(5,[0,1,2,7,8]),(6,[0,1,2,7,8,56]),(7,[0,1,2,7,8,9]),(8,[0,1,2,7,8]),(9,[6]),(1000003,[0,1,2,7,8]),(3000003,[]),(3000006,[])]
def Q4r (p0:(List Qae)) (p1:(List Qab)) (p2:Int) (v7:Int) (v8:Int) (o2:Bool):St:=⟨[(0,.p (.sl false (p0.map Qaf))),(1,.p (.sl false (p1.map Qaa))),(2,.p (iV p2)),(7,.p (iV v7)),(8,.p (iV v8)),(19,.p (bV o2))],⟨[],[]⟩⟩
def Q4s (p0:(List Qae)) (p1:(List Qab)) (p2:Int) (v7:Int) (v8:Int) (x4:Int) (x6:Int) (o7:Bool):St:=⟨[(0,.p (.sl false (p0.map Qaf))),(1,.p (.sl false (p1.map Qaa))),(2,.p (iV p2)),(7,.p (iV (wr ((wr ((wr (v7+1))+x4))+x6)))),(8,.p (iV v8)),(56,.p (bV o7))],⟨[],[]⟩⟩
def Qji (p0:(List Qae)) (p1:(List Qab)) (p2:Int) (v7:Int) (v8:Int):St:=⟨[(0,.p (.sl false (p0.map Qaf))),(1,.p (.sl false (p1.map Qaa))),(2,.p (iV p2)),(7,.p (iV v7)),(8,.p (iV v8))],⟨[],[]⟩⟩
def Qtp (p0:(List Qae)) (p1:(List Qab)) (p2:Int) (o1:Int):St:=⟨[(7,.p (iV o1))],⟨[],[]⟩⟩
def Q4t:Code:=((Qaz (Tryz.f60.body.getD .skip)).getD 0 .skip)
def Qg5 (y:Qa6):D :=.p (.agg [sV y.Where,bV y.Bad,bV y.Tells])
def Qzj:List (Nat×List Nat):=[(0,[0,1,2,3,8]),(1,[0,1,2,3,8,9]),(2,[0,1,2,3,8,9,10]),(3,[0,1,2,3,8,9,10,28]),(4,[0,1,2,3,8,9,10]),(5,[0,1,2,3,8,9,10,11]),(6,[0,1,2,3,8,9,10,11,37]),(7,[0,1,2,3,8,9,10,11,12]),(8,[0,1,2,3,8,9,10,11,12,49]),(9,[0,1,2,3,8,9,10,11,12]),(10,[0,1,2,3,8,9,10,11,12,61]),(11,[8]),(12,[0,1,2,3,8,9,10,11,12,13]),(13,[0,1,2,3,8,9,10,11,12,13,69]),(14,[0,1,2,3,8,9,10,11,12,13]),(15,[0,1,2,3,8,9,10,11,12,13,78]),(16,[0,1,2,3,8,9,10,11,12,13]),(17,[0,1,2,3,8,9,10,11,12,14]),(18,[0,1,2,3,8,9,10,11,12,14,15]),(19,[0,1,2,3,8,9,10,11,12,14,15,16]),(20,[0,1,2,3,8,9,10,11,12,14,15,16,101]),(21,[0,1,2,3,8,9,10,11,12,14,15,16,17]),(22,[0,1,2,3,8,9,10,14,15,16]),(23,[0,1,2,3,8,9,10,14,15,16]),(24,[0,1,2,3,8,9,10,14,15,16,134]),(25,[8]),(26,[0,1,2,3,8,9,10,15,16,137]),(27,[8]),(28,[0,1,2,3,8,9,10,16,140]),(29,[8]),(30,[8]),(1000003,[0,1,2,3,8,9,10]),(2008005,[]),(2013005,[]),(2015005,[]),(2020007,[]),(3000003,[]),(3000008,[]),(3000010,[]),(3000023,[])]
def Q4u (p0:(List Qae)) (p1:(List UInt8)) (p2:(List Qab)) (p3:(List Qah)) (v10:Int) (h1_2:Bool) (o4:Bool):St:=⟨[(0,.p (.sl false (p0.map Qaf))),(1,.p (sV p1)),(2,.p (.sl false (p2.map Qaa))),(3,.p (.sl false (p3.map Qam))),(8,.ptr 0 0),(9,.ptr 1 0),(10,.p (iV v10)),(28,.p (bV o4))],⟨[[.p (sV []),.p (bV false),.p (bV false)],[.p (sV []),.p (bV false),.p (bV h1_2)]],[]⟩⟩
def Q4v (p0:(List Qae)) (p1:(List UInt8)) (p2:(List Qab)) (p3:(List Qah)) (v10:Int) (x5:Qab) (x7:Bool) (o8:Bool):St:=⟨[(0,.p (.sl false (p0.map Qaf))),(1,.p (sV p1)),(2,.p (.sl false (p2.map Qaa))),(3,.p (.sl false (p3.map Qam))),(8,.ptr 0 0),(9,.ptr 1 0),(10,.p (iV v10)),(11,.ptr 2 0),(12,.p (bV x7))],⟨[[.p (sV []),.p (bV false),.p (bV false)],[.p (sV []),.p (bV false),.p (bV o8)],[.p (iV x5.Kind),.p (sV x5.Name),.p (sV x5.Text),.p (iV x5.N),.p (.sl false (x5.L.map Qaa)),.p (.sl false (x5.Then.map Qaa)),.p (.sl false (x5.Else.map Qaa))]],[]⟩⟩
def Q4w (p0:(List Qae)) (p1:(List UInt8)) (p2:(List Qab)) (p3:(List Qah)) (v10:Int) (h1_2:Bool) (x5:Qab) (x7:Bool) (o9:Bool):St:=⟨[(0,.p (.sl false (p0.map Qaf))),(1,.p (sV p1)),(2,.p (.sl false (p2.map Qaa))),(3,.p (.sl false (p3.map Qam))),(8,.ptr 0 0),(9,.ptr 1 0),(10,.p (iV v10)),(11,.ptr 2 0),(12,.p (bV x7)),(49,.p (bV o9))],⟨[[.p (sV []),.p (bV false),.p (bV false)],[.p (sV []),.p (bV false),.p (bV h1_2)],[.p (iV x5.Kind),.p (sV x5.Name),.p (sV x5.Text),.p (iV x5.N),.p (.sl false (x5.L.map Qaa)),.p (.sl false (x5.Then.map Qaa)),.p (.sl false (x5.Else.map Qaa))]],[]⟩⟩
def Q4x (p0:(List Qae)) (p1:(List UInt8)) (p2:(List Qab)) (p3:(List Qah)) (v10:Int) (x5:Qab) (x7:Bool) (o8:Bool) (o10:Bool):St:=⟨[(0,.p (.sl false (p0.map Qaf))),(1,.p (sV p1)),(2,.p (.sl false (p2.map Qaa))),(3,.p (.sl false (p3.map Qam))),(8,.ptr 0 0),(9,.ptr 1 0),(10,.p (iV v10)),(11,.ptr 2 0),(12,.p (bV x7)),(61,.p (bV o10))],⟨[[.p (sV []),.p (bV false),.p (bV false)],[.p (sV []),.p (bV false),.p (bV o8)],[.p (iV x5.Kind),.p (sV x5.Name),.p (sV x5.Text),.p (iV x5.N),.p (.sl false (x5.L.map Qaa)),.p (.sl false (x5.Then.map Qaa)),.p (.sl false (x5.Else.map Qaa))]],[]⟩⟩
def Q4y (p0:(List Qae)) (p1:(List UInt8)) (p2:(List Qab)) (p3:(List Qah)) (v10:Int) (x5:Qab) (x7:Bool) (o8:Bool) (o12:(List Qah)):St:=⟨[(0,.p (.sl false (p0.map Qaf))),(1,.p (sV p1)),(2,.p (.sl false (p2.map Qaa))),(3,.p (.sl false (p3.map Qam))),(8,.ptr 0 0),(9,.ptr 1 0),(10,.p (iV v10)),(11,.ptr 2 0),(12,.p (bV x7)),(13,.own 0 46 3 (o12.map Qam))],⟨[[.p (sV []),.p (bV false),.p (bV false)],[.p (sV []),.p (bV false),.p (bV o8)],[.p (iV x5.Kind),.p (sV x5.Name),.p (sV x5.Text),.p (iV x5.N),.p (.sl false (x5.L.map Qaa)),.p (.sl false (x5.Then.map Qaa)),.p (.sl false (x5.Else.map Qaa))]],[(o12.map Qam).length]⟩⟩
def Q4z (p0:(List Qae)) (p1:(List UInt8)) (p2:(List Qab)) (p3:(List Qah)) (v10:Int) (x5:Qab) (x7:Bool) (o8:Bool) (o14:(List Qah)):St:=⟨[(0,.p (.sl false (p0.map Qaf))),(1,.p (sV p1)),(2,.p (.sl false (p2.map Qaa))),(3,.p (.sl false (p3.map Qam))),(8,.ptr 0 0),(9,.ptr 1 0),(10,.p (iV v10)),(11,.ptr 2 0),(12,.p (bV x7)),(13,.own 0 46 3 (o14.map Qam))],⟨[[.p (sV []),.p (bV false),.p (bV false)],[.p (sV []),.p (bV false),.p (bV o8)],[.p (iV x5.Kind),.p (sV x5.Name),.p (sV x5.Text),.p (iV x5.N),.p (.sl false (x5.L.map Qaa)),.p (.sl false (x5.Then.map Qaa)),.p (.sl false (x5.Else.map Qaa))]],[(o14.map Qam).length]⟩⟩
def Q40 (p0:(List Qae)) (p1:(List UInt8)) (p2:(List Qab)) (p3:(List Qah)) (v10:Int) (x5:Qab) (o8:Bool) (o14:(List Qah)) (x16:Qa6) (x17:Qa6) (o18:(List UInt8)×Bool×Bool):St:=⟨[(0,.p (.sl false (p0.map Qaf))),(1,.p (sV p1)),(2,.p (.sl false (p2.map Qaa))),(3,.p (.sl false (p3.map Qam))),(8,.ptr 0 0),(9,.ptr 1 0),(10,.p (iV v10)),(14,.ptr 3 0),(15,.ptr 4 0),(16,.ptr 5 0)],⟨[[.p (sV []),.p (bV false),.p (bV false)],[.p (sV []),.p (bV false),.p (bV o8)],[.p (iV x5.Kind),.p (sV x5.Name),.p (sV x5.Text),.p (iV x5.N),.p (.sl false (x5.L.map Qaa)),.p (.sl false (x5.Then.map Qaa)),.p (.sl false (x5.Else.map Qaa))],[.p (sV x16.Where),.p (bV x16.Bad),.p (bV x16.Tells)],[.p (sV x17.Where),.p (bV x17.Bad),.p (bV x17.Tells)],[.p (sV o18.1),.p (bV o18.2.1),.p (bV o18.2.2)]],[(o14.map Qam).length]⟩⟩
def Q41 (p0:(List Qae)) (p1:(List UInt8)) (p2:(List Qab)) (p3:(List Qah)) (v10:Int) (x5:Qab) (o14:(List Qah)) (x16:Qa6) (x17:Qa6) (o18:(List UInt8)×Bool×Bool) (o21:Bool):St:=⟨[(0,.p (.sl false (p0.map Qaf))),(1,.p (sV p1)),(2,.p (.sl false (p2.map Qaa))),(3,.p (.sl false (p3.map Qam))),(8,.ptr 0 0),(9,.ptr 1 0),(10,.p (iV v10)),(14,.ptr 3 0),(15,.ptr 4 0),(16,.ptr 5 0)],⟨[[.p (sV []),.p (bV false),.p (bV false)],[.p (sV []),.p (bV false),.p (bV o21)],[.p (iV x5.Kind),.p (sV x5.Name),.p (sV x5.Text),.p (iV x5.N),.p (.sl false (x5.L.map Qaa)),.p (.sl false (x5.Then.map Qaa)),.p (.sl false (x5.Else.map Qaa))],[.p (sV x16.Where),.p (bV x16.Bad),.p (bV x16.Tells)],[.p (sV x17.Where),.p (bV x17.Bad),.p (bV x17.Tells)],[.p (sV o18.1),.p (bV o18.2.1),.p (bV o18.2.2)]],[(o14.map Qam).length]⟩⟩
def Qjj (p0:(List Qae)) (p1:(List UInt8)) (p2:(List Qab)) (p3:(List Qah)) (v10:Int) (h1_2:Bool):St:=⟨[(0,.p (.sl false (p0.map Qaf))),(1,.p (sV p1)),(2,.p (.sl false (p2.map Qaa))),(3,.p (.sl false (p3.map Qam))),(8,.ptr 0 0),(9,.ptr 1 0),(10,.p (iV v10))],⟨[[.p (sV []),.p (bV false),.p (bV false)],[.p (sV []),.p (bV false),.p (bV h1_2)]],[]⟩⟩
def Qtq (p0:(List Qae)) (p1:(List UInt8)) (p2:(List Qab)) (p3:(List Qah)) (y2:Bool):St:=⟨[(8,.ptr 0 0),(9,.ptr 1 0)],⟨[[.p (sV []),.p (bV false),.p (bV false)],[.p (sV []),.p (bV false),.p (bV y2)]],[]⟩⟩
def Qtr (p0:(List Qae)) (p1:(List UInt8)) (p2:(List Qab)) (p3:(List Qah)) (y3:(List UInt8)×Bool×Bool×Bool):St:=⟨[(8,.ptr 0 0)],⟨[[.p (sV y3.1),.p (bV y3.2.1),.p (bV y3.2.2.1)],[.p (sV []),.p (bV false),.p (bV y3.2.2.2)]],[]⟩⟩
def Q42:Code:=((Qaz (Tryz.f86.body.getD .skip)).getD 0 .skip)
def Qwe (y:(List UInt8)×Int):D :=.tup [.p (sV y.1),.p (iV y.2)]
def Qacn:List (Nat×List Nat):=[(0,[0,1]),(1,[7,8]),(2,[4,5])]
def Qhq (y:Bool):D :=.p (bV y)
def Q2w:List (Nat×List Nat):=[(0,[1,2]),(1,[1,2,8]),(2,[4]),(3,[1,2,11]),(4,[4]),(5,[1,2,23]),(6,[4]),(7,[1,2,5]),(8,[1,2,5,28]),(9,[1,2,5]),(10,[1,2,5,37]),(11,[4]),(12,[4]),(1000008,[1,2,5]),(3000005,[])]
def Q87 (p0:Qab) (p1:(List Qah)) (o2:Bool):St:=⟨[(1,.p (.sl false (p1.map Qam))),(2,.ptr 0 0),(23,.p (bV o2))],⟨[[.p (iV p0.Kind),.p (sV p0.Name),.p (sV p0.Text),.p (iV p0.N),.p (.sl false (p0.L.map Qaa)),.p (.sl false (p0.Then.map Qaa)),.p (.sl false (p0.Else.map Qaa))]],[]⟩⟩
def Qo0 (p0:Qab) (p1:(List Qah)) (v5:Int):St:=⟨[(1,.p (.sl false (p1.map Qam))),(2,.ptr 0 0),(5,.p (iV v5))],⟨[[.p (iV p0.Kind),.p (sV p0.Name),.p (sV p0.Text),.p (iV p0.N),.p (.sl false (p0.L.map Qaa)),.p (.sl false (p0.Then.map Qaa)),.p (.sl false (p0.Else.map Qaa))]],[]⟩⟩
def Qvr (p0:Qab) (p1:(List Qah)) (y4:Unit):St:=⟨[],⟨[[.p (iV p0.Kind),.p (sV p0.Name),.p (sV p0.Text),.p (iV p0.N),.p (.sl false (p0.L.map Qaa)),.p (.sl false (p0.Then.map Qaa)),.p (.sl false (p0.Else.map Qaa))]],[]⟩⟩
def Qvs (p0:Qab) (p1:(List Qah)) (y5:Unit):St:=⟨[(4,.p (bV true))],⟨[[.p (iV p0.Kind),.p (sV p0.Name),.p (sV p0.Text),.p (iV p0.N),.p (.sl false (p0.L.map Qaa)),.p (.sl false (p0.Then.map Qaa)),.p (.sl false (p0.Else.map Qaa))]],[]⟩⟩
def Q88:Code:=((Qaz (Tryz.f24.body.getD .skip)).getD 0 .skip)
def Qwf (y:Bool):D :=.p (bV y)
def Qaco:List (Nat×List Nat):=[(0,[0,1]),(1,[5,7]),(2,[4]),(3000002,[])]
def Q43 (x1:Qa6×(List UInt8)×Int) (o2:Bool):St:=⟨[(4,.p (bV o2))],⟨[[.p (sV x1.1.Where),.p (bV x1.1.Bad),.p (bV x1.1.Tells)]],[]⟩⟩
def Qqw (y:Bool):D :=.p (bV y)
def Qzk:List (Nat×List Nat):=[(0,[0,1]),(1,[0,1,5]),(2,[0,1,5,10]),(3,[0,1,5]),(4,[0,1,5,19]),(5,[4]),(6,[4]),(1000002,[0,1,5])]
def Qnp (p0:(List Qah)) (p1:(List UInt8)) (v5:Int):St:=⟨[(0,.p (.sl false (p0.map Qam))),(1,.p (sV p1)),(5,.p (iV v5))],⟨[],[]⟩⟩
def Qts (p0:(List Qah)) (p1:(List UInt8)) (y2:Unit):St:=⟨[],⟨[],[]⟩⟩
def Qtt (p0:(List Qah)) (p1:(List UInt8)) (y3:Bool):St:=⟨[(4,.p (bV y3))],⟨[],[]⟩⟩
def Q44:Code:=((Qaz (Tryz.f58.body.getD .skip)).getD 0 .skip)
def Qil (y:Qa6×(List UInt8)×Int):D :=.tup [.p (.agg [sV y.1.Where,bV y.1.Bad,bV y.1.Tells]),.p (sV y.2.1),.p (iV y.2.2)]
def Qacp:List (Nat×List Nat):=[(0,[0,1,4]),(1,[0,1,4,7,8]),(2,[0,1,4,7,8,18]),(3,[4,5,6]),(4,[0,1,4,9,10]),(5,[0,1,4,9,29]),(6,[4,5,6]),(7,[4,11]),(8,[4,11,38]),(9,[4,5,6]),(10,[4,5,6]),(9400009,[])]
def Qfr (y:(List Qae)×Bool):D :=.tup [.p (.sl false (y.1.map Qaf)),.p (bV y.2)]
def Qu1:List (Nat×List Nat):=[(0,[0,1]),(1,[0,1]),(2,[0,1,7]),(3,[0,1,18]),(4,[4,5]),(5,[0,8]),(6,[4,5])]
def Qd7 (y:Bool):D :=.p (bV y)
def Qmi:List (Nat×List Nat):=[(0,[0,1]),(1,[0,1,5]),(2,[0,1,17]),(3,[4]),(4,[0,1,6,7]),(5,[0,1,6,7,8,9]),(6,[4]),(3000006,[])]
def Qlo  (o5:Bool):St:=⟨[(4,.p (bV o5))],⟨[],[]⟩⟩
def Qfs (y:Bool):D :=.p (bV y)
def Qu2:List (Nat×List Nat):=[(0,[]),(1,[1]),(2,[1,2]),(3,[1,2,4]),(4,[1,2,4,5,6]),(5,[1,2,4,5,6,8]),(6,[0]),(3000006,[])]
def Qrz  (o7:Bool):St:=⟨[(0,.p (bV o7))],⟨[],[]⟩⟩
def Qe4 (y:(List Qae)):D :=.p (.sl false (y.map Qaf))
def Qxp:List (Nat×List Nat):=[(0,[0]),(1,[3]),(2,[2])]
def Qe5 (y:(List UInt8)×Int):D :=.tup [.p (sV y.1),.p (iV y.2)]
def Qz4:List (Nat×List Nat):=[(0,[0,1]),(1,[4,5])]
def Qkq (_:Unit):D :=.tup []
def Qxq:List (Nat×List Nat):=[]
def Qcs (y:Bool):D :=.p (bV y)
def Qtu:List (Nat×List Nat):=[(0,[2,3]),(1,[2,3,7]),(2,[2,3,7,8]),(3,[4]),(4,[2,3,7,10]),(5,[2,3,5]),(6,[2,3,5,16]),(7,[2,3,5]),(8,[2,3,5,26]),(9,[4]),(10,[2,3,7,32]),(11,[2,3,32]),(12,[4]),(13,[4]),(1000006,[2,3,5]),(2010005,[])]
def Qjk (p0:Qab) (p1:(List Qah)) (v5:Int):St:=⟨[(2,.ptr 0 0),(3,.ptr 1 0),(5,.p (iV v5))],⟨[[.p (iV p0.Kind),.p (sV p0.Name),.p (sV p0.Text),.p (iV p0.N),.p (.sl false (p0.L.map Qaa)),.p (.sl false (p0.Then.map Qaa)),.p (.sl false (p0.Else.map Qaa))],[.p (.sl false (p1.map Qam))]],[]⟩⟩
def Qoe (p0:Qab) (p1:(List Qah)) (y2:Unit):St:=⟨[],⟨[[.p (iV p0.Kind),.p (sV p0.Name),.p (sV p0.Text),.p (iV p0.N),.p (.sl false (p0.L.map Qaa)),.p (.sl false (p0.Then.map Qaa)),.p (.sl false (p0.Else.map Qaa))],[.p (.sl false (p1.map Qam))]],[]⟩⟩
def Qof (p0:Qab) (p1:(List Qah)) (y3:Bool):St:=⟨[(4,.p (bV y3))],⟨[[.p (iV p0.Kind),.p (sV p0.Name),.p (sV p0.Text),.p (iV p0.N),.p (.sl false (p0.L.map Qaa)),.p (.sl false (p0.Then.map Qaa)),.p (.sl false (p0.Else.map Qaa))],[.p (.sl false (p1.map Qam))]],[]⟩⟩
def Qyo:Code:=((Qaz (Tryz.f23.body.getD .skip)).getD 0 .skip)
def Qyp (p0:Qab) (p1:(List Qah)) (o6:Bool):St:=⟨[(2,.ptr 0 0),(3,.ptr 1 0),(32,.p (bV o6))],⟨[[.p (iV p0.Kind),.p (sV p0.Name),.p (sV p0.Text),.p (iV p0.N),.p (.sl false (p0.L.map Qaa)),.p (.sl false (p0.Then.map Qaa)),.p (.sl false (p0.Else.map Qaa))],[.p (.sl false (p1.map Qam))]],[]⟩⟩
def Qrq (y:Bool):D :=.p (bV y)
def Qyq:List (Nat×List Nat):=[(0,[1,2]),(1,[3])]
def Qg6 (y:Bool):D :=.p (bV y)
def Qz5:List (Nat×List Nat):=[(0,[0,1]),(1,[0,1,5]),(2,[5,7]),(3,[4]),(3000003,[])]
def Qxr (x1:(List UInt8)×Int×Int) (o2:Bool):St:=⟨[(4,.p (bV o2))],⟨[[.p (iV x1.2.2)]],[]⟩⟩
def Qp0 (_:Int):D :=.tup []
def Qxs:List (Nat×List Nat):=[(0,[])]
def Qbp (y:(List UInt8)×Int):D :=.tup [.p (sV y.1),.p (iV y.2)]
def Qkr:List (Nat×List Nat):=[(0,[0,1,2]),(1,[0,1,2,8,9]),(2,[0,1,2,8,9,19]),(3,[6,7]),(4,[0,1,2,10,11]),(5,[0,1,2,10,29]),(6,[6,7]),(7,[1,10,12]),(8,[12]),(9,[12,44]),(10,[6,7]),(11,[6,7]),(9000007,[1,0,0,0])]
def Qbq (y:(List UInt8)×Int×Int):D :=.tup [.p (sV y.1),.p (iV y.2.1)]
def Qks:List (Nat×List Nat):=[(0,[0,1,2]),(1,[0,1,2,8,9]),(2,[0,1,2,8,9,19]),(3,[6,7]),(4,[0,1,2,10,11]),(5,[0,1,2,10,29]),(6,[6,7]),(7,[1,10,12]),(8,[12]),(9,[12,44]),(10,[6,7]),(11,[6,7]),(9000007,[1,0,0,0])]
def Qee (_:(List UInt8)×Bool×(List (Qag×Int))):D :=.tup []
def Qjl:List (Nat×List Nat):=[(0,[0,1,3,12,13,14]),(1,[0,1,3,12,13,14,15]),(2,[0,1,3,9,12,13,14]),(3,[0,1,3,9,12,13,14,21]),(4,[0,1,3,9,12,13,14,24]),(5,[0,1,3,9,10,12,13,14]),(6,[0,1,3,9,10,11,12,13,14]),(7,[0,1,3,9,10,11,12,13,14,34]),(8,[0,1,3,9,10,11,12,13,14,34,35]),(9,[0,1,3,9,11,12,13,14,37]),(10,[0,1,3,9,11,12,13,14]),(11,[0,1,3,9,10,11,12,13,14,34,43]),(12,[0,1,3,9,10,11,12,13,14,34,43]),(13,[0,1,3,9,11,12,13,14,46]),(14,[]),(15,[0,1,3,9,11,12,13,14,56]),(16,[0,1,3,9,11,12,13,14]),(17,[0,1,3,9,10,11,12,13,14,34,63]),(18,[0,1,3,9,11,12,13,14]),(19,[0,1,3,9,10,11,12,13,14,72]),(20,[0,1,3,12,13,14]),(21,[0,1,3,9,12,13,14]),(22,[0,1,3,12,13,14]),(23,[0,1,3,12,13,14]),(1000001,[0,1,3,12,13,14]),(2007042,[]),(2011005,[]),(9000016,[5,0,0,0]),(9000018,[6,0,0,0]),(9500021,[])]
def Qo1 (p1:(List UInt8)) (p2:(List Qab)) (p3:(List Qah)) (h0_0:(List Qae)) (v14:Int) (h0_2_:(List UInt8)) (h0_3_:Bool) (h1_0_:(List (Qag×Int))) (x4:Qab) (y9:(List Qah)):St:=⟨[(0,.ptr 0 0),(1,.p (sV p1)),(3,.p (.sl false (p3.map Qam))),(9,.ptr 2 0),(11,.x 0 1 (.sl 46 3 (y9.map Qam))),(12,.p (.sl false (p2.map Qaa))),(13,.p (iV (p2.length:Int))),(14,.p (iV v14))],⟨[[.p (.sl false (h0_0.map Qaf)),.mh 1,.p (sV h0_2_),.p (bV h0_3_),.fn (.func 62) [] []],[mpD (fun x =>.agg (Qap x)) iV h1_0_],[.p (iV x4.Kind),.p (sV x4.Name),.p (sV x4.Text),.p (iV x4.N),.p (.sl false (x4.L.map Qaa)),.p (.sl false (x4.Then.map Qaa)),.p (.sl false (x4.Else.map Qaa))]],[1]⟩⟩
def Qo2 (p1:(List UInt8)) (p2:(List Qab)) (p3:(List Qah)) (h0_0:(List Qae)) (v14:Int) (h0_2_:(List UInt8)) (h0_3_:Bool) (h1_0_:(List (Qag×Int))) (x4:Qab) (y10:(List UInt8)×Bool×(List (Qag×Int))):St:=⟨[(0,.ptr 0 0),(1,.p (sV p1)),(3,.p (.sl false (p3.map Qam))),(12,.p (.sl false (p2.map Qaa))),(13,.p (iV (p2.length:Int))),(14,.p (iV v14))],⟨[[.p (.sl false (h0_0.map Qaf)),.mh 1,.p (sV y10.1),.p (bV y10.2.1),.fn (.func 62) [] []],[mpD (fun x =>.agg (Qap x)) iV y10.2.2],[.p (iV x4.Kind),.p (sV x4.Name),.p (sV x4.Text),.p (iV x4.N),.p (.sl false (x4.L.map Qaa)),.p (.sl false (x4.Then.map Qaa)),.p (.sl false (x4.Else.map Qaa))]],[1]⟩⟩
def Qo3 (p1:(List UInt8)) (p2:(List Qab)) (p3:(List Qah)) (h0_0:(List Qae)) (v14:Int) (h0_2_:(List UInt8)) (h0_3_:Bool) (h1_0_:(List (Qag×Int))) (x4:Qab) (y11:Unit):St:=⟨[],⟨[[.p (.sl false (h0_0.map Qaf)),.mh 1,.p (sV p1),.p (bV true),.fn (.func 62) [] []],[mpD (fun x =>.agg (Qap x)) iV h1_0_],[.p (iV x4.Kind),.p (sV x4.Name),.p (sV x4.Text),.p (iV x4.N),.p (.sl false (x4.L.map Qaa)),.p (.sl false (x4.Then.map Qaa)),.p (.sl false (x4.Else.map Qaa))]],[1]⟩⟩
def Qo4 (p1:(List UInt8)) (p2:(List Qab)) (p3:(List Qah)) (h0_0:(List Qae)) (v14:Int) (h0_2_:(List UInt8)) (h0_3_:Bool) (h1_0_:(List (Qag×Int))) (x4:Qab) (x6:Bool) (x7:(List Qah)) (o13:Bool):St:=⟨[(0,.ptr 0 0),(1,.p (sV p1)),(3,.p (.sl false (p3.map Qam))),(9,.ptr 2 0),(10,.p (bV x6)),(11,.x 0 1 (.sl 46 3 (x7.map Qam))),(12,.p (.sl false (p2.map Qaa))),(13,.p (iV (p2.length:Int))),(14,.p (iV v14)),(34,.p (iV x4.Kind)),(43,.p (bV o13))],⟨[[.p (.sl false (h0_0.map Qaf)),.mh 1,.p (sV h0_2_),.p (bV h0_3_),.fn (.func 62) [] []],[mpD (fun x =>.agg (Qap x)) iV h1_0_],[.p (iV x4.Kind),.p (sV x4.Name),.p (sV x4.Text),.p (iV x4.N),.p (.sl false (x4.L.map Qaa)),.p (.sl false (x4.Then.map Qaa)),.p (.sl false (x4.Else.map Qaa))]],[1]⟩⟩
def Qcb (p1:(List UInt8)) (p2:(List Qab)) (p3:(List Qah)) (h0_0:(List Qae)) (v14:Int) (h0_2_:(List UInt8)) (h0_3_:Bool) (h1_0_:(List (Qag×Int))):St:=⟨[(0,.ptr 0 0),(1,.p (sV p1)),(3,.p (.sl false (p3.map Qam))),(12,.p (.sl false (p2.map Qaa))),(13,.p (iV (p2.length:Int))),(14,.p (iV v14))],⟨[[.p (.sl false (h0_0.map Qaf)),.mh 1,.p (sV h0_2_),.p (bV h0_3_),.fn (.func 62) [] []],[mpD (fun x =>.agg (Qap x)) iV h1_0_]],[]⟩⟩
def Qhs (p1:(List UInt8)) (p2:(List Qab)) (p3:(List Qah)) (h0_0:(List Qae)) (y2:(List UInt8)×Bool×(List (Qag×Int))):St:=⟨[],⟨[[.p (.sl false (h0_0.map Qaf)),.mh 1,.p (sV y2.1),.p (bV y2.2.1),.fn (.func 62) [] []],[mpD (fun x =>.agg (Qap x)) iV y2.2.2]],[]⟩⟩
def Qht (p1:(List UInt8)) (p2:(List Qab)) (p3:(List Qah)) (h0_0:(List Qae)) (y3:(List UInt8)×Bool×(List (Qag×Int))):St:=⟨[],⟨[[.p (.sl false (h0_0.map Qaf)),.mh 1,.p (sV y3.1),.p (bV y3.2.1),.fn (.func 62) [] []],[mpD (fun x =>.agg (Qap x)) iV y3.2.2]],[]⟩⟩
def Qo5:Code:=((Qaz (Tryz.f85.body.getD .skip)).getD 0 .skip)
def Qdl (_:(List UInt8)×Bool×(List (Qag×Int))×Int):D :=.tup []
def Qh1:List (Nat×List Nat):=[(0,[0,1,3,12,13,14]),(1,[0,1,3,12,13,14,15]),(2,[0,1,3,9,12,13,14]),(3,[0,1,3,9,12,13,14,21]),(4,[0,1,3,9,12,13,14,24]),(5,[0,1,3,9,10,12,13,14]),(6,[0,1,3,9,10,11,12,13,14]),(7,[0,1,3,9,10,11,12,13,14,34]),(8,[0,1,3,9,10,11,12,13,14,34,35]),(9,[0,1,3,9,11,12,13,14,37]),(10,[0,1,3,9,11,12,13,14]),(11,[0,1,3,9,10,11,12,13,14,34,43]),(12,[0,1,3,9,10,11,12,13,14,34,43]),(13,[0,1,3,9,11,12,13,14,46]),(14,[]),(15,[0,1,3,9,11,12,13,14,56]),(16,[0,1,3,9,11,12,13,14]),(17,[0,1,3,9,10,11,12,13,14,34,63]),(18,[0,1,3,9,11,12,13,14]),(19,[0,1,3,9,10,11,12,13,14,72]),(20,[0,1,3,12,13,14]),(21,[0,1,3,9,12,13,14]),(22,[0,1,3,12,13,14]),(23,[0,1,3,12,13,14]),(1000001,[0,1,3,12,13,14]),(2007042,[]),(2011005,[]),(9000016,[5,0,0,0]),(9000018,[6,0,0,0]),(9500021,[])]
def Qnq (p1:(List UInt8)) (p2:(List Qab)) (p3:(List Qah)) (h0_0:(List Qae)) (v14:Int) (h0_2_:(List UInt8)) (h0_3_:Bool) (h1_0_:(List (Qag×Int))) (h2_0_:Int) (x4:Qab) (y9:(List Qah)×Int):St:=⟨[(0,.ptr 0 0),(1,.p (sV p1)),(3,.p (.sl false (p3.map Qam))),(9,.ptr 3 0),(11,.x 0 1 (.sl 46 3 (y9.1.map Qam))),(12,.p (.sl false (p2.map Qaa))),(13,.p (iV (p2.length:Int))),(14,.p (iV v14))],⟨[[.p (.sl false (h0_0.map Qaf)),.mh 1,.p (sV h0_2_),.p (bV h0_3_),.fn (.func 64) [] [.ptr 2 0]],[mpD (fun x =>.agg (Qap x)) iV h1_0_],[.p (iV y9.2)],[.p (iV x4.Kind),.p (sV x4.Name),.p (sV x4.Text),.p (iV x4.N),.p (.sl false (x4.L.map Qaa)),.p (.sl false (x4.Then.map Qaa)),.p (.sl false (x4.Else.map Qaa))]],[1]⟩⟩
def Qnr (p1:(List UInt8)) (p2:(List Qab)) (p3:(List Qah)) (h0_0:(List Qae)) (v14:Int) (h0_2_:(List UInt8)) (h0_3_:Bool) (h1_0_:(List (Qag×Int))) (h2_0_:Int) (x4:Qab) (y10:(List UInt8)×Bool×(List (Qag×Int))×Int):St:=⟨[(0,.ptr 0 0),(1,.p (sV p1)),(3,.p (.sl false (p3.map Qam))),(12,.p (.sl false (p2.map Qaa))),(13,.p (iV (p2.length:Int))),(14,.p (iV v14))],⟨[[.p (.sl false (h0_0.map Qaf)),.mh 1,.p (sV y10.1),.p (bV y10.2.1),.fn (.func 64) [] [.ptr 2 0]],[mpD (fun x =>.agg (Qap x)) iV y10.2.2.1],[.p (iV y10.2.2.2)],[.p (iV x4.Kind),.p (sV x4.Name),.p (sV x4.Text),.p (iV x4.N),.p (.sl false (x4.L.map Qaa)),.p (.sl false (x4.Then.map Qaa)),.p (.sl false (x4.Else.map Qaa))]],[1]⟩⟩
def Qns (p1:(List UInt8)) (p2:(List Qab)) (p3:(List Qah)) (h0_0:(List Qae)) (v14:Int) (h0_2_:(List UInt8)) (h0_3_:Bool) (h1_0_:(List (Qag×Int))) (h2_0_:Int) (x4:Qab) (y11:Unit):St:=⟨[],⟨[[.p (.sl false (h0_0.map Qaf)),.mh 1,.p (sV p1),.p (bV true),.fn (.func 64) [] [.ptr 2 0]],[mpD (fun x =>.agg (Qap x)) iV h1_0_],[.p (iV h2_0_)],[.p (iV x4.Kind),.p (sV x4.Name),.p (sV x4.Text),.p (iV x4.N),.p (.sl false (x4.L.map Qaa)),.p (.sl false (x4.Then.map Qaa)),.p (.sl false (x4.Else.map Qaa))]],[1]⟩⟩
def Qnt (p1:(List UInt8)) (p2:(List Qab)) (p3:(List Qah)) (h0_0:(List Qae)) (v14:Int) (h0_2_:(List UInt8)) (h0_3_:Bool) (h1_0_:(List (Qag×Int))) (h2_0_:Int) (x4:Qab) (x6:Bool) (x7:(List Qah)) (o13:Bool):St:=⟨[(0,.ptr 0 0),(1,.p (sV p1)),(3,.p (.sl false (p3.map Qam))),(9,.ptr 3 0),(10,.p (bV x6)),(11,.x 0 1 (.sl 46 3 (x7.map Qam))),(12,.p (.sl false (p2.map Qaa))),(13,.p (iV (p2.length:Int))),(14,.p (iV v14)),(34,.p (iV x4.Kind)),(43,.p (bV o13))],⟨[[.p (.sl false (h0_0.map Qaf)),.mh 1,.p (sV h0_2_),.p (bV h0_3_),.fn (.func 64) [] [.ptr 2 0]],[mpD (fun x =>.agg (Qap x)) iV h1_0_],[.p (iV h2_0_)],[.p (iV x4.Kind),.p (sV x4.Name),.p (sV x4.Text),.p (iV x4.N),.p (.sl false (x4.L.map Qaa)),.p (.sl false (x4.Then.map Qaa)),.p (.sl false (x4.Else.map Qaa))]],[1]⟩⟩
def Qby (p1:(List UInt8)) (p2:(List Qab)) (p3:(List Qah)) (h0_0:(List Qae)) (v14:Int) (h0_2_:(List UInt8)) (h0_3_:Bool) (h1_0_:(List (Qag×Int))) (h2_0_:Int):St:=⟨[(0,.ptr 0 0),(1,.p (sV p1)),(3,.p (.sl false (p3.map Qam))),(12,.p (.sl false (p2.map Qaa))),(13,.p (iV (p2.length:Int))),(14,.p (iV v14))],⟨[[.p (.sl false (h0_0.map Qaf)),.mh 1,.p (sV h0_2_),.p (bV h0_3_),.fn (.func 64) [] [.ptr 2 0]],[mpD (fun x =>.agg (Qap x)) iV h1_0_],[.p (iV h2_0_)]],[]⟩⟩
def Qge (p1:(List UInt8)) (p2:(List Qab)) (p3:(List Qah)) (h0_0:(List Qae)) (y2:(List UInt8)×Bool×(List (Qag×Int))×Int):St:=⟨[],⟨[[.p (.sl false (h0_0.map Qaf)),.mh 1,.p (sV y2.1),.p (bV y2.2.1),.fn (.func 64) [] [.ptr 2 0]],[mpD (fun x =>.agg (Qap x)) iV y2.2.2.1],[.p (iV y2.2.2.2)]],[]⟩⟩
def Qgf (p1:(List UInt8)) (p2:(List Qab)) (p3:(List Qah)) (h0_0:(List Qae)) (y3:(List UInt8)×Bool×(List (Qag×Int))×Int):St:=⟨[],⟨[[.p (.sl false (h0_0.map Qaf)),.mh 1,.p (sV y3.1),.p (bV y3.2.1),.fn (.func 64) [] [.ptr 2 0]],[mpD (fun x =>.agg (Qap x)) iV y3.2.2.1],[.p (iV y3.2.2.2)]],[]⟩⟩
def Qnu:Code:=((Qaz (Tryz.f85.body.getD .skip)).getD 0 .skip)
def Qhx (_:(List UInt8)×Bool×(List (Qag×Int))):D :=.tup []
def Qtv:List (Nat×List Nat):=[(0,[0,3]),(1,[0,3,12]),(2,[0,3]),(3,[0,3,4]),(4,[]),(5000001,[2005]),(9000002,[5,0,0,0]),(9800002,[5]),(7000002,[0,3,16,17])]
def Qgb (_:(List UInt8)×Bool×(List (Qag×Int))×Int):D :=.tup []
def Qqx:List (Nat×List Nat):=[(0,[0,3]),(1,[0,3,12]),(2,[0,3]),(3,[0,3,4]),(4,[]),(5000001,[2005]),(9000002,[5,0,0,0]),(9800002,[5]),(7000002,[0,3,16,17])]
def Qc0 (y:(List Qah)):D :=.x 0 1 (.sl 46 3 (y.map Qam))
def Qjm:List (Nat×List Nat):=[(0,[0]),(1,[0,4]),(2,[2]),(3,[2]),(9000001,[1,0,0,0]),(9000003,[2,0,0,0])]
def Qbv (y:Bool):D :=.p (bV y)
def Qdn:List (Nat×List Nat):=[(0,[0,1]),(1,[4])]
def Qbj (y:Int):D :=.p (iV y)
def Qb2:List (Nat×List Nat):=[(0,[0,1]),(1,[0,1,7,8]),(2,[0,1,7,8,9]),(3,[0,1,5,7,8]),(4,[0,1,5,7,8,16]),(5,[4]),(6,[0,1,7,8]),(7,[4]),(1000002,[0,1,7,8])]
def Qbe (p0:(List Qab)) (h0_0:(List Qah)) (v8:Int):St:=⟨[(0,.p (.sl false (p0.map Qaa))),(1,.fn (.func 57) [] [.ptr 0 0]),(7,.p (iV (p0.length:Int))),(8,.p (iV v8))],⟨[[.p (.sl false (h0_0.map Qam))]],[]⟩⟩
def Qbt (p0:(List Qab)) (h0_0:(List Qah)) (y2:Unit):St:=⟨[],⟨[[.p (.sl false (h0_0.map Qam))]],[]⟩⟩
def Qbu (p0:(List Qab)) (h0_0:(List Qah)) (y3:Int):St:=⟨[(4,.p (iV y3))],⟨[[.p (.sl false (h0_0.map Qam))]],[]⟩⟩
def Qdp:Code:=((Qaz (Tryz.f83.body.getD .skip)).getD 0 .skip)
def Qui (p0:(List UInt8)):Option (Int×Bool) :=
 need (p0.length≤9223372036854775807)>>=fun _ =>
 some (Q1u p0)
theorem Q89:∀ (p0:(List UInt8)) (o:Int×Bool),Qui p0=some o→PCall Tryz.prog 160 [sV p0] (Qzh o):=by
 intro p0 o h;unfold Qui at h;obtain⟨h1,h⟩:=Qabi h;cases h;exact Qahq _ h1
def Qxt (p0:Int):Option (Bool) :=
 ( if(p0==32) then
   some true
  else
   if(p0==9) then
    some true
   else
    if(p0==10) then
     some true
    else
     some (p0==13):Option (Bool))>>=fun o1 =>
 some o1
theorem Qacq:∀ (p0:Int) (o:Bool),Qxt p0=some o→PCall Tryz.prog 158 [nV .u8 p0] (Qwb o):=by
 intro p0 o h;unfold Qxt at h;refine PCall.ofB mixed tbOk Qacf Tryz.func158 rfl (by kernel_rfl) (Nat.le_of_ble_eq_true rfl) ?_;refine Qaj h (fun o1 ho hk=>?_);refine Exists.intro (JP1 _ _ o1 .normal (Q4q )) (And.intro ?_ (Qa4 ?_))
 ·have h:=ho;refine Qac h (fun hb h=>?_) (fun hb h=>?_)
  ·refine bT ?_;refine bT ?_;refine JP1.a h ?_;exact Le.tz 0 0 rfl rfl rfl
  ·refine Qac h (fun hb h=>?_) (fun hb h=>?_)
   ·refine bT ?_;refine JP1.a h ?_;exact Le.tz 0 0 rfl rfl rfl
   ·refine Qac h (fun hb h=>?_) (fun hb h=>?_)
    ·refine JP1.a h ?_;exact Le.tz 0 0 rfl rfl rfl
    ·refine JP1.a h ?_;exact Le.tz 0 0 rfl rfl rfl
 ·have h:=hk;refine Qas (t:=Qwb) h ?_;exact .refl _
def Qft (p0:(List UInt8)) (v1:Int):Option (Int) :=
 ( if(decide (v1<(p0.length:Int))) then
   idx p0 v1>>=fun x3 =>
   Qxt (x3.toNat:Int)>>=fun x4 =>
   some x4
  else
   some false:Option (Bool))>>=fun o2 =>
 if o2 then
  Qft p0 (wr (v1+1))
 else
  some v1
 partial_fixpoint
theorem Qahz:∀ (p0:(List UInt8)),(∀ (v1:Int) (o1:Int),Qft p0 v1=some o1→TL (0,0) Tryz.prog 18 Q2q (JP1 (0,0) 18 o1 (.exit 0) (Qrm p0)) (Ql6 p0 v1)):=by
 intro p0;refine Qft.partial_correctness p0 _ ?_;intro Qft' iQft v1 o1 h;refine TL.round (Qar mixed tbOk (lv:=Qxf) _ _ _ ?_);refine Qaj h (fun o2 ho hk=>?_);refine Exists.intro (JP1 _ _ o2 .normal (Q2p p0 v1)) (And.intro ?_ (Qa4 ?_))
 ·have h:=ho;refine vrfl ?_;refine Qac h (fun hb h=>?_) (fun hb h=>?_)
  ·refine Qde h (fun x3 hi h=>?_);refine Qan [nV .u8 (x3.toNat:Int)] Qwb h (fun x4 hy=>(Qacq (x3.toNat:Int) x4 hy)) (fun x4 hy h=>?_);refine JP1.a h ?_;exact Le.tz 0 0 rfl rfl rfl
  ·refine JP1.a h ?_;exact Le.tz 0 0 rfl rfl rfl
 ·have h:=hk;refine Qac h (fun hb h=>?_) (fun hb h=>?_)
  ·refine TL.le (τ := Ql6 p0 (wr (v1+1))) ?_ ((iQft (wr (v1+1)) _ h));exact Le.tz 0 0 rfl rfl rfl
  ·exact JP1.a h (Le.tz 0 0 rfl rfl rfl)
def Qkt (p0:(List UInt8)) (p1:Int):Option (Int) :=
 (Qft p0 p1)>>=fun o1 =>
 some o1
theorem Qxu:∀ (p0:(List UInt8)) (p1:Int) (o:Int),Qkt p0 p1=some o→PCall Tryz.prog 140 [sV p0,iV p1] (Qn9 o):=by
 intro p0 p1 o h;unfold Qkt at h;refine PCall.ofB mixed tbOk Qxf Tryz.func140 rfl (by kernel_rfl) (Nat.le_of_ble_eq_true rfl) ?_;refine Qaj h (fun o1 ho hk=>?_);refine Exists.intro (JP1 _ _ o1 (.exit 0) (Qrm p0)) (And.intro (Qhe (τ := Ql6 p0 p1) ?_ (TL.loop (Qahz p0 p1 o1 ho))) (Qa4 ?_))
 ·exact Le.tz 0 0 rfl rfl rfl
 have h:=hk;refine Qas (t:=Qn9) h ?_;exact .refl _
def Qku (p0:(List UInt8)) (p1:Int) (x1:UInt8) (v9:Int):Option (Unit⊕(Int×Int)) :=
 if(decide (v9<([46,40,41,44,61].length:Int))) then
  idx ([46,40,41,44,61]:List UInt8) v9>>=fun x6 =>
  if((x6.toNat:Int)==(x1.toNat:Int)) then
   idx ([7,8,9,10,11]:List Int) v9>>=fun x7 =>
   some (.inr (x7,x7))
  else
   Qku p0 p1 x1 (wr (v9+1))
 else
  some (.inl ())
 partial_fixpoint
theorem Qalo:∀ (p0:(List UInt8)) (p1:Int) (x1:UInt8),(∀ (v9:Int) (o3:Unit⊕(Int×Int)),Qku p0 p1 x1 v9=some o3→TL (0,0) Tryz.prog 133 Qacg (JP2 (0,0) 133 o3 (.exit 0) (Qxg p0 p1 x1) .ret (Qxh p0 p1 x1)) (Qqt p0 p1 x1 v9)):=by
 intro p0 p1 x1;refine Qku.partial_correctness p0 p1 x1 _ ?_;intro Qku' iQku v9 o3 h;refine TL.round (Qar mixed tbOk (lv:=Quh) _ _ _ ?_);refine vrfl ?_;refine Qac h (fun hb h=>?_) (fun hb h=>?_)
 ·refine Qde h (fun x6 hi h=>?_);refine Qac h (fun hb h=>?_) (fun hb h=>?_)
  ·refine Qa8 (l:=[7,8,9,10,11]) (c:=cInt) (c' := cInt) h (fun _=>rfl) (fun _=>rfl) (by decide) (fun x7 hi h=>?_);exact JP2.b h (Le.tz 2 0 rfl rfl rfl)
  ·refine TL.le (τ := Qqt p0 p1 x1 (wr (v9+1))) ?_ ((iQku (wr (v9+1)) _ h));exact Le.tz 2 0 rfl rfl rfl
 ·exact JP2.a h (Le.tz 2 0 rfl rfl rfl)
def Qkv (p0:(List UInt8)) (p1:Int) (v12:Int):Option (Int) :=
 ( if(decide (v12<(p0.length:Int))) then
   idx p0 v12>>=fun x12 =>
   Qf1 (x12.toNat:Int)>>=fun x13 =>
   if x13 then
    some true
   else
    idx p0 v12>>=fun x14 =>
    Qf0 (x14.toNat:Int)>>=fun x15 =>
    if x15 then
     some true
    else
     idx p0 v12>>=fun x16 =>
     some ((x16.toNat:Int)==95)
  else
   some false:Option (Bool))>>=fun o11 =>
 if o11 then
  Qkv p0 p1 (wr (v12+1))
 else
  some v12
 partial_fixpoint
theorem Qalp:∀ (p0:(List UInt8)) (p1:Int),(∀ (v12:Int) (o10:Int),Qkv p0 p1 v12=some o10→TL (0,0) Tryz.prog 133 Qaci (JP1 (0,0) 133 o10 (.exit 2) (Qxi p0 p1)) (Qqu p0 p1 v12)):=by
 intro p0 p1;refine Qkv.partial_correctness p0 p1 _ ?_;intro Qkv' iQkv v12 o10 h;refine TL.round (Qar mixed tbOk (lv:=Quh) _ _ _ ?_);refine Qaj h (fun o11 ho hk=>?_);refine Exists.intro (JP1 _ _ o11 .normal (Qach p0 p1 v12)) (And.intro ?_ (Qa4 ?_))
 ·have h:=ho;refine vrfl ?_;refine Qac h (fun hb h=>?_) (fun hb h=>?_)
  ·refine Qde h (fun x12 hi h=>?_);refine Qan [nV .u8 (x12.toNat:Int)] Qke h (fun x13 hy=>(Qn8 (x12.toNat:Int) x13 hy)) (fun x13 hy h=>?_);refine Qac h (fun hb h=>?_) (fun hb h=>?_)
   ·refine bT ?_;refine JP1.a h ?_;exact Le.tz 2 0 rfl rfl rfl
   ·refine Qde h (fun x14 hi h=>?_);refine Qan [nV .u8 (x14.toNat:Int)] Qkd h (fun x15 hy=>(Qn7 (x14.toNat:Int) x15 hy)) (fun x15 hy h=>?_);refine Qac h (fun hb h=>?_) (fun hb h=>?_)
    ·refine JP1.a h ?_;exact Le.tz 2 0 rfl rfl rfl
    ·refine Qde h (fun x16 hi h=>?_);refine JP1.a h ?_;exact Le.tz 2 0 rfl rfl rfl
  ·refine JP1.a h ?_;exact Le.tz 2 0 rfl rfl rfl
 ·have h:=hk;refine Qac h (fun hb h=>?_) (fun hb h=>?_)
  ·refine TL.le (τ := Qqu p0 p1 (wr (v12+1))) ?_ ((iQkv (wr (v12+1)) _ h));exact Le.tz 2 0 rfl rfl rfl
  ·exact JP1.a h (Le.tz 2 0 rfl rfl rfl)
def Qkw (p0:(List UInt8)) (p1:Int) (v12:Int):Option (Int) :=
 ( if(decide (v12<(p0.length:Int))) then
   idx p0 v12>>=fun x24 =>
   Qf0 (x24.toNat:Int)>>=fun x25 =>
   some x25
  else
   some false:Option (Bool))>>=fun o23 =>
 if o23 then
  Qkw p0 p1 (wr (v12+1))
 else
  some v12
 partial_fixpoint
theorem Qalq:∀ (p0:(List UInt8)) (p1:Int),(∀ (v12:Int) (o22:Int),Qkw p0 p1 v12=some o22→TL (0,0) Tryz.prog 133 Qacl (JP1 (0,0) 133 o22 (.exit 4) (Qxj p0 p1)) (Qqv p0 p1 v12)):=by
 intro p0 p1;refine Qkw.partial_correctness p0 p1 _ ?_;intro Qkw' iQkw v12 o22 h;refine TL.round (Qar mixed tbOk (lv:=Quh) _ _ _ ?_);refine Qaj h (fun o23 ho hk=>?_);refine Exists.intro (JP1 _ _ o23 .normal (Qack p0 p1 v12)) (And.intro ?_ (Qa4 ?_))
 ·have h:=ho;refine vrfl ?_;refine Qac h (fun hb h=>?_) (fun hb h=>?_)
  ·refine Qde h (fun x24 hi h=>?_);refine Qan [nV .u8 (x24.toNat:Int)] Qkd h (fun x25 hy=>(Qn7 (x24.toNat:Int) x25 hy)) (fun x25 hy h=>?_);refine JP1.a h ?_;exact Le.tz 2 0 rfl rfl rfl
  ·refine JP1.a h ?_;exact Le.tz 2 0 rfl rfl rfl
 ·have h:=hk;refine Qac h (fun hb h=>?_) (fun hb h=>?_)
  ·refine TL.le (τ := Qqv p0 p1 (wr (v12+1))) ?_ ((iQkw (wr (v12+1)) _ h));exact Le.tz 2 0 rfl rfl rfl
  ·exact JP1.a h (Le.tz 2 0 rfl rfl rfl)
def Qdd (p0:(List UInt8)) (v1:Int) (v6:(List UInt8)):Option (Unit⊕((List UInt8)×Int)) :=
 if(decide (v1<(p0.length:Int))) then
  idx p0 v1>>=fun x4 =>
  if((x4.toNat:Int)==34) then
   some (.inr (v6,(wr (v1+1))))
  else
   idx p0 v1>>=fun x5 =>
   if((x5.toNat:Int)==92) then
    if((wr (v1+1))==(p0.length:Int)) then
     some (.inr ([],(-1)))
    else
     ( idx p0 (wr (v1+1))>>=fun x7 =>
      some (x7.toNat:Int):Option (Int))>>=fun o6 =>
     if(o6==110) then
      need (v6.length+[10].length≤9223372036854775807)>>=fun _ =>
      Qdd p0 (wr (v1+2)) (v6++[10])
     else
      if(o6==116) then
       need (v6.length+[9].length≤9223372036854775807)>>=fun _ =>
       Qdd p0 (wr (v1+2)) (v6++[9])
      else
       ( if(o6==34) then
         some true
        else
         some (o6==92):Option (Bool))>>=fun o8 =>
       if o8 then
        cutL p0 (wr (v1+1)) (wr (v1+2))>>=fun x9 =>
        need (v6.length+x9.length≤9223372036854775807)>>=fun _ =>
        Qdd p0 (wr (v1+2)) (v6++x9)
       else
        some (.inr ([],(-1)))
   else
    Qmg p0 v1>>=fun x10 =>
    ( if(x10.1==10) then
      some true
     else
      if(x10.1==13) then
       some true
      else
       if(x10.1==65533) then
        some (x10.2==1)
       else
        some false:Option (Bool))>>=fun o11 =>
    if o11 then
     some (.inr ([],(-1)))
    else
     cutL p0 v1 (wr (v1+x10.2))>>=fun x12 =>
     need (v6.length+x12.length≤9223372036854775807)>>=fun _ =>
     Qdd p0 (wr (v1+x10.2)) (v6++x12)
 else
  some (.inl ())
 partial_fixpoint
theorem Qah0:∀ (p0:(List UInt8)),(∀ (v1:Int) (v6:(List UInt8)) (o1:Unit⊕((List UInt8)×Int)),Qdd p0 v1 v6=some o1→TL (0,0) Tryz.prog 91 Q2v (JP2 (0,0) 91 o1 (.exit 0) (Qrn p0) .ret (Qro p0)) (Qeg p0 v1 v6)):=by
 intro p0;refine Qdd.partial_correctness p0 _ ?_;intro Qdd' iQdd v1 v6 o1 h;refine TL.round (Qar mixed tbOk (lv:=Qxk) _ _ _ ?_);refine vrfl ?_;refine Qac h (fun hb h=>?_) (fun hb h=>?_)
 ·refine Qde h (fun x4 hi h=>?_);refine Qac h (fun hb h=>?_) (fun hb h=>?_)
  ·exact JP2.b h (Le.tz 0 0 rfl rfl rfl)
  ·refine Qde h (fun x5 hi h=>?_);refine Qac h (fun hb h=>?_) (fun hb h=>?_)
   ·refine vrfl ?_;refine Qac h (fun hb h=>?_) (fun hb h=>?_)
    ·exact JP2.b h (Le.tz 0 0 rfl rfl rfl)
    ·refine Qaj h (fun o6 ho hk=>?_);refine Exists.intro (JP1 _ _ o6 .normal (Q2s p0 v1 v6)) (And.intro ?_ (Qa4 ?_))
     ·have h:=ho;refine Qde h (fun x7 hi h=>?_);refine JP1.a h ?_;exact Le.tz 0 0 rfl rfl rfl
     ·have h:=hk;refine Qac h (fun hb h=>?_) (fun hb h=>?_)
      ·refine Qsc h (fun h=>?_);refine TL.le (τ := Qeg p0 (wr (v1+2)) (v6++[10])) ?_ ((iQdd (wr (v1+2)) (v6++[10]) _ h));exact Le.tz 0 0 rfl rfl rfl
      ·refine Qac h (fun hb h=>?_) (fun hb h=>?_)
       ·refine Qsc h (fun h=>?_);refine TL.le (τ := Qeg p0 (wr (v1+2)) (v6++[9])) ?_ ((iQdd (wr (v1+2)) (v6++[9]) _ h));exact Le.tz 0 0 rfl rfl rfl
       ·refine Qaj h (fun o8 ho hk=>?_);refine Exists.intro (JP1 _ _ o8 .normal (Q2t p0 v1 v6)) (And.intro ?_ (Qa4 ?_))
        ·have h:=ho;refine Qac h (fun hb h=>?_) (fun hb h=>?_)
         ·refine JP1.a h ?_;exact Le.tz 0 0 rfl rfl rfl
         ·refine JP1.a h ?_;exact Le.tz 0 0 rfl rfl rfl
        ·have h:=hk;refine Qac h (fun hb h=>?_) (fun hb h=>?_)
         ·refine Qi3 (some (wr (v1+1))) (some (wr (v1+2))) h (fun x9 hi h=>?_);refine Qsc h (fun h=>?_);refine TL.le (τ := Qeg p0 (wr (v1+2)) (v6++x9)) ?_ ((iQdd (wr (v1+2)) (v6++x9) _ h));exact Le.tz 0 0 rfl rfl rfl
         ·exact JP2.b h (Le.tz 0 0 rfl rfl rfl)
   ·refine Qan [sV p0,iV v1] Qmo h (fun x10 hy=>(Q2h p0 v1 x10 hy)) (fun x10 hy h=>?_);refine Qaj h (fun o11 ho hk=>?_);refine Exists.intro (JP1 _ _ o11 .normal (Q2u p0 v1 v6 x10)) (And.intro ?_ (Qa4 ?_))
    ·have h:=ho;refine Qac h (fun hb h=>?_) (fun hb h=>?_)
     ·refine bT ?_;refine JP1.a h ?_;exact Le.tz 0 0 rfl rfl rfl
     ·refine Qac h (fun hb h=>?_) (fun hb h=>?_)
      ·refine JP1.a h ?_;exact Le.tz 0 0 rfl rfl rfl
      ·refine Qac h (fun hb h=>?_) (fun hb h=>?_)
       ·refine JP1.a h ?_;exact Le.tz 0 0 rfl rfl rfl
       ·refine JP1.a h ?_;exact Le.tz 0 0 rfl rfl rfl
    ·have h:=hk;refine Qac h (fun hb h=>?_) (fun hb h=>?_)
     ·exact JP2.b h (Le.tz 0 0 rfl rfl rfl)
     ·refine Qi3 (some v1) (some (wr (v1+x10.2))) h (fun x12 hi h=>?_);refine Qsc h (fun h=>?_);refine TL.le (τ := Qeg p0 (wr (v1+x10.2)) (v6++x12)) ?_ ((iQdd (wr (v1+x10.2)) (v6++x12) _ h));exact Le.tz 0 0 rfl rfl rfl
 ·exact JP2.a h (Le.tz 0 0 rfl rfl rfl)
def Qmr (p0:(List UInt8)) (p1:Int):Option ((List UInt8)×Int) :=
 (Qdd p0 (wr (p1+1)) [])>>=fun o1 =>
 match o1 with
 | .inl y2 =>
  some ([],(-1))
 | .inr y3 =>
  some (y3.1,y3.2)
theorem Q9a:∀ (p0:(List UInt8)) (p1:Int) (o:(List UInt8)×Int),Qmr p0 p1=some o→PCall Tryz.prog 159 [sV p0,iV p1] (Qoa o):=by
 intro p0 p1 o h;unfold Qmr at h;refine PCall.ofB mixed tbOk Qxk Tryz.func159 rfl (by kernel_rfl) (Nat.le_of_ble_eq_true rfl) ?_;refine Qaj h (fun o1 ho hk=>?_);refine Exists.intro (JP2 _ _ o1 (.exit 0) (Qrn p0) .ret (Qro p0)) (And.intro (Qhe (τ := Qeg p0 (wr (p1+1)) []) ?_ (TL.loop (Qah0 p0 (wr (p1+1)) [] o1 ho))) (Qfg (fun y2 hy=>?_) (fun y3 hy=>?_)))
 ·exact Le.tz 0 0 rfl rfl rfl
 ·have h:=(by rw[hy] at hk; exact hk);refine Qas (t:=Qoa) h ?_;exact .refl _
 ·have h:=(by rw[hy] at hk; exact hk);refine Qas (t:=Qoa) h ?_;exact .refl _
def Qyr (p0:(List UInt8)) (p1:Int):Option (Qak×Bool) :=
 idx p0 p1>>=fun x1 =>
 Qe3 p0 [125,125] p1>>=fun x2 =>
 if x2 then
  some ((Qak.mk 3 [] 0 p1 (wr (p1+2))),true)
 else
  (Qku p0 p1 x1 0)>>=fun o3 =>
  match o3 with
  | .inl y4 =>
   if((x1.toNat:Int)==34) then
    Qmr p0 p1>>=fun x8 =>
    some ((Qak.mk 5 x8.1 0 p1 x8.2),(decide (x8.2>0)))
   else
    Qf1 (x1.toNat:Int)>>=fun x9 =>
    if x9 then
     (Qkv p0 p1 (wr (p1+1)))>>=fun o10 =>
     cutL p0 p1 o10>>=fun x17 =>
     cutL p0 p1 o10>>=fun x18 =>
     Qia x18>>=fun x19 =>
     some ((Qak.mk 4 x17 0 p1 o10),x19)
    else
     ( if((x1.toNat:Int)==45) then
       some true
      else
       Qf0 (x1.toNat:Int)>>=fun x21 =>
       some x21:Option (Bool))>>=fun o20 =>
     if o20 then
      (Qkw p0 p1 (wr (p1+1)))>>=fun o22 =>
      cutL p0 p1 o22>>=fun x26 =>
      Qui x26>>=fun x27 =>
      some ((Qak.mk 6 [] x27.1 p1 o22),x27.2)
     else
      some ((Qak.mk 0 [] 0 p1 (wr (p1+1))),false)
  | .inr y5 =>
   some ((Qak.mk y5.1 [] 0 p1 (wr (p1+1))),true)
theorem Qah1:∀ (p0:(List UInt8)) (p1:Int) (o:Qak×Bool),Qyr p0 p1=some o→PCall Tryz.prog 142 [sV p0,iV p1] (Qlm o):=by
 intro p0 p1 o h;unfold Qyr at h;refine PCall.ofB mixed tbOk Quh Tryz.func142 rfl (by kernel_rfl) (Nat.le_of_ble_eq_true rfl) ?_;refine Qde h (fun x1 hi h=>?_);refine Qan [sV p0,sV [125,125],iV p1] Qit h (fun x2 hy=>(Qmf p0 [125,125] p1 x2 hy)) (fun x2 hy h=>?_);refine Qac h (fun hb h=>?_) (fun hb h=>?_)
 ·refine Qas (t:=Qlm) h ?_;exact .refl _
 ·refine Qaj h (fun o3 ho hk=>?_);refine Exists.intro (JP2 _ _ o3 (.exit 0) (Qxg p0 p1 x1) .ret (Qxh p0 p1 x1)) (And.intro (Qhe (τ := Qqt p0 p1 x1 0) ?_ (TL.loop (Qalo p0 p1 x1 0 o3 ho))) (Qfg (fun y4 hy=>?_) (fun y5 hy=>?_)))
  ·exact Le.tz 2 0 rfl rfl rfl
  ·have h:=(by rw[hy] at hk; exact hk);refine Qac h (fun hb h=>?_) (fun hb h=>?_)
   ·refine Qan [sV p0,iV p1] Qoa h (fun x8 hy=>(Q9a p0 p1 x8 hy)) (fun x8 hy h=>?_);refine Qas (t:=Qlm) h ?_;exact .refl _
   ·refine Qan [nV .u8 (x1.toNat:Int)] Qke h (fun x9 hy=>(Qn8 (x1.toNat:Int) x9 hy)) (fun x9 hy h=>?_);refine Qac h (fun hb h=>?_) (fun hb h=>?_)
    ·refine Qaj h (fun o10 ho hk=>?_);refine Exists.intro (JP1 _ _ o10 (.exit 2) (Qxi p0 p1)) (And.intro (Qhe (τ := Qqu p0 p1 (wr (p1+1))) ?_ (TL.loop (Qalp p0 p1 (wr (p1+1)) o10 ho))) (Qa4 ?_))
     ·exact Le.tz 2 0 rfl rfl rfl
     have h:=hk;refine And.intro (by decide +kernel) (And.intro rfl ?_);refine Qi3 (some p1) (some o10) h (fun x17 hi h=>?_);refine Qi3 (some p1) (some o10) h (fun x18 hi h=>?_);refine Qdk [sV x18] Qhi h (fun x19 hy=>(Qnj x18 x19 hy)) (fun x19 hy h=>?_);refine Qas (t:=Qlm) h ?_;exact .refl _
    ·refine Qaj h (fun o20 ho hk=>?_);refine Exists.intro (JP1 _ _ o20 .normal (Qacj p0 p1)) (And.intro ?_ (Qa4 ?_))
     ·have h:=ho;refine Qac h (fun hb h=>?_) (fun hb h=>?_)
      ·refine JP1.a h ?_;exact Le.tz 2 0 rfl rfl rfl
      ·refine Qan [nV .u8 (x1.toNat:Int)] Qkd h (fun x21 hy=>(Qn7 (x1.toNat:Int) x21 hy)) (fun x21 hy h=>?_);refine JP1.a h ?_;exact Le.tz 2 0 rfl rfl rfl
     ·have h:=hk;refine Qac h (fun hb h=>?_) (fun hb h=>?_)
      ·refine Qaj h (fun o22 ho hk=>?_);refine Exists.intro (JP1 _ _ o22 (.exit 4) (Qxj p0 p1)) (And.intro (Qhe (τ := Qqv p0 p1 (wr (p1+1))) ?_ (TL.loop (Qalq p0 p1 (wr (p1+1)) o22 ho))) (Qa4 ?_))
       ·exact Le.tz 2 0 rfl rfl rfl
       have h:=hk;refine Qi3 (some p1) (some o22) h (fun x26 hi h=>?_);refine Qan [sV x26] Qzh h (fun x27 hy=>(Q89 x26 x27 hy)) (fun x27 hy h=>?_);refine Qas (t:=Qlm) h ?_;exact .refl _
      ·refine Qas (t:=Qlm) h ?_;exact .refl _
  ·have h:=(by rw[hy] at hk; exact hk);refine Qas (t:=Qlm) h ?_;exact .refl _
def Qfu (p0:(List UInt8)) (v5_:(List Qak)) (v6_:Int):Option (((List Qak)×Int)⊕Int) :=
 Qkt p0 v6_>>=fun x16 =>
 if(x16==(p0.length:Int)) then
  some (.inr x16)
 else
  Qyr p0 x16>>=fun x17 =>
  if(!x17.2) then
   some (.inr x16)
  else
   appL 48 v5_ [x17.1]>>=fun x18 =>
   if(x17.1.Kind==3) then
    some (.inl (x18,x17.1.To))
   else
    Qfu p0 x18 x17.1.To
 partial_fixpoint
theorem Qah2:∀ (p0:(List UInt8)),(∀ (v5_:(List Qak)) (v6_:Int) (o13:((List Qak)×Int)⊕Int),Qfu p0 v5_ v6_=some o13→TL (0,0) Tryz.prog 83 Q2n (JP2 (0,0) 83 o13 (.exit 2) (Qri p0) .ret (Qrj p0)) (Ql4 p0 v5_ v6_)):=by
 intro p0;refine Qfu.partial_correctness p0 _ ?_;intro Qfu' iQfu v5_ v6_ o13 h;refine TL.round (Qar mixed tbOk (lv:=Qqs) _ _ _ ?_);refine Qan [sV p0,iV v6_] Qn9 h (fun x16 hy=>(Qxu p0 v6_ x16 hy)) (fun x16 hy h=>?_);refine vrfl ?_;refine Qac h (fun hb h=>?_) (fun hb h=>?_)
 ·exact JP2.b h (Le.tz 0 0 rfl rfl rfl)
 ·refine Qan [sV p0,iV x16] Qlm h (fun x17 hy=>(Qah1 p0 x16 x17 hy)) (fun x17 hy h=>?_);refine Qac h (fun hb h=>?_) (fun hb h=>?_)
  ·exact JP2.b h (Le.tz 0 0 rfl rfl rfl)
  ·refine Qi4 (a:=v5_) (b:=[x17.1]) (c:=Qai) h (.refl _) (fun _=>rfl) rfl (fun x18 hi h=>?_);refine Qac h (fun hb h=>?_) (fun hb h=>?_)
   ·exact JP2.a h (Le.tz 0 1 rfl rfl rfl)
   ·refine TL.le (τ := Ql4 p0 x18 x17.1.To) ?_ ((iQfu x18 x17.1.To _ h));exact Le.tz 0 1 rfl rfl rfl
def Qim (p0:(List UInt8)) (p1:(List UInt8)) (v2:Int):Option (Int) :=
 ( if(decide (v2<(p0.length:Int))) then
   Qe3 p0 p1 v2>>=fun x3 =>
   some (!x3)
  else
   some false:Option (Bool))>>=fun o2 =>
 if o2 then
  Qim p0 p1 (wr (v2+1))
 else
  some v2
 partial_fixpoint
theorem Qako:∀ (p0:(List UInt8)) (p1:(List UInt8)),(∀ (v2:Int) (o1:Int),Qim p0 p1 v2=some o1→TL (0,0) Tryz.prog 21 Q86 (JP1 (0,0) 21 o1 (.exit 0) (Qvq p0 p1)) (Qoz p0 p1 v2)):=by
 intro p0 p1;refine Qim.partial_correctness p0 p1 _ ?_;intro Qim' iQim v2 o1 h;refine TL.round (Qar mixed tbOk (lv:=Q2r) _ _ _ ?_);refine Qaj h (fun o2 ho hk=>?_);refine Exists.intro (JP1 _ _ o2 .normal (Q85 p0 p1 v2)) (And.intro ?_ (Qa4 ?_))
 ·have h:=ho;refine vrfl ?_;refine Qac h (fun hb h=>?_) (fun hb h=>?_)
  ·refine Qan [sV p0,sV p1,iV v2] Qit h (fun x3 hy=>(Qmf p0 p1 v2 x3 hy)) (fun x3 hy h=>?_);refine JP1.a h ?_;exact Le.tz 0 0 rfl rfl rfl
  ·refine JP1.a h ?_;exact Le.tz 0 0 rfl rfl rfl
 ·have h:=hk;refine Qac h (fun hb h=>?_) (fun hb h=>?_)
  ·refine TL.le (τ := Qoz p0 p1 (wr (v2+1))) ?_ ((iQim (wr (v2+1)) _ h));exact Le.tz 0 0 rfl rfl rfl
  ·exact JP1.a h (Le.tz 0 0 rfl rfl rfl)
def Qqy (p0:(List UInt8)) (p1:(List UInt8)) (p2:Int):Option (Int) :=
 (Qim p0 p1 p2)>>=fun o1 =>
 some o1
theorem Q2x:∀ (p0:(List UInt8)) (p1:(List UInt8)) (p2:Int) (o:Int),Qqy p0 p1 p2=some o→PCall Tryz.prog 139 [sV p0,sV p1,iV p2] (Qug o):=by
 intro p0 p1 p2 o h;unfold Qqy at h;refine PCall.ofB mixed tbOk Q2r Tryz.func139 rfl (by kernel_rfl) (Nat.le_of_ble_eq_true rfl) ?_;refine Qaj h (fun o1 ho hk=>?_);refine Exists.intro (JP1 _ _ o1 (.exit 0) (Qvq p0 p1)) (And.intro (Qhe (τ := Qoz p0 p1 p2) ?_ (TL.loop (Qako p0 p1 p2 o1 ho))) (Qa4 ?_))
 ·exact Le.tz 0 0 rfl rfl rfl
 have h:=hk;refine Qas (t:=Qug) h ?_;exact .refl _
def Qfv (p0:(List UInt8)) (v5:(List Qak)) (v6:Int):Option ((List Qak)⊕((List Qak)×Int×Int)) :=
 if(decide (v6<(p0.length:Int))) then
  Qqy p0 [123,123] v6>>=fun x4 =>
  ( if(decide (x4>v6)) then
    cutL p0 v6 x4>>=fun x6 =>
    appL 48 v5 [(Qak.mk 1 x6 0 v6 x4)]>>=fun x7 =>
    some x7
   else
    some v5:Option ((List Qak)))>>=fun o5 =>
  if(x4==(p0.length:Int)) then
   some (.inr (o5,0,0))
  else
   appL 48 o5 ([(Qak.mk 2 [] 0 x4 (wr (x4+2)))])>>=fun x8 =>
   Qkt p0 (wr (x4+2))>>=fun x9 =>
   ( Qe3 p0 [35] x9>>=fun x11 =>
    if x11 then
     Qqy p0 [125,125] x9>>=fun x12 =>
     some x12
    else
     some x9:Option (Int))>>=fun o10 =>
   (Qfu p0 x8 o10)>>=fun o13 =>
   match o13 with
   | .inl y14 =>
    Qfv p0 y14.1 y14.2
   | .inr y15 =>
    some (.inr ([],y15,7))
 else
  some (.inl v5)
 partial_fixpoint
theorem Qah3:∀ (p0:(List UInt8)),(∀ (v5:(List Qak)) (v6:Int) (o1:(List Qak)⊕((List Qak)×Int×Int)),Qfv p0 v5 v6=some o1→TL (0,0) Tryz.prog 83 Q2o (JP2 (0,0) 83 o1 (.exit 0) (Qrk p0) .ret (Qrl p0)) (Ql5 p0 v5 v6)):=by
 intro p0;refine Qfv.partial_correctness p0 _ ?_;intro Qfv' iQfv v5 v6 o1 h;refine TL.round (Qar mixed tbOk (lv:=Qqs) _ _ _ ?_);refine vrfl ?_;refine Qac h (fun hb h=>?_) (fun hb h=>?_)
 ·refine Qan [sV p0,sV [123,123],iV v6] Qug h (fun x4 hy=>(Q2x p0 [123,123] v6 x4 hy)) (fun x4 hy h=>?_);refine Qaj h (fun o5 ho hk=>?_);refine Exists.intro (JP1 _ _ o5 .normal (Q2l p0 x4)) (And.intro ?_ (Qa4 ?_))
  ·have h:=ho;refine Qac h (fun hb h=>?_) (fun hb h=>?_)
   ·refine Qi3 (some v6) (some x4) h (fun x6 hi h=>?_);refine Qi4 (a:=v5) (b:=[(Qak.mk 1 x6 0 v6 x4)]) (c:=Qai) h (.refl _) (fun _=>rfl) rfl (fun x7 hi h=>?_);refine JP1.a h ?_;exact Le.tz 0 1 rfl rfl rfl
   ·refine JP1.a h ?_;exact Le.tz 0 1 rfl rfl rfl
  ·have h:=hk;refine vrfl ?_;refine Qac h (fun hb h=>?_) (fun hb h=>?_)
   ·exact JP2.b h (Le.tz 0 0 rfl rfl rfl)
   ·refine Qi4 (a:=o5) (b:=[(Qak.mk 2 [] 0 x4 (wr (x4+2)))]) (c:=Qai) h (.refl _) (fun _=>rfl) rfl (fun x8 hi h=>?_);refine Qan [sV p0,iV (wr (x4+2))] Qn9 h (fun x9 hy=>(Qxu p0 (wr (x4+2)) x9 hy)) (fun x9 hy h=>?_);refine Qaj h (fun o10 ho hk=>?_);refine Exists.intro (JP1 _ _ o10 .normal (Q2m p0 x8)) (And.intro ?_ (Qa4 ?_))
    ·have h:=ho;refine Qan [sV p0,sV [35],iV x9] Qit h (fun x11 hy=>(Qmf p0 [35] x9 x11 hy)) (fun x11 hy h=>?_);refine Qac h (fun hb h=>?_) (fun hb h=>?_)
     ·refine Qan [sV p0,sV [125,125],iV x9] Qug h (fun x12 hy=>(Q2x p0 [125,125] x9 x12 hy)) (fun x12 hy h=>?_);refine JP1.a h ?_;exact Le.tz 0 1 rfl rfl rfl
     ·refine JP1.a h ?_;exact Le.tz 0 1 rfl rfl rfl
    ·have h:=hk;refine Qaj h (fun o13 ho hk=>?_);refine Exists.intro (JP2 _ _ o13 (.exit 2) (Qri p0) .ret (Qrj p0)) (And.intro (Qhe (τ := Ql4 p0 x8 o10) ?_ (TL.loop (Qah2 p0 x8 o10 o13 ho))) (Qfg (fun y14 hy=>?_) (fun y15 hy=>?_)))
     ·exact Le.tz 0 1 rfl rfl rfl
     ·have h:=(by rw[hy] at hk; exact hk);refine TL.le (τ := Ql5 p0 y14.1 y14.2) ?_ ((iQfv y14.1 y14.2 _ h));exact Le.tz 0 1 rfl rfl rfl
     ·have h:=(by rw[hy] at hk; exact hk);exact JP2.b h (Le.tow 0 0 rfl (.cons rfl (.p (.not)) (.cons rfl (.refl _) (.cons rfl (.refl _) (.nil)))) (.refl _) rfl)
 ·exact JP2.a h (Le.tz 0 1 rfl rfl rfl)
def Qms (p0:(List UInt8)):Option ((List Qak)×Int×Int) :=
 if(decide ((p0.length:Int)>65536)) then
  some ([],0,6)
 else
  (Qfv p0 [] 0)>>=fun o1 =>
  match o1 with
  | .inl y2 =>
   some (y2,0,0)
  | .inr y3 =>
   some (y3.1,y3.2.1,y3.2.2)
theorem Q9b:∀ (p0:(List UInt8)) (o:(List Qak)×Int×Int),Qms p0=some o→PCall Tryz.prog 115 [sV p0] (Qll o):=by
 intro p0 o h;unfold Qms at h;refine PCall.ofB mixed tbOk Qqs Tryz.func115 rfl (by kernel_rfl) (Nat.le_of_ble_eq_true rfl) ?_;refine vrfl ?_;refine Qac h (fun hb h=>?_) (fun hb h=>?_)
 ·refine Qas (t:=Qll) h ?_;exact .tup (xs:=[.sl true [],iV 0,iV 6]) (ys:=[.sl false [],iV 0,iV 6]) (.cons (.not) (.cons (.refl _) (.cons (.refl _) (.nil))))
 ·refine Qaj h (fun o1 ho hk=>?_);refine Exists.intro (JP2 _ _ o1 (.exit 0) (Qrk p0) .ret (Qrl p0)) (And.intro (Qhe (τ := Ql5 p0 [] 0) ?_ (TL.loop (Qah3 p0 [] 0 o1 ho))) (Qfg (fun y2 hy=>?_) (fun y3 hy=>?_)))
  ·exact Le.trans (τ := ⟨[(0,.p (sV p0)),(5,.p (.sl true [])),(6,.p (iV 0))],⟨[],[]⟩⟩) (Le.tz 0 0 rfl rfl rfl) ((Le.own 5 147 5 rfl Q1p).trans (Le.tz 0 1 rfl rfl rfl))
  ·have h:=(by rw[hy] at hk; exact hk);refine Qas (t:=Qll) h ?_;exact .refl _
  ·have h:=(by rw[hy] at hk; exact hk);refine Qas (t:=Qll) h ?_;exact .refl _
def Qau (p1:Int) (h0_0:(List Qak)) (h0_1:Int) (h0_2:Bool):Option (Bool) :=
 ( if(!h0_2) then
   if(decide (h0_1<(h0_0.length:Int))) then
    idx h0_0 h0_1>>=fun x2 =>
    some (x2.Kind==p1)
   else
    some false
  else
   some false:Option (Bool))>>=fun o1 =>
 some o1
theorem Qa3:∀ (p1:Int) (h0_0:(List Qak)) (h0_1:Int) (h0_2:Bool) (o:Bool),Qau p1 h0_0 h0_1 h0_2=some o→CallOK Tryz.prog 143 [.ptr 0 0,.p (iV p1)] ⟨[[.p (.sl false (h0_0.map Qai)),.p (iV h0_1),.p (bV h0_2)]],[]⟩ (Qd6 o) ⟨[[.p (.sl false (h0_0.map Qai)),.p (iV h0_1),.p (bV h0_2)]],[]⟩:=by
 intro p1 h0_0 h0_1 h0_2 o h;unfold Qau at h;refine CallOK.ofB mixed tbOk Qz3 Tryz.func143 rfl (by kernel_rfl) (Nat.le_of_ble_eq_true rfl) rfl rfl rfl ?_;refine Qaj h (fun o1 ho hk=>?_);refine Exists.intro (JP1 _ _ o1 .normal (Qxl h0_0 h0_1 h0_2)) (And.intro ?_ (Qa4 ?_))
 ·have h:=ho;refine And.intro (by decide +kernel) (And.intro rfl ?_);refine Qac h (fun hb h=>?_) (fun hb h=>?_)
  ·refine view (Qaw _ _) rfl ?_;refine Qac h (fun hb h=>?_) (fun hb h=>?_)
   ·refine Qa8 (l:=h0_0) (c:=Qai) (c' := Qai) h (fun _=>rfl) (fun _=>rfl) (by decide) (fun x2 hi h=>?_);refine JP1.a h ?_;exact Le.tz 1 0 rfl rfl rfl
   ·refine JP1.a h ?_;exact Le.tz 1 0 rfl rfl rfl
  ·refine bF ?_;refine JP1.a h ?_;exact Le.tz 1 0 rfl rfl rfl
 ·have h:=hk;refine Exists.intro _ (And.intro (Le.refl _ _ _) ?_);exact Qbb (t:=Qd6) (ss:=fun o=>⟨[[.p (.sl false (h0_0.map Qai)),.p (iV h0_1),.p (bV h0_2)]],[]⟩) h ⟨[],rfl,.refl _,.refl _,rfl⟩
def Qb8 (p1:(List UInt8)) (h0_0:(List Qak)) (h0_1:Int) (h0_2:Bool):Option (Bool) :=
 ( Qau 2 h0_0 h0_1 h0_2>>=fun x2 =>
  if x2 then
   if(decide ((wr (h0_1+1))<(h0_0.length:Int))) then
    idx h0_0 (wr (h0_1+1))>>=fun x3 =>
    if(x3.Kind==4) then
     idx h0_0 (wr (h0_1+1))>>=fun x4 =>
     some (x4.Text==p1)
    else
     some false
   else
    some false
  else
   some false:Option (Bool))>>=fun o1 =>
 some o1
theorem Qfw:∀ (p1:(List UInt8)) (h0_0:(List Qak)) (h0_1:Int) (h0_2:Bool) (o:Bool),Qb8 p1 h0_0 h0_1 h0_2=some o→CallOK Tryz.prog 145 [.ptr 0 0,.p (sV p1)] ⟨[[.p (.sl false (h0_0.map Qai)),.p (iV h0_1),.p (bV h0_2)]],[]⟩ (Qob o) ⟨[[.p (.sl false (h0_0.map Qai)),.p (iV h0_1),.p (bV h0_2)]],[]⟩:=by
 intro p1 h0_0 h0_1 h0_2 o h;unfold Qb8 at h;refine CallOK.ofB mixed tbOk Qwc Tryz.func145 rfl (by kernel_rfl) (Nat.le_of_ble_eq_true rfl) rfl rfl rfl ?_;refine Qaj h (fun o1 ho hk=>?_);refine Exists.intro (JP1 _ _ o1 .normal (Qth h0_0 h0_1 h0_2)) (And.intro ?_ (Qa4 ?_))
 ·have h:=ho;refine And.intro (by decide +kernel) (And.intro rfl ?_);refine Qqk (fun x2=>(Qd6 x2).ren [0] []) h (fun x2 hy=>(Qa3 2 h0_0 h0_1 h0_2 x2 hy).fd rfl rfl [0] rfl rfl) (fun x2 hy h=>?_);refine Qac h (fun hb h=>?_) (fun hb h=>?_)
  ·refine view (Qaw _ _) rfl ?_;refine Qac h (fun hb h=>?_) (fun hb h=>?_)
   ·refine Qa8 (l:=h0_0) (c:=Qai) (c' := Qai) h (fun _=>rfl) (fun _=>rfl) (by decide) (fun x3 hi h=>?_);refine Qac h (fun hb h=>?_) (fun hb h=>?_)
    ·refine Qa8 (l:=h0_0) (c:=Qai) (c' := Qai) h (fun _=>rfl) (fun _=>rfl) (by decide) (fun x4 hi h=>?_);refine JP1.a h ?_;exact Le.tz 1 0 rfl rfl rfl
    ·refine JP1.a h ?_;exact Le.tz 1 0 rfl rfl rfl
   ·refine bF ?_;refine JP1.a h ?_;exact Le.tz 1 0 rfl rfl rfl
  ·refine bF ?_;refine bF ?_;refine JP1.a h ?_;exact Le.tz 1 0 rfl rfl rfl
 ·have h:=hk;refine Exists.intro _ (And.intro (Le.refl _ _ _) ?_);exact Qbb (t:=Qob) (ss:=fun o=>⟨[[.p (.sl false (h0_0.map Qai)),.p (iV h0_1),.p (bV h0_2)]],[]⟩) h ⟨[],rfl,.refl _,.refl _,rfl⟩
def Qal (p1:Bool) (h0_0:(List Qak)) (h0_1:Int) (h0_2:Bool):Option (Qak×Int×Bool) :=
 ( if(!p1) then
   some true
  else
   some h0_2:Option (Bool))>>=fun o1 =>
 if o1 then
  some ((Qak.mk 0 [] 0 0 0),h0_1,true)
 else
  idx h0_0 (wr ((wr (h0_1+1))-1))>>=fun x2 =>
  some (x2,(wr (h0_1+1)),h0_2)
theorem Qat:∀ (p1:Bool) (h0_0:(List Qak)) (h0_1:Int) (h0_2:Bool) (o:Qak×Int×Bool),Qal p1 h0_0 h0_1 h0_2=some o→CallOK Tryz.prog 144 [.ptr 0 0,.p (bV p1)] ⟨[[.p (.sl false (h0_0.map Qai)),.p (iV h0_1),.p (bV h0_2)]],[]⟩ (Qkp o) ⟨[[.p (.sl false (h0_0.map Qai)),.p (iV o.2.1),.p (bV o.2.2)]],[]⟩:=by
 intro p1 h0_0 h0_1 h0_2 o h;unfold Qal at h;refine CallOK.ofB mixed tbOk Qxn Tryz.func144 rfl (by kernel_rfl) (Nat.le_of_ble_eq_true rfl) rfl rfl rfl ?_;refine Qaj h (fun o1 ho hk=>?_);refine Exists.intro (JP1 _ _ o1 .normal (Quz h0_0 h0_1 h0_2)) (And.intro ?_ (Qa4 ?_))
 ·have h:=ho;refine Qac h (fun hb h=>?_) (fun hb h=>?_)
  ·refine JP1.a h ?_;exact Le.tz 2 0 rfl rfl rfl
  ·refine JP1.a h ?_;exact Le.tz 2 0 rfl rfl rfl
 ·have h:=hk;refine Qac h (fun hb h=>?_) (fun hb h=>?_)
  ·refine Exists.intro _ (And.intro (Le.refl _ _ _) ?_);exact Qbb (t:=Qkp) (ss:=fun o=>⟨[[.p (.sl false (h0_0.map Qai)),.p (iV o.2.1),.p (bV o.2.2)]],[]⟩) h ⟨[],rfl,.refl _,.refl _,rfl⟩
  ·refine And.intro (by decide +kernel) (And.intro rfl ?_);refine Qa8 (l:=h0_0) (c:=Qai) (c' := Qai) h (fun _=>rfl) (fun _=>rfl) (by decide) (fun x2 hi h=>?_);refine Exists.intro _ (And.intro (Le.refl _ _ _) ?_);exact Qbb (t:=Qkp) (ss:=fun o=>⟨[[.p (.sl false (h0_0.map Qai)),.p (iV o.2.1),.p (bV o.2.2)]],[]⟩) h ⟨[],rfl,.refl _,.refl _,rfl⟩
instance Q9w:Lean.Order.CCPO ((List Qab)→(List Qab)→(List Qab)→Option ((Int×Bool×Int×(List UInt8)×(List UInt8)×Int×(List Qab)×(List Qab)×(List Qab)))):=inferInstance
instance Q9x:Lean.Order.CCPO ((List UInt8)→(List UInt8)→Int→(List Qab)→(List Qab)→(List Qab)→Option ((Int×Bool×Int×(List UInt8)×(List UInt8)×Int×(List Qab)×(List Qab)×(List Qab)))):=inferInstance
def Qcv (h0_0:(List Qak)) (h0_1_:Int) (h0_2_:Bool) (h2_0:Int) (h2_1:(List UInt8)) (h2_2:(List UInt8)) (h2_3:Int) (h2_4:(List Qab)) (h2_5:(List Qab)) (h2_6:(List Qab)):Option ((Int×Bool×Int×(List UInt8)×(List UInt8)×Int×(List Qab)×(List Qab)×(List Qab))) :=
 Qau 7 h0_0 h0_1_ h0_2_>>=fun x3 =>
 if x3 then
  Qal true h0_0 h0_1_ h0_2_>>=fun x4 =>
  Qau 4 h0_0 x4.2.1 x4.2.2>>=fun x5 =>
  Qal x5 h0_0 x4.2.1 x4.2.2>>=fun x6 =>
  Qcv h0_0 x6.2.1 x6.2.2 5 x6.1.Text [] 0 [(Qab.mk h2_0 h2_1 h2_2 h2_3 h2_4 h2_5 h2_6)] [] []
 else
  some (h0_1_,h0_2_,h2_0,h2_1,h2_2,h2_3,h2_4,h2_5,h2_6)
 partial_fixpoint
theorem Q9y:∀ (h0_0:(List Qak)),(∀ (h0_1_:Int) (h0_2_:Bool) (h2_0:Int) (h2_1:(List UInt8)) (h2_2:(List UInt8)) (h2_3:Int) (h2_4:(List Qab)) (h2_5:(List Qab)) (h2_6:(List Qab)) (o2:(Int×Bool×Int×(List UInt8)×(List UInt8)×Int×(List Qab)×(List Qab)×(List Qab))),Qcv h0_0 h0_1_ h0_2_ h2_0 h2_1 h2_2 h2_3 h2_4 h2_5 h2_6=some o2→TL (1,0) Tryz.prog 19 Quw (JP1 (1,0) 19 o2 (.exit 0) (Qln h0_0)) (Qg4 h0_0 h0_1_ h0_2_ h2_0 h2_1 h2_2 h2_3 h2_4 h2_5 h2_6)):=by
 intro h0_0;refine Qcv.partial_correctness h0_0 _ ?_;intro Qcv' iQcv h0_1_ h0_2_ h2_0 h2_1 h2_2 h2_3 h2_4 h2_5 h2_6 o2 h;refine TL.round (Qar mixed tbOk (lv:=Qoc) _ _ _ ?_);refine Qaq _ _ h (fun x3 hy=>((Qa3 7 h0_0 h0_1_ h0_2_ x3 hy).fr [0] [] rfl rfl rfl)) (fun x3 hy h=>?_);refine Qac h (fun hb h=>?_) (fun hb h=>?_)
 ·refine Qaq _ _ h (fun x4 hy=>((Qat true h0_0 h0_1_ h0_2_ x4 hy).fr [0] [] rfl rfl rfl)) (fun x4 hy h=>?_);refine And.intro (by decide +kernel) (And.intro rfl ?_);refine Qqk (fun x5=>(Qd6 x5).ren [0] []) h (fun x5 hy=>(Qa3 4 h0_0 x4.2.1 x4.2.2 x5 hy).fd rfl rfl [0] rfl rfl) (fun x5 hy h=>?_);refine Quc _ _ h (fun x6 hy=>((Qat x5 h0_0 x4.2.1 x4.2.2 x6 hy).fg [0] [] rfl rfl rfl (Nat.le_of_ble_eq_true rfl))) (fun x6 hy h=>?_);refine TL.le (τ := Qg4 h0_0 x6.2.1 x6.2.2 5 x6.1.Text [] 0 [(Qab.mk h2_0 h2_1 h2_2 h2_3 h2_4 h2_5 h2_6)] [] []) ?_ ((iQcv x6.2.1 x6.2.2 5 x6.1.Text [] 0 [(Qab.mk h2_0 h2_1 h2_2 h2_3 h2_4 h2_5 h2_6)] [] [] _ h));exact Le.tow 3 0 rfl (.cons rfl (.refl _) (.cons rfl (.refl _) (.cons rfl (.refl _) (.nil)))) (.cons (.refl _) (.cons (.refl _) (.cons (.cons (.refl _) (.cons (.refl _) (.cons (.refl _) (.cons (.refl _) (.cons (.p (.no (.cons (.ceq (Qao _) (.refl _)) (.nil)))) (.cons (.p (.not)) (.cons (.p (.not)) (.nil)))))))) (.nil)))) rfl
 ·exact JP1.a h (Le.tz 3 0 rfl rfl rfl)
def Qdg (h0_0:(List Qak)) (h0_1:Int) (h0_2:Bool):Option ((List UInt8)×Int×Bool) :=
 ( Qau 4 h0_0 h0_1 h0_2>>=fun x2 =>
  if x2 then
   idx h0_0 h0_1>>=fun x3 =>
   Qhl x3.Text>>=fun x4 =>
   Qal x4 h0_0 h0_1 h0_2>>=fun x5 =>
   some (x5.1.Text,x5.2.1,x5.2.2)
  else
   Qal false h0_0 h0_1 h0_2>>=fun x6 =>
   some (x6.1.Text,x6.2.1,x6.2.2):Option (((List UInt8)×Int×Bool)))>>=fun o1 =>
 some (o1.1,o1.2.1,o1.2.2)
theorem Qjn:∀ (h0_0:(List Qak)) (h0_1:Int) (h0_2:Bool) (o:(List UInt8)×Int×Bool),Qdg h0_0 h0_1 h0_2=some o→CallOK Tryz.prog 165 [.ptr 0 0] ⟨[[.p (.sl false (h0_0.map Qai)),.p (iV h0_1),.p (bV h0_2)]],[]⟩ (Qpy o) ⟨[[.p (.sl false (h0_0.map Qai)),.p (iV o.2.1),.p (bV o.2.2)]],[]⟩:=by
 intro h0_0 h0_1 h0_2 o h;unfold Qdg at h;refine CallOK.ofB mixed tbOk Qxm Tryz.func165 rfl (by kernel_rfl) (Nat.le_of_ble_eq_true rfl) rfl rfl rfl ?_;refine Qaj h (fun o1 ho hk=>?_);refine Exists.intro (JP1 _ _ o1 .normal (Quy h0_0)) (And.intro ?_ (Qa4 ?_))
 ·have h:=ho;refine And.intro (by decide +kernel) (And.intro rfl ?_);refine Qqk (fun x2=>(Qd6 x2).ren [0] []) h (fun x2 hy=>(Qa3 4 h0_0 h0_1 h0_2 x2 hy).fd rfl rfl [0] rfl rfl) (fun x2 hy h=>?_);refine Qac h (fun hb h=>?_) (fun hb h=>?_)
  ·refine Qa8 (l:=h0_0) (c:=Qai) (c' := Qai) h (fun _=>rfl) (fun _=>rfl) (by decide) (fun x3 hi h=>?_);refine Qdk [sV x3.Text] Qhj h (fun x4 hy=>(Qkm x3.Text x4 hy)) (fun x4 hy h=>?_);refine Quc _ _ h (fun x5 hy=>((Qat x4 h0_0 h0_1 h0_2 x5 hy).fg [0] [] rfl rfl rfl (Nat.le_of_ble_eq_true rfl))) (fun x5 hy h=>?_);refine JP1.a h ?_;exact Le.tz 1 0 rfl rfl rfl
  ·refine Quc _ _ h (fun x6 hy=>((Qat false h0_0 h0_1 h0_2 x6 hy).fg [0] [] rfl rfl rfl (Nat.le_of_ble_eq_true rfl))) (fun x6 hy h=>?_);refine JP1.a h ?_;exact Le.tz 1 0 rfl rfl rfl
 ·have h:=hk;refine Exists.intro _ (And.intro (Le.refl _ _ _) ?_);exact Qbb (t:=Qpy) (ss:=fun o=>⟨[[.p (.sl false (h0_0.map Qai)),.p (iV o.2.1),.p (bV o.2.2)]],[]⟩) h ⟨[],rfl,.refl _,.refl _,rfl⟩
def Qa5 (p1:(List UInt8)) (h0_0:(List Qak)) (h0_1:Int) (h0_2:Bool):Option (Bool) :=
 ( Qau 4 h0_0 h0_1 h0_2>>=fun x2 =>
  if x2 then
   idx h0_0 h0_1>>=fun x3 =>
   some (x3.Text==p1)
  else
   some false:Option (Bool))>>=fun o1 =>
 some o1
theorem Qbn:∀ (p1:(List UInt8)) (h0_0:(List Qak)) (h0_1:Int) (h0_2:Bool) (o:Bool),Qa5 p1 h0_0 h0_1 h0_2=some o→CallOK Tryz.prog 161 [.ptr 0 0,.p (sV p1)] ⟨[[.p (.sl false (h0_0.map Qai)),.p (iV h0_1),.p (bV h0_2)]],[]⟩ (Qpz o) ⟨[[.p (.sl false (h0_0.map Qai)),.p (iV h0_1),.p (bV h0_2)]],[]⟩:=by
 intro p1 h0_0 h0_1 h0_2 o h;unfold Qa5 at h;refine CallOK.ofB mixed tbOk Qxo Tryz.func161 rfl (by kernel_rfl) (Nat.le_of_ble_eq_true rfl) rfl rfl rfl ?_;refine Qaj h (fun o1 ho hk=>?_);refine Exists.intro (JP1 _ _ o1 .normal (Qu0 h0_0 h0_1 h0_2)) (And.intro ?_ (Qa4 ?_))
 ·have h:=ho;refine And.intro (by decide +kernel) (And.intro rfl ?_);refine Qqk (fun x2=>(Qd6 x2).ren [0] []) h (fun x2 hy=>(Qa3 4 h0_0 h0_1 h0_2 x2 hy).fd rfl rfl [0] rfl rfl) (fun x2 hy h=>?_);refine Qac h (fun hb h=>?_) (fun hb h=>?_)
  ·refine Qa8 (l:=h0_0) (c:=Qai) (c' := Qai) h (fun _=>rfl) (fun _=>rfl) (by decide) (fun x3 hi h=>?_);refine JP1.a h ?_;exact Le.tz 1 0 rfl rfl rfl
  ·refine JP1.a h ?_;exact Le.tz 1 0 rfl rfl rfl
 ·have h:=hk;refine Exists.intro _ (And.intro (Le.refl _ _ _) ?_);exact Qbb (t:=Qpz) (ss:=fun o=>⟨[[.p (.sl false (h0_0.map Qai)),.p (iV h0_1),.p (bV h0_2)]],[]⟩) h ⟨[],rfl,.refl _,.refl _,rfl⟩
mutual
def Qch (h0_0:(List Qak)) (h0_1:Int) (h0_2:Bool):Option (Qab×Int×Bool) :=
 Qib h0_0 h0_1 h0_2>>=fun x1 =>
 (Qcv h0_0 x1.2.1 x1.2.2 x1.1.Kind x1.1.Name x1.1.Text x1.1.N x1.1.L x1.1.Then x1.1.Else)>>=fun o2 =>
 some ((Qab.mk o2.2.2.1 o2.2.2.2.1 o2.2.2.2.2.1 o2.2.2.2.2.2.1 o2.2.2.2.2.2.2.1 o2.2.2.2.2.2.2.2.1 o2.2.2.2.2.2.2.2.2),o2.1,o2.2.1)
 partial_fixpoint
def Qib (h0_0:(List Qak)) (h0_1:Int) (h0_2:Bool):Option (Qab×Int×Bool) :=
 Qau 5 h0_0 h0_1 h0_2>>=fun x1 =>
 if x1 then
  Qal true h0_0 h0_1 h0_2>>=fun x2 =>
  some ((Qab.mk 1 [] x2.1.Text 0 [] [] []),x2.2.1,x2.2.2)
 else
  Qau 6 h0_0 h0_1 h0_2>>=fun x3 =>
  if x3 then
   Qal true h0_0 h0_1 h0_2>>=fun x4 =>
   some ((Qab.mk 2 [] [] x4.1.N [] [] []),x4.2.1,x4.2.2)
  else
   Qa5 [116,114,117,101] h0_0 h0_1 h0_2>>=fun x5 =>
   if x5 then
    Qal true h0_0 h0_1 h0_2>>=fun x6 =>
    some ((Qab.mk 3 [] [] 1 [] [] []),x6.2.1,x6.2.2)
   else
    Qa5 [102,97,108,115,101] h0_0 h0_1 h0_2>>=fun x7 =>
    if x7 then
     Qal true h0_0 h0_1 h0_2>>=fun x8 =>
     some ((Qab.mk 3 [] [] 0 [] [] []),x8.2.1,x8.2.2)
    else
     Qa5 [115,101,99,114,101,116] h0_0 h0_1 h0_2>>=fun x9 =>
     if x9 then
      Qal true h0_0 h0_1 h0_2>>=fun x10 =>
      Qau 8 h0_0 x10.2.1 x10.2.2>>=fun x11 =>
      Qal x11 h0_0 x10.2.1 x10.2.2>>=fun x12 =>
      ( Qau 5 h0_0 x12.2.1 x12.2.2>>=fun x14 =>
       if x14 then
        idx h0_0 x12.2.1>>=fun x15 =>
        Qia x15.Text>>=fun x16 =>
        Qal x16 h0_0 x12.2.1 x12.2.2>>=fun x17 =>
        some (x17.2.1,x17.2.2,x17.1.Kind,x17.1.Text,x17.1.N,x17.1.From,x17.1.To)
       else
        Qal false h0_0 x12.2.1 x12.2.2>>=fun x18 =>
        some (x18.2.1,x18.2.2,x18.1.Kind,x18.1.Text,x18.1.N,x18.1.From,x18.1.To):Option ((Int×Bool×Int×(List UInt8)×Int×Int×Int)))>>=fun o13 =>
      Qau 9 h0_0 o13.1 o13.2.1>>=fun x19 =>
      Qal x19 h0_0 o13.1 o13.2.1>>=fun x20 =>
      some ((Qab.mk 7 o13.2.2.2.1 [] 0 [] [] []),x20.2.1,x20.2.2)
     else
      Qdg h0_0 h0_1 h0_2>>=fun x21 =>
      Qau 8 h0_0 x21.2.1 x21.2.2>>=fun x22 =>
      if(!x22) then
       some ((Qab.mk 4 x21.1 [] 0 [] [] []),x21.2.1,x21.2.2)
      else
       Qal true h0_0 x21.2.1 x21.2.2>>=fun x23 =>
       Qau 9 h0_0 x23.2.1 x23.2.2>>=fun x24 =>
       if x24 then
        Qal true h0_0 x23.2.1 x23.2.2>>=fun x25 =>
        some ((Qab.mk 6 x21.1 [] 0 [] [] []),x25.2.1,x25.2.2)
       else
        (Qdb h0_0 x21 0 x23.2.1 x23.2.2 [])>>=fun o26 =>
        Qau 9 h0_0 o26.1 o26.2.1>>=fun x33 =>
        Qal x33 h0_0 o26.1 o26.2.1>>=fun x34 =>
        some ((Qab.mk 6 x21.1 [] 0 o26.2.2 [] []),x34.2.1,x34.2.2)
 partial_fixpoint
def Qdb (h0_0:(List Qak)) (x21:(List UInt8)×Int×Bool) (v5:Int) (h0_1_:Int) (h0_2_:Bool) (h2_4:(List Qab)):Option ((Int×Bool×(List Qab))) :=
 ( if(decide (v5<3)) then
   some (!h0_2_)
  else
   some false:Option (Bool))>>=fun o27 =>
 if o27 then
  Qch h0_0 h0_1_ h0_2_>>=fun x28 =>
  appL 120 h2_4 [x28.1]>>=fun x29 =>
  Qau 9 h0_0 x28.2.1 x28.2.2>>=fun x30 =>
  if x30 then
   some (x28.2.1,x28.2.2,x29)
  else
   if(decide (v5<2)) then
    Qau 10 h0_0 x28.2.1 x28.2.2>>=fun x31 =>
    Qal x31 h0_0 x28.2.1 x28.2.2>>=fun x32 =>
    Qdb h0_0 x21 (wr (v5+1)) x32.2.1 x32.2.2 x29
   else
    Qdb h0_0 x21 (wr (v5+1)) x28.2.1 x28.2.2 x29
 else
  some (h0_1_,h0_2_,h2_4)
 partial_fixpoint
end
theorem Qwg:∀ (h0_0:(List Qak)),(∀ (h0_1:Int) (h0_2:Bool) (o:Qab×Int×Bool),Qch h0_0 h0_1 h0_2=some o→CallOK Tryz.prog 162 [.ptr 0 0] ⟨[[.p (.sl false (h0_0.map Qai)),.p (iV h0_1),.p (bV h0_2)]],[]⟩ (Qko o) ⟨[[.p (.sl false (h0_0.map Qai)),.p (iV o.2.1),.p (bV o.2.2)]],[]⟩)∧(∀ (h0_1:Int) (h0_2:Bool) (o:Qab×Int×Bool),Qib h0_0 h0_1 h0_2=some o→CallOK Tryz.prog 173 [.ptr 0 0] ⟨[[.p (.sl false (h0_0.map Qai)),.p (iV h0_1),.p (bV h0_2)]],[]⟩ (Qbx o) ⟨[[.p (.sl false (h0_0.map Qai)),.p (iV o.2.1),.p (bV o.2.2)]],[]⟩)∧(∀ (x21:(List UInt8)×Int×Bool) (v5:Int) (h0_1_:Int) (h0_2_:Bool) (h2_4:(List Qab)) (o26:(Int×Bool×(List Qab))),Qdb h0_0 x21 v5 h0_1_ h0_2_ h2_4=some o26→TL (1,0) Tryz.prog 107 Qto (JP1 (1,0) 107 o26 (.exit 0) (Qj6 h0_0 x21)) (Qed h0_0 x21 v5 h0_1_ h0_2_ h2_4)):=by
 intro h0_0;refine Qch.mutual_partial_correctness h0_0 _ _ _ ?_ ?_ ?_
 ·intro Qib' iQib h0_1 h0_2 o h;refine CallOK.ofB mixed tbOk Qoc Tryz.func162 rfl (by kernel_rfl) (Nat.le_of_ble_eq_true rfl) rfl rfl rfl ?_;refine Qaq _ _ h (fun x1 hy=>((iQib h0_1 h0_2 x1 hy).fr [0] [] rfl rfl rfl)) (fun x1 hy h=>?_);refine Qaj h (fun o2 ho hk=>?_);refine Exists.intro (JP1 _ _ o2 (.exit 0) (Qln h0_0)) (And.intro (Qhe (τ := Qg4 h0_0 x1.2.1 x1.2.2 x1.1.Kind x1.1.Name x1.1.Text x1.1.N x1.1.L x1.1.Then x1.1.Else) ?_ (TL.loop (Q9y h0_0 x1.2.1 x1.2.2 x1.1.Kind x1.1.Name x1.1.Text x1.1.N x1.1.L x1.1.Then x1.1.Else o2 ho))) (Qa4 ?_))
  ·exact Le.tz 3 0 rfl rfl rfl
  have h:=hk;refine Exists.intro _ (And.intro (Le.refl _ _ _) ?_);exact Qbb (t:=Qko) (ss:=fun o=>⟨[[.p (.sl false (h0_0.map Qai)),.p (iV o.2.1),.p (bV o.2.2)]],[]⟩) h ⟨[],rfl,.refl _,.refl _,rfl⟩
 ·intro Qdb' iQdb h0_1 h0_2 o h;refine CallOK.ofB mixed tbOk Qno Tryz.func173 rfl (by kernel_rfl) (Nat.le_of_ble_eq_true rfl) rfl rfl rfl ?_;refine Qaq _ _ h (fun x1 hy=>((Qa3 5 h0_0 h0_1 h0_2 x1 hy).fr [0] [] rfl rfl rfl)) (fun x1 hy h=>?_);refine Qac h (fun hb h=>?_) (fun hb h=>?_)
  ·refine Qaq _ _ h (fun x2 hy=>((Qat true h0_0 h0_1 h0_2 x2 hy).fr [0] [] rfl rfl rfl)) (fun x2 hy h=>?_);refine Exists.intro _ (And.intro (Le.refl _ _ _) ?_);exact Qbb (t:=Qbx) (ss:=fun o=>⟨[[.p (.sl false (h0_0.map Qai)),.p (iV o.2.1),.p (bV o.2.2)]],[]⟩) h ⟨[],rfl,.p (.agg' (.cons (.refl _) (.cons (.refl _) (.cons (.refl _) (.cons (.refl _) (.cons (.not) (.cons (.not) (.cons (.not) (.nil))))))))),.refl _,rfl⟩
  ·refine Qaq _ _ h (fun x3 hy=>((Qa3 6 h0_0 h0_1 h0_2 x3 hy).fr [0] [] rfl rfl rfl)) (fun x3 hy h=>?_);refine Qac h (fun hb h=>?_) (fun hb h=>?_)
   ·refine Qaq _ _ h (fun x4 hy=>((Qat true h0_0 h0_1 h0_2 x4 hy).fr [0] [] rfl rfl rfl)) (fun x4 hy h=>?_);refine Exists.intro _ (And.intro (Le.refl _ _ _) ?_);exact Qbb (t:=Qbx) (ss:=fun o=>⟨[[.p (.sl false (h0_0.map Qai)),.p (iV o.2.1),.p (bV o.2.2)]],[]⟩) h ⟨[],rfl,.p (.agg' (.cons (.refl _) (.cons (.refl _) (.cons (.refl _) (.cons (.refl _) (.cons (.not) (.cons (.not) (.cons (.not) (.nil))))))))),.refl _,rfl⟩
   ·refine Qaq _ _ h (fun x5 hy=>((Qbn [116,114,117,101] h0_0 h0_1 h0_2 x5 hy).fr [0] [] rfl rfl rfl)) (fun x5 hy h=>?_);refine Qac h (fun hb h=>?_) (fun hb h=>?_)
    ·refine Qaq _ _ h (fun x6 hy=>((Qat true h0_0 h0_1 h0_2 x6 hy).fr [0] [] rfl rfl rfl)) (fun x6 hy h=>?_);refine Exists.intro _ (And.intro (Le.refl _ _ _) ?_);exact Qbb (t:=Qbx) (ss:=fun o=>⟨[[.p (.sl false (h0_0.map Qai)),.p (iV o.2.1),.p (bV o.2.2)]],[]⟩) h ⟨[],rfl,.p (.agg' (.cons (.refl _) (.cons (.refl _) (.cons (.refl _) (.cons (.refl _) (.cons (.not) (.cons (.not) (.cons (.not) (.nil))))))))),.refl _,rfl⟩
    ·refine Qaq _ _ h (fun x7 hy=>((Qbn [102,97,108,115,101] h0_0 h0_1 h0_2 x7 hy).fr [0] [] rfl rfl rfl)) (fun x7 hy h=>?_);refine Qac h (fun hb h=>?_) (fun hb h=>?_)
     ·refine Qaq _ _ h (fun x8 hy=>((Qat true h0_0 h0_1 h0_2 x8 hy).fr [0] [] rfl rfl rfl)) (fun x8 hy h=>?_);refine Exists.intro _ (And.intro (Le.refl _ _ _) ?_);exact Qbb (t:=Qbx) (ss:=fun o=>⟨[[.p (.sl false (h0_0.map Qai)),.p (iV o.2.1),.p (bV o.2.2)]],[]⟩) h ⟨[],rfl,.p (.agg' (.cons (.refl _) (.cons (.refl _) (.cons (.refl _) (.cons (.refl _) (.cons (.not) (.cons (.not) (.cons (.not) (.nil))))))))),.refl _,rfl⟩
     ·refine Qaq _ _ h (fun x9 hy=>((Qbn [115,101,99,114,101,116] h0_0 h0_1 h0_2 x9 hy).fr [0] [] rfl rfl rfl)) (fun x9 hy h=>?_);refine Qac h (fun hb h=>?_) (fun hb h=>?_)
      ·refine Qaq _ _ h (fun x10 hy=>((Qat true h0_0 h0_1 h0_2 x10 hy).fr [0] [] rfl rfl rfl)) (fun x10 hy h=>?_);refine Qaq _ _ h (fun x11 hy=>((Qa3 8 h0_0 x10.2.1 x10.2.2 x11 hy).fr [0] [] rfl rfl rfl)) (fun x11 hy h=>?_);refine Qaq _ _ h (fun x12 hy=>((Qat x11 h0_0 x10.2.1 x10.2.2 x12 hy).fr [0] [] rfl rfl rfl)) (fun x12 hy h=>?_);refine Qaj h (fun o13 ho hk=>?_);refine Exists.intro (JP1 _ _ o13 .normal (Qtm h0_0)) (And.intro ?_ (Qa4 ?_))
       ·have h:=ho;refine And.intro (by decide +kernel) (And.intro rfl ?_);refine Qqk (fun x14=>(Qd6 x14).ren [0] []) h (fun x14 hy=>(Qa3 5 h0_0 x12.2.1 x12.2.2 x14 hy).fd rfl rfl [0] rfl rfl) (fun x14 hy h=>?_);refine Qac h (fun hb h=>?_) (fun hb h=>?_)
        ·refine Qa8 (l:=h0_0) (c:=Qai) (c' := Qai) h (fun _=>rfl) (fun _=>rfl) (by decide) (fun x15 hi h=>?_);refine Qdk [sV x15.Text] Qhi h (fun x16 hy=>(Qnj x15.Text x16 hy)) (fun x16 hy h=>?_);refine Quc _ _ h (fun x17 hy=>((Qat x16 h0_0 x12.2.1 x12.2.2 x17 hy).fg [0] [] rfl rfl rfl (Nat.le_of_ble_eq_true rfl))) (fun x17 hy h=>?_);refine JP1.a h ?_;exact Le.tz 3 0 rfl rfl rfl
        ·refine Quc _ _ h (fun x18 hy=>((Qat false h0_0 x12.2.1 x12.2.2 x18 hy).fg [0] [] rfl rfl rfl (Nat.le_of_ble_eq_true rfl))) (fun x18 hy h=>?_);refine JP1.a h ?_;exact Le.tz 3 0 rfl rfl rfl
       ·have h:=hk;refine Qaq _ _ h (fun x19 hy=>((Qa3 9 h0_0 o13.1 o13.2.1 x19 hy).fr [0] [] rfl rfl rfl)) (fun x19 hy h=>?_);refine Qaq _ _ h (fun x20 hy=>((Qat x19 h0_0 o13.1 o13.2.1 x20 hy).fr [0] [] rfl rfl rfl)) (fun x20 hy h=>?_);refine Exists.intro _ (And.intro (Le.refl _ _ _) ?_);exact Qbb (t:=Qbx) (ss:=fun o=>⟨[[.p (.sl false (h0_0.map Qai)),.p (iV o.2.1),.p (bV o.2.2)]],[]⟩) h ⟨[],rfl,.p (.agg' (.cons (.refl _) (.cons (.refl _) (.cons (.refl _) (.cons (.refl _) (.cons (.not) (.cons (.not) (.cons (.not) (.nil))))))))),.refl _,rfl⟩
      ·refine Qaq _ _ h (fun x21 hy=>((Qjn h0_0 h0_1 h0_2 x21 hy).fr [0] [] rfl rfl rfl)) (fun x21 hy h=>?_);refine Qaq _ _ h (fun x22 hy=>((Qa3 8 h0_0 x21.2.1 x21.2.2 x22 hy).fr [0] [] rfl rfl rfl)) (fun x22 hy h=>?_);refine Qac h (fun hb h=>?_) (fun hb h=>?_)
       ·refine Exists.intro _ (And.intro (Le.refl _ _ _) ?_);exact Qbb (t:=Qbx) (ss:=fun o=>⟨[[.p (.sl false (h0_0.map Qai)),.p (iV o.2.1),.p (bV o.2.2)]],[]⟩) h ⟨[],rfl,.p (.agg' (.cons (.refl _) (.cons (.refl _) (.cons (.refl _) (.cons (.refl _) (.cons (.not) (.cons (.not) (.cons (.not) (.nil))))))))),.refl _,rfl⟩
       ·refine Qaq _ _ h (fun x23 hy=>((Qat true h0_0 x21.2.1 x21.2.2 x23 hy).fr [0] [] rfl rfl rfl)) (fun x23 hy h=>?_);refine Qaq _ _ h (fun x24 hy=>((Qa3 9 h0_0 x23.2.1 x23.2.2 x24 hy).fr [0] [] rfl rfl rfl)) (fun x24 hy h=>?_);refine Qac h (fun hb h=>?_) (fun hb h=>?_)
        ·refine Qaq _ _ h (fun x25 hy=>((Qat true h0_0 x23.2.1 x23.2.2 x25 hy).fr [0] [] rfl rfl rfl)) (fun x25 hy h=>?_);refine Exists.intro _ (And.intro (Le.refl _ _ _) ?_);exact Qbb (t:=Qbx) (ss:=fun o=>⟨[[.p (.sl false (h0_0.map Qai)),.p (iV o.2.1),.p (bV o.2.2)]],[]⟩) h ⟨[],rfl,.p (.agg' (.cons (.refl _) (.cons (.refl _) (.cons (.refl _) (.cons (.refl _) (.cons (.not) (.cons (.not) (.cons (.not) (.nil))))))))),.refl _,rfl⟩
        ·refine Qaj h (fun o26 ho hk=>?_);refine Exists.intro (JP1 _ _ o26 (.exit 0) (Qj6 h0_0 x21)) (And.intro (Qhe (τ := Qed h0_0 x21 0 x23.2.1 x23.2.2 []) ?_ (TL.loop (iQdb x21 0 x23.2.1 x23.2.2 [] o26 ho))) (Qa4 ?_))
         ·exact(Le.ownH 2 4 38 7 rfl rfl Q1p).trans (Le.tz 3 1 rfl rfl rfl)
         have h:=hk;refine Qaq _ _ h (fun x33 hy=>((Qa3 9 h0_0 o26.1 o26.2.1 x33 hy).fr [0] [] rfl rfl rfl)) (fun x33 hy h=>?_);refine Qaq _ _ h (fun x34 hy=>((Qat x33 h0_0 o26.1 o26.2.1 x34 hy).fr [0] [] rfl rfl rfl)) (fun x34 hy h=>?_);refine Exists.intro _ (And.intro (Le.refl _ _ _) ?_);exact Qbb (t:=Qbx) (ss:=fun o=>⟨[[.p (.sl false (h0_0.map Qai)),.p (iV o.2.1),.p (bV o.2.2)]],[]⟩) h ⟨[],rfl,.p (.agg' (.cons (.refl _) (.cons (.refl _) (.cons (.refl _) (.cons (.refl _) (.cons (.refl _) (.cons (.not) (.cons (.not) (.nil))))))))),.refl _,rfl⟩
 ·intro Qch' Qdb' iQch iQdb x21 v5 h0_1_ h0_2_ h2_4 o26 h;refine TL.round (Qar mixed tbOk (lv:=Qno) _ _ _ ?_);refine Qaj h (fun o27 ho hk=>?_);refine Exists.intro (JP1 _ _ o27 .normal (Qtn h0_0 x21 v5 h0_1_ h0_2_ h2_4)) (And.intro ?_ (Qa4 ?_))
  ·have h:=ho;refine Qac h (fun hb h=>?_) (fun hb h=>?_)
   ·refine JP1.a h ?_;exact Le.tz 3 1 rfl rfl rfl
   ·refine JP1.a h ?_;exact Le.tz 3 1 rfl rfl rfl
  ·have h:=hk;refine Qac h (fun hb h=>?_) (fun hb h=>?_)
   ·refine And.intro (by decide +kernel) (And.intro rfl ?_);refine Quc _ _ h (fun x28 hy=>((iQch h0_1_ h0_2_ x28 hy).fg [0] [] rfl rfl rfl (Nat.le_of_ble_eq_true rfl))) (fun x28 hy h=>?_);refine Qi4 (a:=h2_4) (b:=[x28.1]) (c:=Qaa) h (.cons (.ceq (Qao _) (.refl _)) (.nil)) (fun x=>by rw[Qao]; rfl) rfl (fun x29 hi h=>?_);refine Qaq _ _ h (fun x30 hy=>((Qa3 9 h0_0 x28.2.1 x28.2.2 x30 hy).fr [0] [] rfl rfl rfl)) (fun x30 hy h=>?_);refine Qac h (fun hb h=>?_) (fun hb h=>?_)
    ·exact JP1.a h (Le.tz 3 1 rfl rfl rfl)
    ·refine Qac h (fun hb h=>?_) (fun hb h=>?_)
     ·refine Qaq _ _ h (fun x31 hy=>((Qa3 10 h0_0 x28.2.1 x28.2.2 x31 hy).fr [0] [] rfl rfl rfl)) (fun x31 hy h=>?_);refine Qaq _ _ h (fun x32 hy=>((Qat x31 h0_0 x28.2.1 x28.2.2 x32 hy).fr [0] [] rfl rfl rfl)) (fun x32 hy h=>?_);refine TL.le (τ := Qed h0_0 x21 (wr (v5+1)) x32.2.1 x32.2.2 x29) ?_ ((iQdb x21 (wr (v5+1)) x32.2.1 x32.2.2 x29 _ h));exact Le.tz 3 1 rfl rfl rfl
     ·refine TL.le (τ := Qed h0_0 x21 (wr (v5+1)) x28.2.1 x28.2.2 x29) ?_ ((iQdb x21 (wr (v5+1)) x28.2.1 x28.2.2 x29 _ h));exact Le.tz 3 1 rfl rfl rfl
   ·exact JP1.a h (Le.tz 3 1 rfl rfl rfl)
theorem Qjo:∀ (h0_0:(List Qak)) (h0_1:Int) (h0_2:Bool) (o:Qab×Int×Bool),Qch h0_0 h0_1 h0_2=some o→CallOK Tryz.prog 162 [.ptr 0 0] ⟨[[.p (.sl false (h0_0.map Qai)),.p (iV h0_1),.p (bV h0_2)]],[]⟩ (Qko o) ⟨[[.p (.sl false (h0_0.map Qai)),.p (iV o.2.1),.p (bV o.2.2)]],[]⟩:=fun h0_0 h0_1 h0_2=>(Qwg h0_0).1 h0_1 h0_2
def Qck (h0_0:(List Qak)) (h0_1:Int) (h0_2:Bool):Option (Int×Bool) :=
 Qau 3 h0_0 h0_1 h0_2>>=fun x1 =>
 Qal x1 h0_0 h0_1 h0_2>>=fun x2 =>
 some (x2.2.1,x2.2.2)
theorem Qfx:∀ (h0_0:(List Qak)) (h0_1:Int) (h0_2:Bool) (o:Int×Bool),Qck h0_0 h0_1 h0_2=some o→CallOK Tryz.prog 163 [.ptr 0 0] ⟨[[.p (.sl false (h0_0.map Qai)),.p (iV h0_1),.p (bV h0_2)]],[]⟩ (Qod o) ⟨[[.p (.sl false (h0_0.map Qai)),.p (iV o.1),.p (bV o.2)]],[]⟩:=by
 intro h0_0 h0_1 h0_2 o h;unfold Qck at h;refine CallOK.ofB mixed tbOk Qwd Tryz.func163 rfl (by kernel_rfl) (Nat.le_of_ble_eq_true rfl) rfl rfl rfl ?_;refine Qaq _ _ h (fun x1 hy=>((Qa3 3 h0_0 h0_1 h0_2 x1 hy).fr [0] [] rfl rfl rfl)) (fun x1 hy h=>?_);refine Qaq _ _ h (fun x2 hy=>((Qat x1 h0_0 h0_1 h0_2 x2 hy).fr [0] [] rfl rfl rfl)) (fun x2 hy h=>?_);refine Exists.intro _ (And.intro (Le.refl _ _ _) ?_);exact Qbb (t:=Qod) (ss:=fun o=>⟨[[.p (.sl false (h0_0.map Qai)),.p (iV o.1),.p (bV o.2)]],[]⟩) h ⟨[],rfl,.refl _,.refl _,rfl⟩
def Qdv (p1:(List UInt8)) (h0_0:(List Qak)) (h0_1:Int) (h0_2:Bool):Option (Int×Bool) :=
 Qau 2 h0_0 h0_1 h0_2>>=fun x1 =>
 Qal x1 h0_0 h0_1 h0_2>>=fun x2 =>
 Qa5 p1 h0_0 x2.2.1 x2.2.2>>=fun x3 =>
 Qal x3 h0_0 x2.2.1 x2.2.2>>=fun x4 =>
 Qck h0_0 x4.2.1 x4.2.2>>=fun x5 =>
 some (x5.1,x5.2)
theorem Qkx:∀ (p1:(List UInt8)) (h0_0:(List Qak)) (h0_1:Int) (h0_2:Bool) (o:Int×Bool),Qdv p1 h0_0 h0_1 h0_2=some o→CallOK Tryz.prog 164 [.ptr 0 0,.p (sV p1)] ⟨[[.p (.sl false (h0_0.map Qai)),.p (iV h0_1),.p (bV h0_2)]],[]⟩ (Qrp o) ⟨[[.p (.sl false (h0_0.map Qai)),.p (iV o.1),.p (bV o.2)]],[]⟩:=by
 intro p1 h0_0 h0_1 h0_2 o h;unfold Qdv at h;refine CallOK.ofB mixed tbOk Qyn Tryz.func164 rfl (by kernel_rfl) (Nat.le_of_ble_eq_true rfl) rfl rfl rfl ?_;refine Qaq _ _ h (fun x1 hy=>((Qa3 2 h0_0 h0_1 h0_2 x1 hy).fr [0] [] rfl rfl rfl)) (fun x1 hy h=>?_);refine Qaq _ _ h (fun x2 hy=>((Qat x1 h0_0 h0_1 h0_2 x2 hy).fr [0] [] rfl rfl rfl)) (fun x2 hy h=>?_);refine Qaq _ _ h (fun x3 hy=>((Qbn p1 h0_0 x2.2.1 x2.2.2 x3 hy).fr [0] [] rfl rfl rfl)) (fun x3 hy h=>?_);refine Qaq _ _ h (fun x4 hy=>((Qat x3 h0_0 x2.2.1 x2.2.2 x4 hy).fr [0] [] rfl rfl rfl)) (fun x4 hy h=>?_);refine Qaq _ _ h (fun x5 hy=>((Qfx h0_0 x4.2.1 x4.2.2 x5 hy).fr [0] [] rfl rfl rfl)) (fun x5 hy h=>?_);refine Exists.intro _ (And.intro (Le.refl _ _ _) ?_);exact Qbb (t:=Qrp) (ss:=fun o=>⟨[[.p (.sl false (h0_0.map Qai)),.p (iV o.1),.p (bV o.2)]],[]⟩) h ⟨[],rfl,.refl _,.refl _,rfl⟩
mutual
def Qb9 (p1:Bool) (p2:Bool) (h0_0:(List Qak)) (h0_1:Int) (h0_2:Bool):Option ((List Qab)×Int×Bool) :=
 (Qb6 p1 p2 h0_0 [] h0_1 h0_2)>>=fun o1 =>
 match o1 with
 | .inl y2 =>
  some (y2.1,y2.2.1,y2.2.2)
 | .inr y3 =>
  some (y3.1,y3.2.1,y3.2.2)
 partial_fixpoint
def Qb6 (p1:Bool) (p2:Bool) (h0_0:(List Qak)) (v7:(List Qab)) (h0_1_:Int) (h0_2_:Bool):Option (((List Qab)×Int×Bool)⊕((List Qab)×Int×Bool)) :=
 ( if(!h0_2_) then
   some (decide (h0_1_<(h0_0.length:Int)))
  else
   some false:Option (Bool))>>=fun o4 =>
 if o4 then
  Qau 1 h0_0 h0_1_ h0_2_>>=fun x5 =>
  if x5 then
   Qal true h0_0 h0_1_ h0_2_>>=fun x6 =>
   ( if(decide ((wr ((v7.length:Int)-1)) ≥ 0)) then
     idx v7 (wr ((v7.length:Int)-1))>>=fun x8 =>
     some (x8.Kind==8)
    else
     some false:Option (Bool))>>=fun o7 =>
   if o7 then
    idx v7 (wr ((v7.length:Int)-1))>>=fun x9 =>
    need (x9.Text.length+x6.1.Text.length≤9223372036854775807)>>=fun _ =>
    idx v7 (wr ((v7.length:Int)-1))>>=fun x10 =>
    Qb6 p1 p2 h0_0 (v7.set ((wr ((v7.length:Int)-1)).toNat) (Qab.mk x10.Kind x10.Name (x9.Text++x6.1.Text) x10.N x10.L x10.Then x10.Else)) x6.2.1 x6.2.2
   else
    appL 120 v7 ([(Qab.mk 8 [] x6.1.Text 0 [] [] [])])>>=fun x11 =>
    Qb6 p1 p2 h0_0 x11 x6.2.1 x6.2.2
  else
   ( if p1 then
     Qb8 [101,110,100] h0_0 h0_1_ h0_2_>>=fun x13 =>
     if x13 then
      some true
     else
      if p2 then
       Qb8 [101,108,115,101] h0_0 h0_1_ h0_2_>>=fun x14 =>
       some x14
      else
       some false
    else
     if p2 then
      Qb8 [101,108,115,101] h0_0 h0_1_ h0_2_>>=fun x15 =>
      some x15
     else
      some false:Option (Bool))>>=fun o12 =>
   if o12 then
    some (.inr (v7,h0_1_,h0_2_))
   else
    Qau 2 h0_0 h0_1_ h0_2_>>=fun x16 =>
    Qal x16 h0_0 h0_1_ h0_2_>>=fun x17 =>
    Qau 3 h0_0 x17.2.1 x17.2.2>>=fun x18 =>
    if x18 then
     Qal true h0_0 x17.2.1 x17.2.2>>=fun x19 =>
     Qb6 p1 p2 h0_0 v7 x19.2.1 x19.2.2
    else
     Qhr h0_0 x17.2.1 x17.2.2>>=fun x20 =>
     appL 120 v7 [x20.1]>>=fun x21 =>
     Qb6 p1 p2 h0_0 x21 x20.2.1 x20.2.2
 else
  some (.inl (v7,h0_1_,h0_2_))
 partial_fixpoint
def Qhr (h0_0:(List Qak)) (h0_1:Int) (h0_2:Bool):Option (Qab×Int×Bool) :=
 Qa5 [105,102] h0_0 h0_1 h0_2>>=fun x1 =>
 if x1 then
  Qal true h0_0 h0_1 h0_2>>=fun x2 =>
  Qch h0_0 x2.2.1 x2.2.2>>=fun x3 =>
  Qck h0_0 x3.2.1 x3.2.2>>=fun x4 =>
  Qb9 true true h0_0 x4.1 x4.2>>=fun x5 =>
  ( Qb8 [101,108,115,101] h0_0 x5.2.1 x5.2.2>>=fun x7 =>
   if x7 then
    Qdv [101,108,115,101] h0_0 x5.2.1 x5.2.2>>=fun x8 =>
    Qb9 true false h0_0 x8.1 x8.2>>=fun x9 =>
    some (x9.2.1,x9.2.2,x9.1)
   else
    some (x5.2.1,x5.2.2,[]):Option ((Int×Bool×(List Qab))))>>=fun o6 =>
  Qdv [101,110,100] h0_0 o6.1 o6.2.1>>=fun x10 =>
  some ((Qab.mk 10 [] [] 0 [x3.1] x5.1 o6.2.2),x10.1,x10.2)
 else
  ( Qa5 [101,97,99,104] h0_0 h0_1 h0_2>>=fun x12 =>
   if x12 then
    some true
   else
    Qa5 [108,101,116] h0_0 h0_1 h0_2>>=fun x13 =>
    some x13:Option (Bool))>>=fun o11 =>
  if o11 then
   ( Qa5 [108,101,116] h0_0 h0_1 h0_2>>=fun x15 =>
    if x15 then
     some 12
    else
     some 11:Option (Int))>>=fun o14 =>
   Qal true h0_0 h0_1 h0_2>>=fun x16 =>
   Qdg h0_0 x16.2.1 x16.2.2>>=fun x17 =>
   ( if(o14==11) then
     Qa5 [105,110] h0_0 x17.2.1 x17.2.2>>=fun x19 =>
     Qal x19 h0_0 x17.2.1 x17.2.2>>=fun x20 =>
     some (x20.2.1,x20.2.2)
    else
     Qau 11 h0_0 x17.2.1 x17.2.2>>=fun x21 =>
     Qal x21 h0_0 x17.2.1 x17.2.2>>=fun x22 =>
     some (x22.2.1,x22.2.2):Option ((Int×Bool)))>>=fun o18 =>
   Qch h0_0 o18.1 o18.2>>=fun x23 =>
   Qck h0_0 x23.2.1 x23.2.2>>=fun x24 =>
   Qb9 true false h0_0 x24.1 x24.2>>=fun x25 =>
   Qdv [101,110,100] h0_0 x25.2.1 x25.2.2>>=fun x26 =>
   some ((Qab.mk o14 x17.1 [] 0 [x23.1] x25.1 []),x26.1,x26.2)
  else
   ( Qa5 [117,115,101] h0_0 h0_1 h0_2>>=fun x28 =>
    if x28 then
     Qal true h0_0 h0_1 h0_2>>=fun x29 =>
     Qdg h0_0 x29.2.1 x29.2.2>>=fun x30 =>
     some (x30.2.1,x30.2.2,13,x30.1)
    else
     some (h0_1,h0_2,9,[]):Option ((Int×Bool×Int×(List UInt8))))>>=fun o27 =>
   Qch h0_0 o27.1 o27.2.1>>=fun x31 =>
   Qck h0_0 x31.2.1 x31.2.2>>=fun x32 =>
   some ((Qab.mk o27.2.2.1 o27.2.2.2 [] 0 [x31.1] [] []),x32.1,x32.2)
 partial_fixpoint
end
theorem Qu3:∀ (h0_0:(List Qak)),(∀ (p1:Bool) (p2:Bool) (h0_1:Int) (h0_2:Bool) (o:(List Qab)×Int×Bool),Qb9 p1 p2 h0_0 h0_1 h0_2=some o→CallOK Tryz.prog 116 [.ptr 0 0,.p (bV p1),.p (bV p2)] ⟨[[.p (.sl false (h0_0.map Qai)),.p (iV h0_1),.p (bV h0_2)]],[]⟩ (Qgd o) ⟨[[.p (.sl false (h0_0.map Qai)),.p (iV o.2.1),.p (bV o.2.2)]],[]⟩)∧(∀ (p1:Bool) (p2:Bool) (v7:(List Qab)) (h0_1_:Int) (h0_2_:Bool) (o1:((List Qab)×Int×Bool)⊕((List Qab)×Int×Bool)),Qb6 p1 p2 h0_0 v7 h0_1_ h0_2_=some o1→TL (1,0) Tryz.prog 89 Qtl (JP2 (1,0) 89 o1 (.exit 0) (Qj4 p1 p2 h0_0) .ret (Qj5 p1 p2 h0_0)) (Qcg p1 p2 h0_0 v7 h0_1_ h0_2_))∧(∀ (h0_1:Int) (h0_2:Bool) (o:Qab×Int×Bool),Qhr h0_0 h0_1 h0_2=some o→CallOK Tryz.prog 146 [.ptr 0 0] ⟨[[.p (.sl false (h0_0.map Qai)),.p (iV h0_1),.p (bV h0_2)]],[]⟩ (Qfq o) ⟨[[.p (.sl false (h0_0.map Qai)),.p (iV o.2.1),.p (bV o.2.2)]],[]⟩):=by
 intro h0_0;refine Qb9.mutual_partial_correctness h0_0 _ _ _ ?_ ?_ ?_
 ·intro Qb6' iQb6 p1 p2 h0_1 h0_2 o h;refine CallOK.ofB mixed tbOk Qnn Tryz.func116 rfl (by kernel_rfl) (Nat.le_of_ble_eq_true rfl) rfl rfl rfl ?_;refine Qaj h (fun o1 ho hk=>?_);refine Exists.intro (JP2 _ _ o1 (.exit 0) (Qj4 p1 p2 h0_0) .ret (Qj5 p1 p2 h0_0)) (And.intro (Qhe (τ := Qcg p1 p2 h0_0 [] h0_1 h0_2) ?_ (TL.loop (iQb6 p1 p2 [] h0_1 h0_2 o1 ho))) (Qfg (fun y2 hy=>?_) (fun y3 hy=>?_)))
  ·exact Le.trans (τ := ⟨[(0,.ptr 0 0),(1,.p (bV p1)),(2,.p (bV p2)),(7,.p (.sl true []))],⟨[[.p (.sl false (h0_0.map Qai)),.p (iV h0_1),.p (bV h0_2)]],[]⟩⟩) (Le.tz 1 0 rfl rfl rfl) ((Le.xnil (.s 7) 38 7 rfl).trans (Le.tz 1 1 rfl rfl rfl))
  ·have h:=(by rw[hy] at hk; exact hk);refine Exists.intro _ (And.intro (Le.trans (τ := ⟨[(6,.x 0 1 (.sl 38 7 (y2.1.map Qaa)))],⟨[[.p (.sl false (h0_0.map Qai)),.p (iV y2.2.1),.p (bV y2.2.2)]],[1]⟩⟩) (Le.tz 1 1 rfl rfl rfl) ((Le.frzv (.s 6) 0 1 rfl rfl rfl rfl).trans (Le.refl _ _ _))) ?_);exact Qbb (t:=Qgd) (ss:=fun o=>⟨[[.p (.sl false (h0_0.map Qai)),.p (iV o.2.1),.p (bV o.2.2)]],[]⟩) h ⟨[],rfl,.refl _,.refl _,rfl⟩
  ·have h:=(by rw[hy] at hk; exact hk);refine Exists.intro _ (And.intro (Le.trans (τ := ⟨[(6,.x 0 1 (.sl 38 7 (y3.1.map Qaa)))],⟨[[.p (.sl false (h0_0.map Qai)),.p (iV y3.2.1),.p (bV y3.2.2)]],[1]⟩⟩) (Le.tz 1 1 rfl rfl rfl) ((Le.frzv (.s 6) 0 1 rfl rfl rfl rfl).trans (Le.refl _ _ _))) ?_);exact Qbb (t:=Qgd) (ss:=fun o=>⟨[[.p (.sl false (h0_0.map Qai)),.p (iV o.2.1),.p (bV o.2.2)]],[]⟩) h ⟨[],rfl,.refl _,.refl _,rfl⟩
 ·intro Qb6' Qhr' iQb6 iQhr p1 p2 v7 h0_1_ h0_2_ o1 h;refine TL.round (Qar mixed tbOk (lv:=Qnn) _ _ _ ?_);refine Qaj h (fun o4 ho hk=>?_);refine Exists.intro (JP1 _ _ o4 .normal (Qti p1 p2 h0_0 v7 h0_1_ h0_2_)) (And.intro ?_ (Qa4 ?_))
  ·have h:=ho;refine And.intro (by decide +kernel) (And.intro rfl ?_);refine Qac h (fun hb h=>?_) (fun hb h=>?_)
   ·refine view (Qaw _ _) rfl ?_;refine JP1.a h ?_;exact Le.tz 1 1 rfl rfl rfl
   ·refine JP1.a h ?_;exact Le.tz 1 1 rfl rfl rfl
  ·have h:=hk;refine Qac h (fun hb h=>?_) (fun hb h=>?_)
   ·refine Qaq _ _ h (fun x5 hy=>((Qa3 1 h0_0 h0_1_ h0_2_ x5 hy).fr [0] [] rfl rfl rfl)) (fun x5 hy h=>?_);refine Qac h (fun hb h=>?_) (fun hb h=>?_)
    ·refine Qaq _ _ h (fun x6 hy=>((Qat true h0_0 h0_1_ h0_2_ x6 hy).fr [0] [] rfl rfl rfl)) (fun x6 hy h=>?_);refine And.intro rfl (Exists.intro _ (And.intro (List.length_map _) ?_));refine Qaj h (fun o7 ho hk=>?_);refine Exists.intro (JP1 _ _ o7 .normal (Qtj p1 p2 h0_0 v7 x6)) (And.intro ?_ (Qa4 ?_))
     ·have h:=ho;refine Qac h (fun hb h=>?_) (fun hb h=>?_)
      ·refine Q1r (l:=v7) (c:=Qaa) (c' := Qa2) h rfl Qao (fun _=>rfl) (by decide) (fun x8 hi h=>?_);refine And.intro rfl ?_;refine And.intro rfl (And.intro (Nat.le_of_ble_eq_true rfl) ?_);refine JP1.a h ?_;exact Le.tz 1 1 rfl rfl rfl
      ·refine JP1.a h ?_;exact Le.tz 1 1 rfl rfl rfl
     ·have h:=hk;refine Qac h (fun hb h=>?_) (fun hb h=>?_)
      ·refine Q1r (l:=v7) (c:=Qaa) (c' := Qa2) h rfl Qao (fun _=>rfl) (by decide) (fun x9 hi h=>?_);refine And.intro rfl ?_;refine And.intro rfl (And.intro (Nat.le_of_ble_eq_true rfl) ?_);refine Qsc h (fun h=>?_);refine Q1r (l:=v7) (c:=Qaa) (c' := Qa2) h rfl Qao (fun _=>rfl) (by decide) (fun x10 hi h=>?_);refine And.intro rfl ?_;refine And.intro rfl (And.intro (Nat.le_of_ble_eq_true rfl) (And.intro rfl (And.intro rfl (Exists.intro ((v7.set ((wr ((v7.length:Int)-1)).toNat) (Qab.mk x10.Kind x10.Name (x9.Text++x6.1.Text) x10.N x10.L x10.Then x10.Else)).map Qaa) (And.intro (Qapy (.ceq (Qao _) (.refl _))) ?_)))));refine TL.le (τ := Qcg p1 p2 h0_0 (v7.set ((wr ((v7.length:Int)-1)).toNat) (Qab.mk x10.Kind x10.Name (x9.Text++x6.1.Text) x10.N x10.L x10.Then x10.Else)) x6.2.1 x6.2.2) ?_ ((iQb6 p1 p2 (v7.set ((wr ((v7.length:Int)-1)).toNat) (Qab.mk x10.Kind x10.Name (x9.Text++x6.1.Text) x10.N x10.L x10.Then x10.Else)) x6.2.1 x6.2.2 _ h));exact Le.trans (τ := ⟨[(0,.ptr 0 0),(1,.p (bV p1)),(2,.p (bV p2)),(7,.x 0 2 (.sl 38 7 ((v7.set ((wr ((v7.length:Int)-1)).toNat) (Qab.mk x10.Kind x10.Name (x9.Text++x6.1.Text) x10.N x10.L x10.Then x10.Else)).map Qaa)))],⟨[[.p (.sl false (h0_0.map Qai)),.p (iV x6.2.1),.p (bV x6.2.2)]],[2]⟩⟩) (Le.tz 1 1 rfl rfl rfl) ((Le.ver (.s 7) 0 2 1 rfl rfl rfl rfl).trans (Le.tz 1 1 rfl rfl rfl))
      ·refine Qvx (a:=v7) (b:=[(Qab.mk 8 [] x6.1.Text 0 [] [] [])]) (c:=Qaa) h (.cons (.ceq (Qao _) (.cons (.refl _) (.cons (.refl _) (.cons (.refl _) (.cons (.refl _) (.cons (.not) (.cons (.not) (.cons (.not) (.nil))))))))) (.nil)) (fun x=>by rw[Qao]; rfl) rfl (fun x11 hi h=>?_);refine TL.le (τ := Qcg p1 p2 h0_0 x11 x6.2.1 x6.2.2) ?_ ((iQb6 p1 p2 x11 x6.2.1 x6.2.2 _ h));exact Le.trans (τ := ⟨[(0,.ptr 0 0),(1,.p (bV p1)),(2,.p (bV p2)),(7,.x 0 2 (.sl 38 7 (x11.map Qaa)))],⟨[[.p (.sl false (h0_0.map Qai)),.p (iV x6.2.1),.p (bV x6.2.2)]],[2]⟩⟩) (Le.tz 1 1 rfl rfl rfl) ((Le.ver (.s 7) 0 2 1 rfl rfl rfl rfl).trans (Le.tz 1 1 rfl rfl rfl))
    ·refine Qaj h (fun o12 ho hk=>?_);refine Exists.intro (JP1 _ _ o12 .normal (Qtk p1 p2 h0_0 v7 h0_1_ h0_2_)) (And.intro ?_ (Qa4 ?_))
     ·have h:=ho;refine Qac h (fun hb h=>?_) (fun hb h=>?_)
      ·refine Qaq _ _ h (fun x13 hy=>((Qfw [101,110,100] h0_0 h0_1_ h0_2_ x13 hy).fr [0] [] rfl rfl rfl)) (fun x13 hy h=>?_);refine Qac h (fun hb h=>?_) (fun hb h=>?_)
       ·refine JP1.a h ?_;exact Le.tz 1 1 rfl rfl rfl
       ·refine Qac h (fun hb h=>?_) (fun hb h=>?_)
        ·refine Qaq _ _ h (fun x14 hy=>((Qfw [101,108,115,101] h0_0 h0_1_ h0_2_ x14 hy).fr [0] [] rfl rfl rfl)) (fun x14 hy h=>?_);refine JP1.a h ?_;exact Le.tz 1 1 rfl rfl rfl
        ·refine JP1.a h ?_;exact Le.tz 1 1 rfl rfl rfl
      ·refine bF ?_;refine Qac h (fun hb h=>?_) (fun hb h=>?_)
       ·refine Qaq _ _ h (fun x15 hy=>((Qfw [101,108,115,101] h0_0 h0_1_ h0_2_ x15 hy).fr [0] [] rfl rfl rfl)) (fun x15 hy h=>?_);refine JP1.a h ?_;exact Le.tz 1 1 rfl rfl rfl
       ·refine JP1.a h ?_;exact Le.tz 1 1 rfl rfl rfl
     ·have h:=hk;refine Qac h (fun hb h=>?_) (fun hb h=>?_)
      ·exact JP2.b h (Le.tz 1 1 rfl rfl rfl)
      ·refine Qaq _ _ h (fun x16 hy=>((Qa3 2 h0_0 h0_1_ h0_2_ x16 hy).fr [0] [] rfl rfl rfl)) (fun x16 hy h=>?_);refine Qaq _ _ h (fun x17 hy=>((Qat x16 h0_0 h0_1_ h0_2_ x17 hy).fr [0] [] rfl rfl rfl)) (fun x17 hy h=>?_);refine Qaq _ _ h (fun x18 hy=>((Qa3 3 h0_0 x17.2.1 x17.2.2 x18 hy).fr [0] [] rfl rfl rfl)) (fun x18 hy h=>?_);refine Qac h (fun hb h=>?_) (fun hb h=>?_)
       ·refine Qaq _ _ h (fun x19 hy=>((Qat true h0_0 x17.2.1 x17.2.2 x19 hy).fr [0] [] rfl rfl rfl)) (fun x19 hy h=>?_);refine TL.le (τ := Qcg p1 p2 h0_0 v7 x19.2.1 x19.2.2) ?_ ((iQb6 p1 p2 v7 x19.2.1 x19.2.2 _ h));exact Le.tz 1 1 rfl rfl rfl
       ·refine Qaq _ _ h (fun x20 hy=>((iQhr x17.2.1 x17.2.2 x20 hy).fr [0] [] rfl rfl rfl)) (fun x20 hy h=>?_);refine Qvx (a:=v7) (b:=[x20.1]) (c:=Qaa) h (.cons (.ceq (Qao _) (.refl _)) (.nil)) (fun x=>by rw[Qao]; rfl) rfl (fun x21 hi h=>?_);refine TL.le (τ := Qcg p1 p2 h0_0 x21 x20.2.1 x20.2.2) ?_ ((iQb6 p1 p2 x21 x20.2.1 x20.2.2 _ h));exact Le.trans (τ := ⟨[(0,.ptr 0 0),(1,.p (bV p1)),(2,.p (bV p2)),(7,.x 0 2 (.sl 38 7 (x21.map Qaa)))],⟨[[.p (.sl false (h0_0.map Qai)),.p (iV x20.2.1),.p (bV x20.2.2)]],[2]⟩⟩) (Le.tz 1 1 rfl rfl rfl) ((Le.ver (.s 7) 0 2 1 rfl rfl rfl rfl).trans (Le.tz 1 1 rfl rfl rfl))
   ·exact JP2.a h (Le.tz 1 1 rfl rfl rfl)
 ·intro Qb9' iQb9 h0_1 h0_2 o h;refine CallOK.ofB mixed tbOk Qux Tryz.func146 rfl (by kernel_rfl) (Nat.le_of_ble_eq_true rfl) rfl rfl rfl ?_;refine Qaq _ _ h (fun x1 hy=>((Qbn [105,102] h0_0 h0_1 h0_2 x1 hy).fr [0] [] rfl rfl rfl)) (fun x1 hy h=>?_);refine Qac h (fun hb h=>?_) (fun hb h=>?_)
  ·refine Qaq _ _ h (fun x2 hy=>((Qat true h0_0 h0_1 h0_2 x2 hy).fr [0] [] rfl rfl rfl)) (fun x2 hy h=>?_);refine Qaq _ _ h (fun x3 hy=>((Qjo h0_0 x2.2.1 x2.2.2 x3 hy).fr [0] [] rfl rfl rfl)) (fun x3 hy h=>?_);refine Qaq _ _ h (fun x4 hy=>((Qfx h0_0 x3.2.1 x3.2.2 x4 hy).fr [0] [] rfl rfl rfl)) (fun x4 hy h=>?_);refine Qaq _ _ h (fun x5 hy=>((iQb9 true true x4.1 x4.2 x5 hy).fr [0] [] rfl rfl rfl)) (fun x5 hy h=>?_);refine Qaj h (fun o6 ho hk=>?_);refine Exists.intro (JP1 _ _ o6 .normal (Qru h0_0 x3 x5)) (And.intro ?_ (Qa4 ?_))
   ·have h:=ho;refine Qaq _ _ h (fun x7 hy=>((Qfw [101,108,115,101] h0_0 x5.2.1 x5.2.2 x7 hy).fr [0] [] rfl rfl rfl)) (fun x7 hy h=>?_);refine Qac h (fun hb h=>?_) (fun hb h=>?_)
    ·refine Qaq _ _ h (fun x8 hy=>((Qkx [101,108,115,101] h0_0 x5.2.1 x5.2.2 x8 hy).fr [0] [] rfl rfl rfl)) (fun x8 hy h=>?_);refine Qaq _ _ h (fun x9 hy=>((iQb9 true false x8.1 x8.2 x9 hy).fr [0] [] rfl rfl rfl)) (fun x9 hy h=>?_);refine JP1.a h ?_;exact Le.tow 3 0 rfl (.cons rfl (.refl _) (.cons rfl (.refl _) (.cons rfl (.refl _) (.nil)))) (.cons (.refl _) (.cons (.refl _) (.cons (.cons (.refl _) (.cons (.refl _) (.cons (.refl _) (.cons (.refl _) (.cons (.p (.sl' (fun h=>h) (.cons (.ceq (Qao _) (.refl _)) (.nil)))) (.cons (.refl _) (.cons (.refl _) (.nil)))))))) (.nil)))) rfl
    ·refine JP1.a h ?_;exact Le.tow 3 0 rfl (.cons rfl (.refl _) (.cons rfl (.refl _) (.cons rfl (.refl _) (.nil)))) (.cons (.refl _) (.cons (.refl _) (.cons (.cons (.refl _) (.cons (.refl _) (.cons (.refl _) (.cons (.refl _) (.cons (.p (.sl' (fun h=>h) (.cons (.ceq (Qao _) (.refl _)) (.nil)))) (.cons (.refl _) (.cons (.p (.not)) (.nil)))))))) (.nil)))) rfl
   ·have h:=hk;refine Qaq _ _ h (fun x10 hy=>((Qkx [101,110,100] h0_0 o6.1 o6.2.1 x10 hy).fr [0] [] rfl rfl rfl)) (fun x10 hy h=>?_);refine Exists.intro _ (And.intro (Le.refl _ _ _) ?_);exact Qbb (t:=Qfq) (ss:=fun o=>⟨[[.p (.sl false (h0_0.map Qai)),.p (iV o.2.1),.p (bV o.2.2)]],[]⟩) h ⟨[],rfl,.p (.agg' (.cons (.refl _) (.cons (.refl _) (.cons (.refl _) (.cons (.refl _) (.cons (.not) (.cons (.refl _) (.cons (.refl _) (.nil))))))))),.refl _,rfl⟩
  ·refine Qaj h (fun o11 ho hk=>?_);refine Exists.intro (JP1 _ _ o11 .normal (Qrv h0_0 h0_1 h0_2)) (And.intro ?_ (Qa4 ?_))
   ·have h:=ho;refine Qaq _ _ h (fun x12 hy=>((Qbn [101,97,99,104] h0_0 h0_1 h0_2 x12 hy).fr [0] [] rfl rfl rfl)) (fun x12 hy h=>?_);refine Qac h (fun hb h=>?_) (fun hb h=>?_)
    ·refine JP1.a h ?_;exact Le.tz 2 0 rfl rfl rfl
    ·refine Qaq _ _ h (fun x13 hy=>((Qbn [108,101,116] h0_0 h0_1 h0_2 x13 hy).fr [0] [] rfl rfl rfl)) (fun x13 hy h=>?_);refine JP1.a h ?_;exact Le.tz 2 0 rfl rfl rfl
   ·have h:=hk;refine Qac h (fun hb h=>?_) (fun hb h=>?_)
    ·refine Qaj h (fun o14 ho hk=>?_);refine Exists.intro (JP1 _ _ o14 .normal (Qrw h0_0 h0_1 h0_2)) (And.intro ?_ (Qa4 ?_))
     ·have h:=ho;refine Qaq _ _ h (fun x15 hy=>((Qbn [108,101,116] h0_0 h0_1 h0_2 x15 hy).fr [0] [] rfl rfl rfl)) (fun x15 hy h=>?_);refine Qac h (fun hb h=>?_) (fun hb h=>?_)
      ·refine JP1.a h ?_;exact Le.tz 3 0 rfl rfl rfl
      ·refine JP1.a h ?_;exact Le.tz 3 0 rfl rfl rfl
     ·have h:=hk;refine Qaq _ _ h (fun x16 hy=>((Qat true h0_0 h0_1 h0_2 x16 hy).fr [0] [] rfl rfl rfl)) (fun x16 hy h=>?_);refine Qaq _ _ h (fun x17 hy=>((Qjn h0_0 x16.2.1 x16.2.2 x17 hy).fr [0] [] rfl rfl rfl)) (fun x17 hy h=>?_);refine Qaj h (fun o18 ho hk=>?_);refine Exists.intro (JP1 _ _ o18 .normal (Qrx h0_0 o14 x17)) (And.intro ?_ (Qa4 ?_))
      ·have h:=ho;refine Qac h (fun hb h=>?_) (fun hb h=>?_)
       ·refine Qaq _ _ h (fun x19 hy=>((Qbn [105,110] h0_0 x17.2.1 x17.2.2 x19 hy).fr [0] [] rfl rfl rfl)) (fun x19 hy h=>?_);refine Qaq _ _ h (fun x20 hy=>((Qat x19 h0_0 x17.2.1 x17.2.2 x20 hy).fr [0] [] rfl rfl rfl)) (fun x20 hy h=>?_);refine JP1.a h ?_;exact Le.tz 3 0 rfl rfl rfl
       ·refine Qaq _ _ h (fun x21 hy=>((Qa3 11 h0_0 x17.2.1 x17.2.2 x21 hy).fr [0] [] rfl rfl rfl)) (fun x21 hy h=>?_);refine Qaq _ _ h (fun x22 hy=>((Qat x21 h0_0 x17.2.1 x17.2.2 x22 hy).fr [0] [] rfl rfl rfl)) (fun x22 hy h=>?_);refine JP1.a h ?_;exact Le.tz 3 0 rfl rfl rfl
      ·have h:=hk;refine Qaq _ _ h (fun x23 hy=>((Qjo h0_0 o18.1 o18.2 x23 hy).fr [0] [] rfl rfl rfl)) (fun x23 hy h=>?_);refine Qaq _ _ h (fun x24 hy=>((Qfx h0_0 x23.2.1 x23.2.2 x24 hy).fr [0] [] rfl rfl rfl)) (fun x24 hy h=>?_);refine Qaq _ _ h (fun x25 hy=>((iQb9 true false x24.1 x24.2 x25 hy).fr [0] [] rfl rfl rfl)) (fun x25 hy h=>?_);refine Qaq _ _ h (fun x26 hy=>((Qkx [101,110,100] h0_0 x25.2.1 x25.2.2 x26 hy).fr [0] [] rfl rfl rfl)) (fun x26 hy h=>?_);refine Exists.intro _ (And.intro (Le.refl _ _ _) ?_);exact Qbb (t:=Qfq) (ss:=fun o=>⟨[[.p (.sl false (h0_0.map Qai)),.p (iV o.2.1),.p (bV o.2.2)]],[]⟩) h ⟨[],rfl,.p (.agg' (.cons (.refl _) (.cons (.refl _) (.cons (.refl _) (.cons (.refl _) (.cons (.no (.cons (.ceq (Qao _) (.refl _)) (.nil))) (.cons (.refl _) (.cons (.not) (.nil))))))))),.refl _,rfl⟩
    ·refine Qaj h (fun o27 ho hk=>?_);refine Exists.intro (JP1 _ _ o27 .normal (Qry h0_0)) (And.intro ?_ (Qa4 ?_))
     ·have h:=ho;refine Qaq _ _ h (fun x28 hy=>((Qbn [117,115,101] h0_0 h0_1 h0_2 x28 hy).fr [0] [] rfl rfl rfl)) (fun x28 hy h=>?_);refine Qac h (fun hb h=>?_) (fun hb h=>?_)
      ·refine Qaq _ _ h (fun x29 hy=>((Qat true h0_0 h0_1 h0_2 x29 hy).fr [0] [] rfl rfl rfl)) (fun x29 hy h=>?_);refine Qaq _ _ h (fun x30 hy=>((Qjn h0_0 x29.2.1 x29.2.2 x30 hy).fr [0] [] rfl rfl rfl)) (fun x30 hy h=>?_);refine JP1.a h ?_;exact Le.tz 3 0 rfl rfl rfl
      ·refine JP1.a h ?_;exact Le.tz 3 0 rfl rfl rfl
     ·have h:=hk;refine Qaq _ _ h (fun x31 hy=>((Qjo h0_0 o27.1 o27.2.1 x31 hy).fr [0] [] rfl rfl rfl)) (fun x31 hy h=>?_);refine Qaq _ _ h (fun x32 hy=>((Qfx h0_0 x31.2.1 x31.2.2 x32 hy).fr [0] [] rfl rfl rfl)) (fun x32 hy h=>?_);refine Exists.intro _ (And.intro (Le.refl _ _ _) ?_);exact Qbb (t:=Qfq) (ss:=fun o=>⟨[[.p (.sl false (h0_0.map Qai)),.p (iV o.2.1),.p (bV o.2.2)]],[]⟩) h ⟨[],rfl,.p (.agg' (.cons (.refl _) (.cons (.refl _) (.cons (.refl _) (.cons (.refl _) (.cons (.no (.cons (.ceq (Qao _) (.refl _)) (.nil))) (.cons (.not) (.cons (.not) (.nil))))))))),.refl _,rfl⟩
theorem Qwh:∀ (p1:Bool) (p2:Bool) (h0_0:(List Qak)) (h0_1:Int) (h0_2:Bool) (o:(List Qab)×Int×Bool),Qb9 p1 p2 h0_0 h0_1 h0_2=some o→CallOK Tryz.prog 116 [.ptr 0 0,.p (bV p1),.p (bV p2)] ⟨[[.p (.sl false (h0_0.map Qai)),.p (iV h0_1),.p (bV h0_2)]],[]⟩ (Qgd o) ⟨[[.p (.sl false (h0_0.map Qai)),.p (iV o.2.1),.p (bV o.2.2)]],[]⟩:=fun p1 p2 h0_0 h0_1 h0_2=>(Qu3 h0_0).1 p1 p2 h0_1 h0_2
def Qp1 (p0:(List UInt8)):Option ((List Qab)×Int×Int) :=
 Qms p0>>=fun x1 =>
 if(x1.2.2 != 0) then
  some ([],x1.2.1,x1.2.2)
 else
  Qb9 false false x1.1 0 false>>=fun x2 =>
  if x2.2.2 then
   if(decide (x2.2.1<(x1.1.length:Int))) then
    idx x1.1 x2.2.1>>=fun x3 =>
    some ([],x3.From,7)
   else
    some ([],(p0.length:Int),7)
  else
   Qd3 x2.1>>=fun x4 =>
   if(decide (x4>1024)) then
    some ([],0,5)
   else
    Qfj x2.1>>=fun x5 =>
    if(decide (x5>12)) then
     some ([],0,8)
    else
     some (x2.1,0,0)
theorem Qacr:∀ (p0:(List UInt8)) (o:(List Qab)×Int×Int),Qp1 p0=some o→PCall Tryz.prog 84 [sV p0] (Qg3 o):=by
 intro p0 o h;unfold Qp1 at h;refine PCall.ofB mixed tbOk Qacm Tryz.func84 rfl (by kernel_rfl) (Nat.le_of_ble_eq_true rfl) ?_;refine Qan [sV p0] Qll h (fun x1 hy=>(Q9b p0 x1 hy)) (fun x1 hy h=>?_);refine Qac h (fun hb h=>?_) (fun hb h=>?_)
 ·refine Qas (t:=Qg3) h ?_;exact .tup (xs:=[.sl true [],iV x1.2.1,iV x1.2.2]) (ys:=[.sl false [],iV x1.2.1,iV x1.2.2]) (.cons (.not) (.cons (.refl _) (.cons (.refl _) (.nil))))
 ·refine Qaq _ _ h (fun x2 hy=>((Qwh false false x1.1 0 false x2 hy).fr [0] [] rfl rfl rfl)) (fun x2 hy h=>?_);refine Qac h (fun hb h=>?_) (fun hb h=>?_)
  ·refine view (Qaw _ _) rfl ?_;refine Qac h (fun hb h=>?_) (fun hb h=>?_)
   ·refine And.intro (by decide +kernel) (And.intro rfl ?_);refine Qa8 (l:=x1.1) (c:=Qai) (c' := Qai) h (fun _=>rfl) (fun _=>rfl) (by decide) (fun x3 hi h=>?_);refine Qas (t:=Qg3) h ?_;exact .tup (xs:=[.sl true [],iV x3.From,iV 7]) (ys:=[.sl false [],iV x3.From,iV 7]) (.cons (.not) (.cons (.refl _) (.cons (.refl _) (.nil))))
   ·refine vrfl ?_;refine Qas (t:=Qg3) h ?_;exact .tup (xs:=[.sl true [],iV (p0.length:Int),iV 7]) (ys:=[.sl false [],iV (p0.length:Int),iV 7]) (.cons (.not) (.cons (.refl _) (.cons (.refl _) (.nil))))
  ·refine Qan [.sl false (x2.1.map Qaa)] Qgk h (fun x4 hy=>(Qze x2.1 x4 hy)) (fun x4 hy h=>?_);refine Qac h (fun hb h=>?_) (fun hb h=>?_)
   ·refine Qas (t:=Qg3) h ?_;exact .tup (xs:=[.sl true [],iV 0,iV 5]) (ys:=[.sl false [],iV 0,iV 5]) (.cons (.not) (.cons (.refl _) (.cons (.refl _) (.nil))))
   ·refine Qan [.sl false (x2.1.map Qaa)] Qiu h (fun x5 hy=>(Q2i x2.1 x5 hy)) (fun x5 hy h=>?_);refine Qac h (fun hb h=>?_) (fun hb h=>?_)
    ·refine Qas (t:=Qg3) h ?_;exact .tup (xs:=[.sl true [],iV 0,iV 8]) (ys:=[.sl false [],iV 0,iV 8]) (.cons (.not) (.cons (.refl _) (.cons (.refl _) (.nil))))
    ·refine Qas (t:=Qg3) h ?_;exact .refl _
mutual
def Qf5 (p0:(List Qae)) (p1:(List Qab)) (p2:Int):Option (Int) :=
 (Qfe p0 p1 p2 0 0)>>=fun o1 =>
 some o1
 partial_fixpoint
def Qfe (p0:(List Qae)) (p1:(List Qab)) (p2:Int) (v7:Int) (v8:Int):Option (Int) :=
 ( if(decide (v8<(p1.length:Int))) then
   some (decide (v7<p2))
  else
   some false:Option (Bool))>>=fun o2 =>
 if o2 then
  idx p1 v8>>=fun x3 =>
  Qf5 p0 x3.Then (wr (p2-v7))>>=fun x4 =>
  idx p1 v8>>=fun x5 =>
  Qf5 p0 x5.Else (wr (p2-v7))>>=fun x6 =>
  ( idx p1 v8>>=fun x8 =>
   if(x8.Kind==13) then
    some (decide ((wr ((wr ((wr (v7+1))+x4))+x6))<p2))
   else
    some false:Option (Bool))>>=fun o7 =>
  if o7 then
   idx p1 v8>>=fun x9 =>
   Qhm p0 x9.Name>>=fun x10 =>
   Qf5 p0 x10.1 (wr (p2-(wr ((wr ((wr (v7+1))+x4))+x6))))>>=fun x11 =>
   Qfe p0 p1 p2 (wr ((wr ((wr ((wr (v7+1))+x4))+x6))+x11)) (wr (v8+1))
  else
   Qfe p0 p1 p2 (wr ((wr ((wr (v7+1))+x4))+x6)) (wr (v8+1))
 else
  some v7
 partial_fixpoint
end
theorem Q9c:∀ (p0:(List Qae)),(∀ (p1:(List Qab)) (p2:Int) (o:Int),Qf5 p0 p1 p2=some o→PCall Tryz.prog 60 [.sl false (p0.map Qaf),.sl false (p1.map Qaa),iV p2] (Qik o))∧(∀ (p1:(List Qab)) (p2:Int) (v7:Int) (v8:Int) (o1:Int),Qfe p0 p1 p2 v7 v8=some o1→TL (0,0) Tryz.prog 76 Q4t (JP1 (0,0) 76 o1 (.exit 0) (Qtp p0 p1 p2)) (Qji p0 p1 p2 v7 v8)):=by
 intro p0;refine Qf5.mutual_partial_correctness p0 _ _ ?_ ?_
 ·intro Qfe' iQfe p1 p2 o h;refine PCall.ofB mixed tbOk Qzi Tryz.func60 rfl (by kernel_rfl) (Nat.le_of_ble_eq_true rfl) ?_;refine Qaj h (fun o1 ho hk=>?_);refine Exists.intro (JP1 _ _ o1 (.exit 0) (Qtp p0 p1 p2)) (And.intro (Qhe (τ := Qji p0 p1 p2 0 0) ?_ (TL.loop (iQfe p1 p2 0 0 o1 ho))) (Qa4 ?_))
  ·exact Le.tz 0 0 rfl rfl rfl
  have h:=hk;refine Qas (t:=Qik) h ?_;exact .refl _
 ·intro Qf5' Qfe' iQf5 iQfe p1 p2 v7 v8 o1 h;refine TL.round (Qar mixed tbOk (lv:=Qzi) _ _ _ ?_);refine Qaj h (fun o2 ho hk=>?_);refine Exists.intro (JP1 _ _ o2 .normal (Q4r p0 p1 p2 v7 v8)) (And.intro ?_ (Qa4 ?_))
  ·have h:=ho;refine view (Qaw _ _) rfl ?_;refine Qac h (fun hb h=>?_) (fun hb h=>?_)
   ·refine JP1.a h ?_;exact Le.tz 0 0 rfl rfl rfl
   ·refine JP1.a h ?_;exact Le.tz 0 0 rfl rfl rfl
  ·have h:=hk;refine Qac h (fun hb h=>?_) (fun hb h=>?_)
   ·refine And.intro (by decide +kernel) (And.intro rfl ?_);refine Qa8 (l:=p1) (c:=Qaa) (c' := Qa2) h Qao (fun _=>rfl) (by decide) (fun x3 hi h=>?_);refine Qdk [.sl false (p0.map Qaf),.sl false (x3.Then.map Qaa),iV (wr (p2-v7))] Qik h (fun x4 hy=>(iQf5 x3.Then (wr (p2-v7)) x4 hy)) (fun x4 hy h=>?_);refine Qa8 (l:=p1) (c:=Qaa) (c' := Qa2) h Qao (fun _=>rfl) (by decide) (fun x5 hi h=>?_);refine Qdk [.sl false (p0.map Qaf),.sl false (x5.Else.map Qaa),iV (wr (p2-v7))] Qik h (fun x6 hy=>(iQf5 x5.Else (wr (p2-v7)) x6 hy)) (fun x6 hy h=>?_);refine Qaj h (fun o7 ho hk=>?_);refine Exists.intro (JP1 _ _ o7 .normal (Q4s p0 p1 p2 v7 v8 x4 x6)) (And.intro ?_ (Qa4 ?_))
    ·have h:=ho;refine Qa8 (l:=p1) (c:=Qaa) (c' := Qa2) h Qao (fun _=>rfl) (by decide) (fun x8 hi h=>?_);refine Qac h (fun hb h=>?_) (fun hb h=>?_)
     ·refine JP1.a h ?_;exact Le.tz 0 0 rfl rfl rfl
     ·refine JP1.a h ?_;exact Le.tz 0 0 rfl rfl rfl
    ·have h:=hk;refine Qac h (fun hb h=>?_) (fun hb h=>?_)
     ·refine Qa8 (l:=p1) (c:=Qaa) (c' := Qa2) h Qao (fun _=>rfl) (by decide) (fun x9 hi h=>?_);refine Qan [.sl false (p0.map Qaf),sV x9.Name] Qe1 h (fun x10 hy=>(Qgr p0 x9.Name x10 hy)) (fun x10 hy h=>?_);refine Qan [.sl false (p0.map Qaf),.sl false (x10.1.map Qaa),iV (wr (p2-(wr ((wr ((wr (v7+1))+x4))+x6))))] Qik h (fun x11 hy=>(iQf5 x10.1 (wr (p2-(wr ((wr ((wr (v7+1))+x4))+x6)))) x11 hy)) (fun x11 hy h=>?_);refine TL.le (τ := Qji p0 p1 p2 (wr ((wr ((wr ((wr (v7+1))+x4))+x6))+x11)) (wr (v8+1))) ?_ ((iQfe p1 p2 (wr ((wr ((wr ((wr (v7+1))+x4))+x6))+x11)) (wr (v8+1)) _ h));exact Le.tz 0 0 rfl rfl rfl
     ·refine TL.le (τ := Qji p0 p1 p2 (wr ((wr ((wr (v7+1))+x4))+x6)) (wr (v8+1))) ?_ ((iQfe p1 p2 (wr ((wr ((wr (v7+1))+x4))+x6)) (wr (v8+1)) _ h));exact Le.tz 0 0 rfl rfl rfl
   ·exact JP1.a h (Le.tz 0 0 rfl rfl rfl)
theorem Qacs:∀ (p0:(List Qae)) (p1:(List Qab)) (p2:Int) (o:Int),Qf5 p0 p1 p2=some o→PCall Tryz.prog 60 [.sl false (p0.map Qaf),.sl false (p1.map Qaa),iV p2] (Qik o):=fun p0 p1 p2=>(Q9c p0).1 p1 p2
def Qg7 (p0:(List Qah)) (p1:(List UInt8)) (v5:Int):Option (Unit⊕Bool) :=
 if(decide (v5 ≥ 0)) then
  idx p0 v5>>=fun x4 =>
  if(x4.Name==p1) then
   idx p0 v5>>=fun x5 =>
   some (.inr x5.Secret)
  else
   Qg7 p0 p1 (wr (v5-1))
 else
  some (.inl ())
 partial_fixpoint
theorem Qaim:∀ (p0:(List Qah)) (p1:(List UInt8)),(∀ (v5:Int) (o1:Unit⊕Bool),Qg7 p0 p1 v5=some o1→TL (0,0) Tryz.prog 25 Q44 (JP2 (0,0) 25 o1 (.exit 0) (Qts p0 p1) .ret (Qtt p0 p1)) (Qnp p0 p1 v5)):=by
 intro p0 p1;refine Qg7.partial_correctness p0 p1 _ ?_;intro Qg7' iQg7 v5 o1 h;refine TL.round (Qar mixed tbOk (lv:=Qzk) _ _ _ ?_);refine Qac h (fun hb h=>?_) (fun hb h=>?_)
 ·refine Qa8 (l:=p0) (c:=Qam) (c' := Qam) h (fun _=>rfl) (fun _=>rfl) (by decide) (fun x4 hi h=>?_);refine Qac h (fun hb h=>?_) (fun hb h=>?_)
  ·refine Qa8 (l:=p0) (c:=Qam) (c' := Qam) h (fun _=>rfl) (fun _=>rfl) (by decide) (fun x5 hi h=>?_);exact JP2.b h (Le.tz 0 0 rfl rfl rfl)
  ·refine TL.le (τ := Qnp p0 p1 (wr (v5-1))) ?_ ((iQg7 (wr (v5-1)) _ h));exact Le.tz 0 0 rfl rfl rfl
 ·exact JP2.a h (Le.tz 0 0 rfl rfl rfl)
def Qtw (p0:(List Qah)) (p1:(List UInt8)):Option (Bool) :=
 (Qg7 p0 p1 (wr ((p0.length:Int)-1)))>>=fun o1 =>
 match o1 with
 | .inl y2 =>
  some false
 | .inr y3 =>
  some y3
theorem Qact:∀ (p0:(List Qah)) (p1:(List UInt8)) (o:Bool),Qtw p0 p1=some o→PCall Tryz.prog 58 [.sl false (p0.map Qam),sV p1] (Qqw o):=by
 intro p0 p1 o h;unfold Qtw at h;refine PCall.ofB mixed tbOk Qzk Tryz.func58 rfl (by kernel_rfl) (Nat.le_of_ble_eq_true rfl) ?_;refine view (Qaw _ _) rfl ?_;refine Qaj h (fun o1 ho hk=>?_);refine Exists.intro (JP2 _ _ o1 (.exit 0) (Qts p0 p1) .ret (Qtt p0 p1)) (And.intro (Qhe (τ := Qnp p0 p1 (wr ((p0.length:Int)-1))) ?_ (TL.loop (Qaim p0 p1 (wr ((p0.length:Int)-1)) o1 ho))) (Qfg (fun y2 hy=>?_) (fun y3 hy=>?_)))
 ·exact Le.tz 0 0 rfl rfl rfl
 ·have h:=(by rw[hy] at hk; exact hk);refine Qas (t:=Qqw) h ?_;exact .refl _
 ·have h:=(by rw[hy] at hk; exact hk);refine Qas (t:=Qqw) h ?_;exact .refl _
mutual
def Qog (p0:Qab) (p1:(List Qah)):Option (Bool) :=
 if(p0.Kind==7) then
  some true
 else
  if(p0.Kind==4) then
   Qtw p1 p0.Name>>=fun x1 =>
   some x1
  else
   ( if(p0.Kind != 5) then
     some (p0.Kind != 6)
    else
     some false:Option (Bool))>>=fun o2 =>
   if o2 then
    some false
   else
    (Qky p0 p1 0)>>=fun o3 =>
    match o3 with
    | .inl y4 =>
     some false
    | .inr y5 =>
     some true
 partial_fixpoint
def Qky (p0:Qab) (p1:(List Qah)) (v5:Int):Option (Unit⊕Unit) :=
 if(decide (v5<(p0.L.length:Int))) then
  idx p0.L v5>>=fun x6 =>
  Qog x6 p1>>=fun x7 =>
  if x7 then
   some (.inr ())
  else
   Qky p0 p1 (wr (v5+1))
 else
  some (.inl ())
 partial_fixpoint
end
theorem Qacu:∀ (p1:(List Qah)),(∀ (p0:Qab) (o:Bool),Qog p0 p1=some o→PCall Tryz.prog 24 [.agg [iV p0.Kind,sV p0.Name,sV p0.Text,iV p0.N,.sl false (p0.L.map Qaa),.sl false (p0.Then.map Qaa),.sl false (p0.Else.map Qaa)],.sl false (p1.map Qam)] (Qhq o))∧(∀ (p0:Qab) (v5:Int) (o3:Unit⊕Unit),Qky p0 p1 v5=some o3→TL (0,0) Tryz.prog 38 Q88 (JP2 (0,0) 38 o3 (.exit 0) (Qvr p0 p1) .ret (Qvs p0 p1)) (Qo0 p0 p1 v5)):=by
 intro p1;refine Qog.mutual_partial_correctness p1 _ _ ?_ ?_
 ·intro Qky' iQky p0 o h;refine PCall.ofB mixed tbOk Q2w Tryz.func24 rfl (by kernel_rfl) (Nat.le_of_ble_eq_true rfl) ?_;refine Qac h (fun hb h=>?_) (fun hb h=>?_)
  ·refine Qas (t:=Qhq) h ?_;exact .refl _
  ·refine Qac h (fun hb h=>?_) (fun hb h=>?_)
   ·refine Qan [.sl false (p1.map Qam),sV p0.Name] Qqw h (fun x1 hy=>(Qact p1 p0.Name x1 hy)) (fun x1 hy h=>?_);refine Qas (t:=Qhq) h ?_;exact .refl _
   ·refine Qaj h (fun o2 ho hk=>?_);refine Exists.intro (JP1 _ _ o2 .normal (Q87 p0 p1)) (And.intro ?_ (Qa4 ?_))
    ·have h:=ho;refine Qac h (fun hb h=>?_) (fun hb h=>?_)
     ·refine JP1.a h ?_;exact Le.tz 1 0 rfl rfl rfl
     ·refine JP1.a h ?_;exact Le.tz 1 0 rfl rfl rfl
    ·have h:=hk;refine Qac h (fun hb h=>?_) (fun hb h=>?_)
     ·refine Qas (t:=Qhq) h ?_;exact .refl _
     ·refine Qaj h (fun o3 ho hk=>?_);refine Exists.intro (JP2 _ _ o3 (.exit 0) (Qvr p0 p1) .ret (Qvs p0 p1)) (And.intro (Qhe (τ := Qo0 p0 p1 0) ?_ (TL.loop (iQky p0 0 o3 ho))) (Qfg (fun y4 hy=>?_) (fun y5 hy=>?_)))
      ·exact Le.tz 1 0 rfl rfl rfl
      ·have h:=(by rw[hy] at hk; exact hk);refine Qas (t:=Qhq) h ?_;exact .refl _
      ·have h:=(by rw[hy] at hk; exact hk);refine Qas (t:=Qhq) h ?_;exact .refl _
 ·intro Qog' Qky' iQog iQky p0 v5 o3 h;refine TL.round (Qar mixed tbOk (lv:=Q2w) _ _ _ ?_);refine view (Qaw _ _) rfl ?_;refine Qac h (fun hb h=>?_) (fun hb h=>?_)
  ·refine Qa8 (l:=p0.L) (c:=Qaa) (c' := Qa2) h Qao (fun _=>rfl) (by decide) (fun x6 hi h=>?_);refine Qan [.agg [iV x6.Kind,sV x6.Name,sV x6.Text,iV x6.N,.sl false (x6.L.map Qaa),.sl false (x6.Then.map Qaa),.sl false (x6.Else.map Qaa)],.sl false (p1.map Qam)] Qhq h (fun x7 hy=>(iQog x6 x7 hy)) (fun x7 hy h=>?_);refine Qac h (fun hb h=>?_) (fun hb h=>?_)
   ·exact JP2.b h (Le.tz 1 0 rfl rfl rfl)
   ·refine TL.le (τ := Qo0 p0 p1 (wr (v5+1))) ?_ ((iQky p0 (wr (v5+1)) _ h));exact Le.tz 1 0 rfl rfl rfl
  ·exact JP2.a h (Le.tz 1 0 rfl rfl rfl)
theorem Qaex:∀ (p0:Qab) (p1:(List Qah)) (o:Bool),Qog p0 p1=some o→PCall Tryz.prog 24 [.agg [iV p0.Kind,sV p0.Name,sV p0.Text,iV p0.N,.sl false (p0.L.map Qaa),.sl false (p0.Then.map Qaa),.sl false (p0.Else.map Qaa)],.sl false (p1.map Qam)] (Qhq o):=fun p0 p1=>(Qacu p1).1 p0
mutual
def Qe6 (p0:(List Qae)) (p1:(List UInt8)) (p2:(List Qab)) (p3:(List Qah)):Option (Qa6) :=
 (Qdh p0 p1 p2 p3 0 false)>>=fun o1 =>
 match o1 with
 | .inl y2 =>
  some (Qa6.mk [] false y2)
 | .inr y3 =>
  some (Qa6.mk y3.1 y3.2.1 y3.2.2.1)
 partial_fixpoint
def Qdh (p0:(List Qae)) (p1:(List UInt8)) (p2:(List Qab)) (p3:(List Qah)) (v10:Int) (h1_2:Bool):Option (Bool⊕((List UInt8)×Bool×Bool×Bool)) :=
 ( if(decide (v10<(p2.length:Int))) then
   some true
  else
   some false:Option (Bool))>>=fun o4 =>
 if o4 then
  idx p2 v10>>=fun x5 =>
  if(x5.Kind==8) then
   Qdh p0 p1 p2 p3 (wr (v10+1)) h1_2
  else
   idx x5.L 0>>=fun x6 =>
   Qog x6 p3>>=fun x7 =>
   ( ( if(x5.Kind==9) then
      some x7
     else
      some false:Option (Bool))>>=fun o9 =>
    if o9 then
     some true
    else
     some h1_2:Option (Bool))>>=fun o8 =>
   ( if x7 then
     if(x5.Kind==10) then
      some true
     else
      some (x5.Kind==11)
    else
     some false:Option (Bool))>>=fun o10 =>
   if o10 then
    some (.inr (p1,true,false,o8))
   else
    appL 32 [] p3>>=fun x11 =>
    ( if(x5.Kind==11) then
      appL 32 x11 [(Qah.mk x5.Name 0 false)]>>=fun x13 =>
      some x13
     else
      some x11:Option ((List Qah)))>>=fun o12 =>
    ( if(x5.Kind==12) then
      appL 32 o12 [(Qah.mk x5.Name 0 x7)]>>=fun x15 =>
      some x15
     else
      some o12:Option ((List Qah)))>>=fun o14 =>
    Qe6 p0 p1 x5.Then o14>>=fun x16 =>
    Qe6 p0 p1 x5.Else p3>>=fun x17 =>
    ( if(x5.Kind==13) then
      Qhm p0 x5.Name>>=fun x19 =>
      Qe6 p0 x5.Name x19.1 ([(Qah.mk [103,114,111,117,112] 0 false),(Qah.mk [105,116] 0 x7)])>>=fun x20 =>
      some (x20.Where,x20.Bad,x20.Tells)
     else
      some ([],false,false):Option (((List UInt8)×Bool×Bool)))>>=fun o18 =>
    ( if o8 then
      some true
     else
      if x16.Tells then
       some true
      else
       if x17.Tells then
        some true
       else
        some o18.2.2:Option (Bool))>>=fun o21 =>
    if x16.Bad then
     some (.inr (x16.Where,x16.Bad,x16.Tells,o21))
    else
     if x17.Bad then
      some (.inr (x17.Where,x17.Bad,x17.Tells,o21))
     else
      if o18.2.1 then
       some (.inr (o18.1,o18.2.1,o18.2.2,o21))
      else
       Qdh p0 p1 p2 p3 (wr (v10+1)) o21
 else
  some (.inl h1_2)
 partial_fixpoint
end
theorem Q9d:∀ (p0:(List Qae)),(∀ (p1:(List UInt8)) (p2:(List Qab)) (p3:(List Qah)) (o:Qa6),Qe6 p0 p1 p2 p3=some o→PCall Tryz.prog 86 [.sl false (p0.map Qaf),sV p1,.sl false (p2.map Qaa),.sl false (p3.map Qam)] (Qg5 o))∧(∀ (p1:(List UInt8)) (p2:(List Qab)) (p3:(List Qah)) (v10:Int) (h1_2:Bool) (o1:Bool⊕((List UInt8)×Bool×Bool×Bool)),Qdh p0 p1 p2 p3 v10 h1_2=some o1→TL (0,0) Tryz.prog 143 Q42 (JP2 (0,0) 143 o1 (.exit 0) (Qtq p0 p1 p2 p3) .ret (Qtr p0 p1 p2 p3)) (Qjj p0 p1 p2 p3 v10 h1_2)):=by
 intro p0;refine Qe6.mutual_partial_correctness p0 _ _ ?_ ?_
 ·intro Qdh' iQdh p1 p2 p3 o h;refine PCall.ofB mixed tbOk Qzj Tryz.func86 rfl (by kernel_rfl) (Nat.le_of_ble_eq_true rfl) ?_;refine Qaj h (fun o1 ho hk=>?_);refine Exists.intro (JP2 _ _ o1 (.exit 0) (Qtq p0 p1 p2 p3) .ret (Qtr p0 p1 p2 p3)) (And.intro (Qhe (τ := Qjj p0 p1 p2 p3 0 false) ?_ (TL.loop (iQdh p1 p2 p3 0 false o1 ho))) (Qfg (fun y2 hy=>?_) (fun y3 hy=>?_)))
  ·exact Le.tz 2 0 rfl rfl rfl
  ·have h:=(by rw[hy] at hk; exact hk);refine Qas (t:=Qg5) h ?_;exact .refl _
  ·have h:=(by rw[hy] at hk; exact hk);refine Qas (t:=Qg5) h ?_;exact .refl _
 ·intro Qe6' Qdh' iQe6 iQdh p1 p2 p3 v10 h1_2 o1 h;refine TL.round (Qar mixed tbOk (lv:=Qzj) _ _ _ ?_);refine Qaj h (fun o4 ho hk=>?_);refine Exists.intro (JP1 _ _ o4 .normal (Q4u p0 p1 p2 p3 v10 h1_2)) (And.intro ?_ (Qa4 ?_))
  ·have h:=ho;refine view (Qaw _ _) rfl ?_;refine Qac h (fun hb h=>?_) (fun hb h=>?_)
   ·refine JP1.a h ?_;exact Le.tz 2 0 rfl rfl rfl
   ·refine JP1.a h ?_;exact Le.tz 2 0 rfl rfl rfl
  ·have h:=hk;refine Qac h (fun hb h=>?_) (fun hb h=>?_)
   ·refine Qa8 (l:=p2) (c:=Qaa) (c' := Qa2) h Qao (fun _=>rfl) (by decide) (fun x5 hi h=>?_);refine Qac h (fun hb h=>?_) (fun hb h=>?_)
    ·refine TL.le (τ := Qjj p0 p1 p2 p3 (wr (v10+1)) h1_2) ?_ ((iQdh p1 p2 p3 (wr (v10+1)) h1_2 _ h));exact Le.tz 2 0 rfl rfl rfl
    ·refine Qa8 (l:=x5.L) (c:=Qaa) (c' := Qa2) h Qao (fun _=>rfl) (by decide) (fun x6 hi h=>?_);refine Qan [.agg [iV x6.Kind,sV x6.Name,sV x6.Text,iV x6.N,.sl false (x6.L.map Qaa),.sl false (x6.Then.map Qaa),.sl false (x6.Else.map Qaa)],.sl false (p3.map Qam)] Qhq h (fun x7 hy=>(Qaex x6 p3 x7 hy)) (fun x7 hy h=>?_);refine Qaj h (fun o8 ho hk=>?_);refine Exists.intro (JP1 _ _ o8 .normal (Q4v p0 p1 p2 p3 v10 x5 x7)) (And.intro ?_ (Qa4 ?_))
     ·have h:=ho;refine Qaj h (fun o9 ho hk=>?_);refine Exists.intro (JP1 _ _ o9 .normal (Q4w p0 p1 p2 p3 v10 h1_2 x5 x7)) (And.intro ?_ (Qa4 ?_))
      ·have h:=ho;refine Qac h (fun hb h=>?_) (fun hb h=>?_)
       ·refine JP1.a h ?_;exact Le.tz 3 0 rfl rfl rfl
       ·refine JP1.a h ?_;exact Le.tz 3 0 rfl rfl rfl
      ·have h:=hk;refine Qac h (fun hb h=>?_) (fun hb h=>?_)
       ·refine JP1.a h ?_;exact Le.tz 3 0 rfl rfl rfl
       ·refine JP1.a h ?_;exact Le.tz 3 0 rfl rfl rfl
     ·have h:=hk;refine Qaj h (fun o10 ho hk=>?_);refine Exists.intro (JP1 _ _ o10 .normal (Q4x p0 p1 p2 p3 v10 x5 x7 o8)) (And.intro ?_ (Qa4 ?_))
      ·have h:=ho;refine Qac h (fun hb h=>?_) (fun hb h=>?_)
       ·refine Qac h (fun hb h=>?_) (fun hb h=>?_)
        ·refine JP1.a h ?_;exact Le.tz 3 0 rfl rfl rfl
        ·refine JP1.a h ?_;exact Le.tz 3 0 rfl rfl rfl
       ·refine JP1.a h ?_;exact Le.tz 3 0 rfl rfl rfl
      ·have h:=hk;refine Qac h (fun hb h=>?_) (fun hb h=>?_)
       ·exact JP2.b h (Le.tz 2 0 rfl rfl rfl)
       ·refine Qaee (a:=([]:List Qah)) (b:=p3) (c:=Qam) h (.refl _) (.refl _) (fun _=>rfl) (.inl rfl) (fun x11 hi h=>?_);refine Qaj h (fun o12 ho hk=>?_);refine Exists.intro (JP1 _ _ o12 .normal (Q4y p0 p1 p2 p3 v10 x5 x7 o8)) (And.intro ?_ (Qa4 ?_))
        ·have h:=ho;refine Qac h (fun hb h=>?_) (fun hb h=>?_)
         ·refine Qi4 (a:=x11) (b:=[(Qah.mk x5.Name 0 false)]) (c:=Qam) h (.refl _) (fun _=>rfl) rfl (fun x13 hi h=>?_);refine JP1.a h ?_;exact Le.tz 3 1 rfl rfl rfl
         ·refine JP1.a h ?_;exact Le.tz 3 1 rfl rfl rfl
        ·have h:=hk;refine Qaj h (fun o14 ho hk=>?_);refine Exists.intro (JP1 _ _ o14 .normal (Q4z p0 p1 p2 p3 v10 x5 x7 o8)) (And.intro ?_ (Qa4 ?_))
         ·have h:=ho;refine Qac h (fun hb h=>?_) (fun hb h=>?_)
          ·refine Qi4 (a:=o12) (b:=[(Qah.mk x5.Name 0 x7)]) (c:=Qam) h (.refl _) (fun _=>rfl) rfl (fun x15 hi h=>?_);refine JP1.a h ?_;exact Le.tz 3 1 rfl rfl rfl
          ·refine JP1.a h ?_;exact Le.tz 3 1 rfl rfl rfl
         ·have h:=hk;refine Qan [.sl false (p0.map Qaf),sV p1,.sl false (x5.Then.map Qaa),.sl false (o14.map Qam)] Qg5 h (fun x16 hy=>(iQe6 p1 x5.Then o14 x16 hy)) (fun x16 hy h=>?_);refine Qan [.sl false (p0.map Qaf),sV p1,.sl false (x5.Else.map Qaa),.sl false (p3.map Qam)] Qg5 h (fun x17 hy=>(iQe6 p1 x5.Else p3 x17 hy)) (fun x17 hy h=>?_);refine Qaj h (fun o18 ho hk=>?_);refine Exists.intro (JP1 _ _ o18 .normal (Q40 p0 p1 p2 p3 v10 x5 o8 o14 x16 x17)) (And.intro ?_ (Qa4 ?_))
          ·have h:=ho;refine Qac h (fun hb h=>?_) (fun hb h=>?_)
           ·refine Qan [.sl false (p0.map Qaf),sV x5.Name] Qe1 h (fun x19 hy=>(Qgr p0 x5.Name x19 hy)) (fun x19 hy h=>?_);refine Qan [.sl false (p0.map Qaf),sV x5.Name,.sl false (x19.1.map Qaa),.sl true [[sV [103,114,111,117,112],iV 0,bV false],[sV [105,116],iV 0,bV x7]]] Qg5 h (fun x20 hy=>(iQe6 x5.Name x19.1 ([(Qah.mk [103,114,111,117,112] 0 false),(Qah.mk [105,116] 0 x7)]) x20 hy).weak (.cons (.refl _) (.cons (.refl _) (.cons (.refl _) (.cons (.not) (.nil)))))) (fun x20 hy h=>?_);refine JP1.a h ?_;exact Le.tz 6 1 rfl rfl rfl
           ·refine JP1.a h ?_;exact Le.tz 6 1 rfl rfl rfl
          ·have h:=hk;refine Qaj h (fun o21 ho hk=>?_);refine Exists.intro (JP1 _ _ o21 .normal (Q41 p0 p1 p2 p3 v10 x5 o14 x16 x17 o18)) (And.intro ?_ (Qa4 ?_))
           ·have h:=ho;refine Qac h (fun hb h=>?_) (fun hb h=>?_)
            ·refine bT ?_;refine bT ?_;refine JP1.a h ?_;exact Le.tz 6 1 rfl rfl rfl
            ·refine Qac h (fun hb h=>?_) (fun hb h=>?_)
             ·refine bT ?_;refine JP1.a h ?_;exact Le.tz 6 1 rfl rfl rfl
             ·refine Qac h (fun hb h=>?_) (fun hb h=>?_)
              ·refine JP1.a h ?_;exact Le.tz 6 1 rfl rfl rfl
              ·refine JP1.a h ?_;exact Le.tz 6 1 rfl rfl rfl
           ·have h:=hk;refine Qac h (fun hb h=>?_) (fun hb h=>?_)
            ·exact JP2.b h (Le.tz 2 0 rfl rfl rfl)
            ·refine Qac h (fun hb h=>?_) (fun hb h=>?_)
             ·exact JP2.b h (Le.tz 2 0 rfl rfl rfl)
             ·refine Qac h (fun hb h=>?_) (fun hb h=>?_)
              ·exact JP2.b h (Le.tz 2 0 rfl rfl rfl)
              ·refine TL.le (τ := Qjj p0 p1 p2 p3 (wr (v10+1)) o21) ?_ ((iQdh p1 p2 p3 (wr (v10+1)) o21 _ h));exact Le.tz 2 0 rfl rfl rfl
   ·exact JP2.a h (Le.tz 2 0 rfl rfl rfl)
theorem Qacv:∀ (p0:(List Qae)) (p1:(List UInt8)) (p2:(List Qab)) (p3:(List Qah)) (o:Qa6),Qe6 p0 p1 p2 p3=some o→PCall Tryz.prog 86 [.sl false (p0.map Qaf),sV p1,.sl false (p2.map Qaa),.sl false (p3.map Qam)] (Qg5 o):=fun p0 p1 p2 p3=>(Q9d p0).1 p1 p2 p3
def Qp2 (p0:(List Qae)) (p1:(List UInt8)):Option (Qa6×(List UInt8)×Int) :=
 Qpt p0>>=fun x1 =>
 if(x1.2 != 0) then
  some ((Qa6.mk [] false false),x1.1,x1.2)
 else
  Qhm p0 p1>>=fun x2 =>
  if(!x2.2) then
   some ((Qa6.mk [] false false),[],4)
  else
   Qe6 p0 p1 x2.1 ([(Qah.mk [103,114,111,117,112] 0 false)])>>=fun x3 =>
   if x3.Bad then
    some (x3,x3.Where,205)
   else
    some (x3,[],0)
end Go.Proofs.YtfgegilhjlnohaaGreat
end
