/- The proof's texts, part 10 of 12: the walks by a logic in which data are by value, the plain laws, and at the end the law, for every input. -/
import Derived.Test.YtfgegilhjlnohaaGreatMgSecrecyHands9

noncomputable section
set_option linter.unusedVariables false
set_option linter.unusedSimpArgs false
set_option maxRecDepth 100000
set_option maxHeartbeats 4000000
namespace Go.Proofs.YtfgegilhjlnohaaGreat
open Go.RowKit
structure Qak where
 Name:(List UInt8)
 K:Int
 Secret:Bool
def Qar (x:Qak):List V:=[sV x.Name,iV x.K,bV x.Secret]
structure Qcj where
 Where:(List UInt8)
 Bad:Bool
 Tells:Bool
structure Qaf where
 name_:(List UInt8)
 it_:Bool
def Qam (x:Qaf):List V:=[sV x.name_,bV x.it_]
structure Qai where
 Kind:Int
 Text:(List UInt8)
 N:Int
 From:Int
 To:Int
def Qag (x:Qai):List V:=[iV x.Kind,sV x.Text,iV x.N,iV x.From,iV x.To]
def Qvm (y:Int×Bool):D :=.tup [.p (iV y.1),.p (bV y.2)]
def Qjp (y:(List Qai)×Int×Int):D :=.tup [.p (.sl false (y.1.map Qag)),.p (iV y.2.1),.p (iV y.2.2)]
def Qob:List (Nat×List Nat):=[(0,[0]),(1,[0,12]),(2,[2,3,4]),(3,[0,5]),(4,[0,5,6]),(5,[0,5,6,17]),(6,[0,5,6,7]),(7,[0,5,6,7,23]),(8,[0,5,7]),(9,[0,5,7,37]),(10,[2,3,4]),(11,[0,5,7]),(12,[0,5,6]),(13,[0,5,6,52]),(14,[0,5,6]),(15,[0,5,6]),(16,[0,5,6,62]),(17,[2,3,4]),(18,[0,5,6,8,9]),(19,[0,5,6,8,71]),(20,[2,3,4]),(21,[0,5,8]),(22,[0,5,6,8]),(23,[0,5,6,81]),(24,[2,3,4]),(1000005,[0,5,6]),(1000015,[0,5,6]),(2007005,[]),(2013005,[])]
def Qyl (p0:(List UInt8)) (x4:Int) (o5:(List Qai)):St:=⟨[(0,.p (sV p0)),(5,.own 0 147 5 (o5.map Qag)),(7,.p (iV x4))],⟨[],[(o5.map Qag).length]⟩⟩
def Qym (p0:(List UInt8)) (x8:(List Qai)) (o10:Int):St:=⟨[(0,.p (sV p0)),(5,.own 0 147 5 (x8.map Qag)),(6,.p (iV o10))],⟨[],[(x8.map Qag).length]⟩⟩
def Qj7 (p0:(List UInt8)) (v5_:(List Qai)) (v6_:Int):St:=⟨[(0,.p (sV p0)),(5,.own 0 147 5 (v5_.map Qag)),(6,.p (iV v6_))],⟨[],[(v5_.map Qag).length]⟩⟩
def Qox (p0:(List UInt8)) (y14:(List Qai)×Int):St:=⟨[(0,.p (sV p0)),(5,.own 0 147 5 (y14.1.map Qag)),(6,.p (iV y14.2))],⟨[],[(y14.1.map Qag).length]⟩⟩
def Qoy (p0:(List UInt8)) (y15:Int):St:=⟨[(2,.p (.sl true [])),(3,.p (iV y15)),(4,.p (iV 7))],⟨[],[]⟩⟩
def Qyn:Code:=((Qa4 (Tryz.f115.body.getD .skip)).getD 1 .skip)
def Qj8 (p0:(List UInt8)) (v5:(List Qai)) (v6:Int):St:=⟨[(0,.p (sV p0)),(5,.own 0 147 5 (v5.map Qag)),(6,.p (iV v6))],⟨[],[(v5.map Qag).length]⟩⟩
def Qoz (p0:(List UInt8)) (y2:(List Qai)):St:=⟨[(5,.own 0 147 5 (y2.map Qag))],⟨[],[(y2.map Qag).length]⟩⟩
def Qo0 (p0:(List UInt8)) (y3:(List Qai)×Int×Int):St:=⟨[(2,.p (.sl false (y3.1.map Qag))),(3,.p (iV y3.2.1)),(4,.p (iV y3.2.2))],⟨[],[]⟩⟩
def Qyo:Code:=((Qa4 (Tryz.f115.body.getD .skip)).getD 0 .skip)
def Qsh (y:Bool):D :=.p (bV y)
def Q6e:List (Nat×List Nat):=[(0,[0]),(1,[2]),(3000001,[])]
def Qz9  (o1:Bool):St:=⟨[(2,.p (bV o1))],⟨[],[]⟩⟩
def Ql3 (y:Int):D :=.p (iV y)
def Qtj:List (Nat×List Nat):=[(0,[0,1]),(1,[0,1,14]),(2,[0,1]),(3,[4]),(1000001,[0,1]),(3000001,[])]
def Qyp (p0:(List UInt8)) (v1:Int) (o2:Bool):St:=⟨[(0,.p (sV p0)),(1,.p (iV v1)),(14,.p (bV o2))],⟨[],[]⟩⟩
def Qj9 (p0:(List UInt8)) (v1:Int):St:=⟨[(0,.p (sV p0)),(1,.p (iV v1))],⟨[],[]⟩⟩
def Qo1 (p0:(List UInt8)) (o1:Int):St:=⟨[(1,.p (iV o1))],⟨[],[]⟩⟩
def Qyq:Code:=((Qa4 (Tryz.f140.body.getD .skip)).getD 0 .skip)
def Qqz (y:Int):D :=.p (iV y)
def Qyr:List (Nat×List Nat):=[(0,[0,1,2]),(1,[0,1,2,17]),(2,[0,1,2]),(3,[6]),(1000001,[0,1,2]),(3000001,[])]
def Q3f (p0:(List UInt8)) (p1:(List UInt8)) (v2:Int) (o2:Bool):St:=⟨[(0,.p (sV p0)),(1,.p (sV p1)),(2,.p (iV v2)),(17,.p (bV o2))],⟨[],[]⟩⟩
def Qmp (p0:(List UInt8)) (p1:(List UInt8)) (v2:Int):St:=⟨[(0,.p (sV p0)),(1,.p (sV p1)),(2,.p (iV v2))],⟨[],[]⟩⟩
def Qrx (p0:(List UInt8)) (p1:(List UInt8)) (o1:Int):St:=⟨[(2,.p (iV o1))],⟨[],[]⟩⟩
def Q3g:Code:=((Qa4 (Tryz.f139.body.getD .skip)).getD 0 .skip)
def Qjq (y:Qai×Bool):D :=.tup [.p (.agg [iV y.1.Kind,sV y.1.Text,iV y.1.N,iV y.1.From,iV y.1.To]),.p (bV y.2)]
def Qq0:List (Nat×List Nat):=[(0,[0,1,4]),(1,[0,1,4,6]),(2,[0,1,4,6,7]),(3,[0,1,4,6,7,24]),(4,[1,4,6]),(5,[4,6]),(6,[4,5]),(7,[0,1,4,6,7,8]),(8,[0,1,4,6,7,8,9]),(9,[0,1,4,6,7,8,9,33]),(10,[0,1,4,6,7,8,9]),(11,[0,1,4,6,7,8,9,40]),(12,[4,6]),(13,[4,5]),(14,[0,1,4,6,7,48]),(15,[1,4,10,11]),(16,[4,5]),(17,[0,1,4,6,7,12]),(18,[0,1,4,6,7,12,64]),(19,[0,1,4,12,86]),(20,[0,1,4,12]),(21,[4,5]),(22,[0,1,4,6,12,106]),(23,[0,1,4,12,116]),(24,[0,1,4,12]),(25,[1,4,12,13,14]),(26,[4,5]),(27,[4,5]),(1000009,[0,1,4,6,7,8,9]),(1000019,[0,1,4,12]),(1000023,[0,1,4,12]),(3000019,[]),(3000022,[]),(3000023,[])]
def Qoc (p0:(List UInt8)) (p1:Int) (x1:UInt8) (v9:Int):St:=⟨[(0,.p (sV p0)),(1,.p (iV p1)),(4,.ptr 0 0),(6,.ptr 1 0),(7,.p (nV .u8 (x1.toNat:Int))),(8,.p (sV [46,40,41,44,61])),(9,.p (iV v9))],⟨[[.p (iV 0),.p (sV []),.p (iV 0),.p (iV 0),.p (iV 0)],[.p (iV 0),.p (sV []),.p (iV 0),.p (iV p1),.p (iV (wr (p1+1)))]],[]⟩⟩
def Qtk (p0:(List UInt8)) (p1:Int) (x1:UInt8) (y4:Unit):St:=⟨[(0,.p (sV p0)),(1,.p (iV p1)),(4,.ptr 0 0),(6,.ptr 1 0),(7,.p (nV .u8 (x1.toNat:Int)))],⟨[[.p (iV 0),.p (sV []),.p (iV 0),.p (iV 0),.p (iV 0)],[.p (iV 0),.p (sV []),.p (iV 0),.p (iV p1),.p (iV (wr (p1+1)))]],[]⟩⟩
def Qtl (p0:(List UInt8)) (p1:Int) (x1:UInt8) (y5:Int×Int):St:=⟨[(4,.ptr 0 0),(5,.p (bV true))],⟨[[.p (iV y5.1),.p (sV []),.p (iV 0),.p (iV p1),.p (iV (wr (p1+1)))],[.p (iV y5.2),.p (sV []),.p (iV 0),.p (iV p1),.p (iV (wr (p1+1)))]],[]⟩⟩
def Q6f:Code:=((Qa4 (Tryz.f142.body.getD .skip)).getD 0 .skip)
def Q6g (p0:(List UInt8)) (p1:Int) (v12:Int) (o11:Bool):St:=⟨[(0,.p (sV p0)),(1,.p (iV p1)),(4,.ptr 0 0),(12,.p (iV v12)),(86,.p (bV o11))],⟨[[.p (iV 0),.p (sV []),.p (iV 0),.p (iV 0),.p (iV 0)],[.p (iV 0),.p (sV []),.p (iV 0),.p (iV p1),.p (iV (wr (p1+1)))]],[]⟩⟩
def Qod (p0:(List UInt8)) (p1:Int) (v12:Int):St:=⟨[(0,.p (sV p0)),(1,.p (iV p1)),(4,.ptr 0 0),(12,.p (iV v12))],⟨[[.p (iV 0),.p (sV []),.p (iV 0),.p (iV 0),.p (iV 0)],[.p (iV 0),.p (sV []),.p (iV 0),.p (iV p1),.p (iV (wr (p1+1)))]],[]⟩⟩
def Qtm (p0:(List UInt8)) (p1:Int) (o10:Int):St:=⟨[(0,.p (sV p0)),(1,.p (iV p1)),(4,.ptr 0 0),(12,.p (iV o10))],⟨[[.p (iV 0),.p (sV []),.p (iV 0),.p (iV 0),.p (iV 0)],[.p (iV 0),.p (sV []),.p (iV 0),.p (iV p1),.p (iV (wr (p1+1)))]],[]⟩⟩
def Q6h:Code:=((Qa4 (Tryz.f142.body.getD .skip)).getD 1 .skip)
def Q6i (p0:(List UInt8)) (p1:Int) (o20:Bool):St:=⟨[(0,.p (sV p0)),(1,.p (iV p1)),(4,.ptr 0 0),(6,.ptr 1 0),(12,.p (iV (wr (p1+1)))),(106,.p (bV o20))],⟨[[.p (iV 0),.p (sV []),.p (iV 0),.p (iV 0),.p (iV 0)],[.p (iV 0),.p (sV []),.p (iV 0),.p (iV p1),.p (iV (wr (p1+1)))]],[]⟩⟩
def Q6j (p0:(List UInt8)) (p1:Int) (v12:Int) (o23:Bool):St:=⟨[(0,.p (sV p0)),(1,.p (iV p1)),(4,.ptr 0 0),(12,.p (iV v12)),(116,.p (bV o23))],⟨[[.p (iV 0),.p (sV []),.p (iV 0),.p (iV 0),.p (iV 0)],[.p (iV 0),.p (sV []),.p (iV 0),.p (iV p1),.p (iV (wr (p1+1)))]],[]⟩⟩
def Qoe (p0:(List UInt8)) (p1:Int) (v12:Int):St:=⟨[(0,.p (sV p0)),(1,.p (iV p1)),(4,.ptr 0 0),(12,.p (iV v12))],⟨[[.p (iV 0),.p (sV []),.p (iV 0),.p (iV 0),.p (iV 0)],[.p (iV 0),.p (sV []),.p (iV 0),.p (iV p1),.p (iV (wr (p1+1)))]],[]⟩⟩
def Qtn (p0:(List UInt8)) (p1:Int) (o22:Int):St:=⟨[(0,.p (sV p0)),(1,.p (iV p1)),(4,.ptr 0 0),(12,.p (iV o22))],⟨[[.p (iV 0),.p (sV []),.p (iV 0),.p (iV 0),.p (iV 0)],[.p (iV 0),.p (sV []),.p (iV 0),.p (iV p1),.p (iV (wr (p1+1)))]],[]⟩⟩
def Q6k:Code:=((Qa4 (Tryz.f142.body.getD .skip)).getD 2 .skip)
def Ql4 (y:(List UInt8)×Int):D :=.tup [.p (sV y.1),.p (iV y.2)]
def Qto:List (Nat×List Nat):=[(0,[0,1]),(1,[0,1,6]),(2,[0,1,6]),(3,[0,1,6,15]),(4,[0,1,6,19]),(5,[4,5]),(6,[0,1,6,26]),(7,[0,1,6,31]),(8,[4,5]),(9,[0,1,6,7]),(10,[0,1,6,7,37]),(11,[0,1,6]),(12,[0,1,6,7,41]),(13,[0,1,6]),(14,[0,1,6,49]),(15,[0,1,6]),(16,[4,5]),(17,[0,1,6]),(18,[0,1,6,8,9]),(19,[0,1,6,9,79]),(20,[4,5]),(21,[0,1,6,9]),(22,[0,1,6]),(23,[4,5]),(1000003,[0,1,6]),(3000009,[]),(3000014,[]),(3000019,[])]
def Qys (p0:(List UInt8)) (v1:Int) (v6:(List UInt8)) (o6:Int):St:=⟨[(0,.p (sV p0)),(1,.p (iV v1)),(6,.p (sV v6)),(7,.p (nV .u8 o6))],⟨[],[]⟩⟩
def Qyt (p0:(List UInt8)) (v1:Int) (v6:(List UInt8)) (o8:Bool):St:=⟨[(0,.p (sV p0)),(1,.p (iV v1)),(6,.p (sV v6)),(49,.p (bV o8))],⟨[],[]⟩⟩
def Qyu (p0:(List UInt8)) (v1:Int) (v6:(List UInt8)) (x10:Int×Int) (o11:Bool):St:=⟨[(0,.p (sV p0)),(1,.p (iV v1)),(6,.p (sV v6)),(9,.p (iV x10.2)),(79,.p (bV o11))],⟨[],[]⟩⟩
def Qd6 (p0:(List UInt8)) (v1:Int) (v6:(List UInt8)):St:=⟨[(0,.p (sV p0)),(1,.p (iV v1)),(6,.p (sV v6))],⟨[],[]⟩⟩
def Qo2 (p0:(List UInt8)) (y2:Unit):St:=⟨[],⟨[],[]⟩⟩
def Qo3 (p0:(List UInt8)) (y3:(List UInt8)×Int):St:=⟨[(4,.p (sV y3.1)),(5,.p (iV y3.2))],⟨[],[]⟩⟩
def Qyv:Code:=((Qa4 (Tryz.f159.body.getD .skip)).getD 0 .skip)
def Qfu (y:(List Qaa)×Int×Int):D :=.tup [.p (.sl false (y.1.map Qab)),.p (iV y.2.1),.p (iV y.2.2)]
def Q6l:List (Nat×List Nat):=[(0,[0]),(1,[0,5,6,7]),(2,[0,5,6,7,17]),(3,[2,3,4]),(4,[0,5,8]),(5,[0,5,8,9]),(6,[0,5,8,9,28]),(7,[0,5,8,35]),(8,[2,3,4]),(9,[2,3,4]),(10,[9,48]),(11,[2,3,4]),(12,[9,51]),(13,[2,3,4]),(14,[2,3,4])]
def Ql5 (y:Bool):D :=.p (bV y)
def Qsi:List (Nat×List Nat):=[(0,[0,1]),(1,[4]),(3000001,[])]
def Qp7 (h0_0:(List Qai)) (h0_1:Int) (h0_2:Bool) (o1:Bool):St:=⟨[(4,.p (bV o1))],⟨[[.p (.sl false (h0_0.map Qag)),.p (iV h0_1),.p (bV h0_2)]],[]⟩⟩
def Qfl (y:(List Qaa)×Int×Bool):D :=.p (.sl false (y.1.map Qab))
def Qle:List (Nat×List Nat):=[(0,[0,1,2]),(1,[0,1,2,7]),(2,[0,1,2,7,27]),(3,[0,1,2,7,29]),(4,[0,1,2,7,8]),(5,[0,1,2,7,8,9]),(6,[0,1,2,7,8,9,45]),(7,[0,1,2,7]),(8,[0,1,2,7]),(9,[0,1,2,7,73]),(10,[6]),(11,[0,1,2,7]),(12,[0,1,2,7,80]),(13,[0,1,2,7]),(14,[0,1,2,7]),(15,[6]),(1000002,[0,1,2,7]),(3000002,[]),(3000006,[]),(3000009,[]),(9000005,[1,0,0,0]),(9000006,[5,0,0,0,6,0,0,0,7,0,0,0]),(9000007,[4,0,0,0,5,0,0,0,6,0,0,0,9,0,0,0,10,0,0,0,11,1,7,0]),(9000008,[4,0,0,0]),(9000014,[4,0,0,0])]
def Qp8 (p1:Bool) (p2:Bool) (h0_0:(List Qai)) (v7:(List Qaa)) (h0_1_:Int) (h0_2_:Bool) (o4:Bool):St:=⟨[(0,.ptr 0 0),(1,.p (bV p1)),(2,.p (bV p2)),(7,.x 0 1 (.sl 38 7 (v7.map Qab))),(27,.p (bV o4))],⟨[[.p (.sl false (h0_0.map Qag)),.p (iV h0_1_),.p (bV h0_2_)]],[1]⟩⟩
def Qp9 (p1:Bool) (p2:Bool) (h0_0:(List Qai)) (v7:(List Qaa)) (x6:Qai×Int×Bool) (o7:Bool):St:=⟨[(0,.ptr 0 0),(1,.p (bV p1)),(2,.p (bV p2)),(7,.x 0 1 (.sl 38 7 (v7.map Qab))),(8,.p (sV x6.1.Text)),(9,.p (iV (wr ((v7.length:Int)-1)))),(45,.p (bV o7))],⟨[[.p (.sl false (h0_0.map Qag)),.p (iV x6.2.1),.p (bV x6.2.2)]],[1]⟩⟩
def Qqa (p1:Bool) (p2:Bool) (h0_0:(List Qai)) (v7:(List Qaa)) (h0_1_:Int) (h0_2_:Bool) (o12:Bool):St:=⟨[(0,.ptr 0 0),(1,.p (bV p1)),(2,.p (bV p2)),(7,.x 0 1 (.sl 38 7 (v7.map Qab))),(73,.p (bV o12))],⟨[[.p (.sl false (h0_0.map Qag)),.p (iV h0_1_),.p (bV h0_2_)]],[1]⟩⟩
def Qca (p1:Bool) (p2:Bool) (h0_0:(List Qai)) (v7:(List Qaa)) (h0_1_:Int) (h0_2_:Bool):St:=⟨[(0,.ptr 0 0),(1,.p (bV p1)),(2,.p (bV p2)),(7,.x 0 1 (.sl 38 7 (v7.map Qab)))],⟨[[.p (.sl false (h0_0.map Qag)),.p (iV h0_1_),.p (bV h0_2_)]],[1]⟩⟩
def Qid (p1:Bool) (p2:Bool) (h0_0:(List Qai)) (y2:(List Qaa)×Int×Bool):St:=⟨[(7,.x 0 1 (.sl 38 7 (y2.1.map Qab)))],⟨[[.p (.sl false (h0_0.map Qag)),.p (iV y2.2.1),.p (bV y2.2.2)]],[1]⟩⟩
def Qie (p1:Bool) (p2:Bool) (h0_0:(List Qai)) (y3:(List Qaa)×Int×Bool):St:=⟨[(6,.x 0 1 (.sl 38 7 (y3.1.map Qab)))],⟨[[.p (.sl false (h0_0.map Qag)),.p (iV y3.2.1),.p (bV y3.2.2)]],[1]⟩⟩
def Qqb:Code:=((Qa4 (Tryz.f116.body.getD .skip)).getD 0 .skip)
def Qiy (y:Qaa×Int×Bool):D :=.p (.agg [iV y.1.Kind,sV y.1.Name,sV y.1.Text,iV y.1.N,.sl false (y.1.L.map Qab),.sl false (y.1.Then.map Qab),.sl false (y.1.Else.map Qab)])
def Ql6:List (Nat×List Nat):=[(0,[0,2]),(1,[0,2,3]),(2,[0,2,3,7]),(3,[0,2,3]),(4,[0,2,3]),(5,[2]),(1000002,[0,2,3]),(5000004,[3,1005,1008]),(8000004,[2])]
def Qfv (h0_0:(List Qai)) (h0_1_:Int) (h0_2_:Bool) (h2_0:Int) (h2_1:(List UInt8)) (h2_2:(List UInt8)) (h2_3:Int) (h2_4:(List Qaa)) (h2_5:(List Qaa)) (h2_6:(List Qaa)):St:=⟨[(0,.ptr 0 0),(2,.ptr 1 0),(3,.ptr 2 0)],⟨[[.p (.sl false (h0_0.map Qag)),.p (iV h0_1_),.p (bV h0_2_)],[.p (iV 0),.p (sV []),.p (sV []),.p (iV 0),.p (.sl true []),.p (.sl true []),.p (.sl true [])],[.p (iV h2_0),.p (sV h2_1),.p (sV h2_2),.p (iV h2_3),.p (.sl false (h2_4.map Qab)),.p (.sl false (h2_5.map Qab)),.p (.sl false (h2_6.map Qab))]],[]⟩⟩
def Qjr (h0_0:(List Qai)) (o2:Int×Bool×Int×(List UInt8)×(List UInt8)×Int×(List Qaa)×(List Qaa)×(List Qaa)):St:=⟨[(2,.ptr 1 0),(3,.ptr 2 0)],⟨[[.p (.sl false (h0_0.map Qag)),.p (iV o2.1),.p (bV o2.2.1)],[.p (iV 0),.p (sV []),.p (sV []),.p (iV 0),.p (.sl true []),.p (.sl true []),.p (.sl true [])],[.p (iV o2.2.2.1),.p (sV o2.2.2.2.1),.p (sV o2.2.2.2.2.1),.p (iV o2.2.2.2.2.2.1),.p (.sl false (o2.2.2.2.2.2.2.1.map Qab)),.p (.sl false (o2.2.2.2.2.2.2.2.1.map Qab)),.p (.sl false (o2.2.2.2.2.2.2.2.2.map Qab))]],[]⟩⟩
def Qrb:Code:=((Qa4 (Tryz.f162.body.getD .skip)).getD 0 .skip)
def Qe4 (y:Qaa×Int×Bool):D :=.p (.agg [iV y.1.Kind,sV y.1.Name,sV y.1.Text,iV y.1.N,.sl false (y.1.L.map Qab),.sl false (y.1.Then.map Qab),.sl false (y.1.Else.map Qab)])
def Qrc:List (Nat×List Nat):=[(0,[0,2]),(1,[0,2,7]),(2,[0,2]),(3,[0,2,3]),(4,[0,2,3]),(5,[0,2,3]),(6,[0,2,3,20]),(7,[0,2,3]),(8,[0,2,3]),(9,[2,3]),(10,[2]),(11,[0,2,34]),(12,[0,2,4]),(13,[0,2,4,37]),(14,[0,2,4]),(15,[0,2,4]),(16,[0,2,4]),(17,[0,2,4,46]),(18,[0,2,4]),(19,[0,2,4]),(20,[0,2,4]),(21,[0,2,4]),(22,[0,2,4]),(23,[2,4]),(24,[2]),(25,[0,2,5]),(26,[0,2,5,69]),(27,[0,2,5]),(28,[0,2,5]),(29,[0,2,5]),(30,[0,2,5]),(31,[2,5]),(32,[2]),(2006007,[]),(2013005,[]),(2017005,[]),(2026009,[]),(3000011,[])]
def Qo7 (h0_0:(List Qai)) (x3:Qaa×Int×Bool) (x5:(List Qaa)×Int×Bool) (o6:Int×Bool×(List Qaa)):St:=⟨[(0,.ptr 0 0),(2,.ptr 1 0),(3,.ptr 2 0)],⟨[[.p (.sl false (h0_0.map Qag)),.p (iV o6.1),.p (bV o6.2.1)],[.p (iV 0),.p (sV []),.p (sV []),.p (iV 0),.p (.sl true []),.p (.sl true []),.p (.sl true [])],[.p (iV 10),.p (sV []),.p (sV []),.p (iV 0),.p (.sl true ([x3.1].map Qab)),.p (.sl false (x5.1.map Qab)),.p (.sl false (o6.2.2.map Qab))]],[]⟩⟩
def Qo8 (h0_0:(List Qai)) (h0_1:Int) (h0_2:Bool) (o11:Bool):St:=⟨[(0,.ptr 0 0),(2,.ptr 1 0),(34,.p (bV o11))],⟨[[.p (.sl false (h0_0.map Qag)),.p (iV h0_1),.p (bV h0_2)],[.p (iV 0),.p (sV []),.p (sV []),.p (iV 0),.p (.sl true []),.p (.sl true []),.p (.sl true [])]],[]⟩⟩
def Qo9 (h0_0:(List Qai)) (h0_1:Int) (h0_2:Bool) (o14:Int):St:=⟨[(0,.ptr 0 0),(2,.ptr 1 0),(4,.ptr 2 0)],⟨[[.p (.sl false (h0_0.map Qag)),.p (iV h0_1),.p (bV h0_2)],[.p (iV 0),.p (sV []),.p (sV []),.p (iV 0),.p (.sl true []),.p (.sl true []),.p (.sl true [])],[.p (iV o14),.p (sV []),.p (sV []),.p (iV 0),.p (.sl true []),.p (.sl true []),.p (.sl true [])]],[]⟩⟩
def Qpa (h0_0:(List Qai)) (o14:Int) (x17:(List UInt8)×Int×Bool) (o18:Int×Bool):St:=⟨[(0,.ptr 0 0),(2,.ptr 1 0),(4,.ptr 2 0)],⟨[[.p (.sl false (h0_0.map Qag)),.p (iV o18.1),.p (bV o18.2)],[.p (iV 0),.p (sV []),.p (sV []),.p (iV 0),.p (.sl true []),.p (.sl true []),.p (.sl true [])],[.p (iV o14),.p (sV x17.1),.p (sV []),.p (iV 0),.p (.sl true []),.p (.sl true []),.p (.sl true [])]],[]⟩⟩
def Qpb (h0_0:(List Qai)) (o27:Int×Bool×Int×(List UInt8)):St:=⟨[(0,.ptr 0 0),(2,.ptr 1 0),(5,.ptr 2 0)],⟨[[.p (.sl false (h0_0.map Qag)),.p (iV o27.1),.p (bV o27.2.1)],[.p (iV 0),.p (sV []),.p (sV []),.p (iV 0),.p (.sl true []),.p (.sl true []),.p (.sl true [])],[.p (iV o27.2.2.1),.p (sV o27.2.2.2),.p (sV []),.p (iV 0),.p (.sl true []),.p (.sl true []),.p (.sl true [])]],[]⟩⟩
def Ql7 (_:Int×Bool):D :=.tup []
def Qsj:List (Nat×List Nat):=[(0,[])]
def Qo4 (_:Int×Bool):D :=.tup []
def Qus:List (Nat×List Nat):=[(0,[0,1]),(1,[0]),(2,[])]
def Qbr (y:Qaa×Int×Bool):D :=.p (.agg [iV y.1.Kind,sV y.1.Name,sV y.1.Text,iV y.1.N,.sl false (y.1.L.map Qab),.sl false (y.1.Then.map Qab),.sl false (y.1.Else.map Qab)])
def Qlf:List (Nat×List Nat):=[(0,[0,2]),(1,[0,2,7]),(2,[2]),(3,[0,2,13]),(4,[2]),(5,[0,2,19]),(6,[2]),(7,[2]),(8,[0,2,24]),(9,[2]),(10,[2]),(11,[0,2,29]),(12,[0,2]),(13,[0,2]),(14,[0,2,3]),(15,[2,3]),(16,[2]),(17,[0,2,4]),(18,[0,2,4,66]),(19,[2]),(20,[0,2,4]),(21,[0,2,4]),(22,[0,2,4,72]),(23,[2,4]),(24,[2]),(25,[0,2,4,5]),(26,[0,2,4,5,84]),(27,[0,2,4,5]),(28,[0,2,4,5]),(29,[0,2,4,5,95]),(30,[0,2,4,5,97]),(31,[0,2,4,5]),(32,[2,4]),(33,[2]),(1000026,[0,2,4,5]),(3000014,[]),(3000026,[]),(5000014,[17]),(5000028,[3,1001,1007]),(8000028,[2])]
def Qqc (h0_0:(List Qai)) (o13:Int×Bool×Int×(List UInt8)×Int×Int×Int):St:=⟨[(0,.ptr 0 0),(2,.ptr 1 0),(3,.ptr 2 0)],⟨[[.p (.sl false (h0_0.map Qag)),.p (iV o13.1),.p (bV o13.2.1)],[.p (iV 0),.p (sV []),.p (sV []),.p (iV 0),.p (.sl true []),.p (.sl true []),.p (.sl true [])],[.p (iV o13.2.2.1),.p (sV o13.2.2.2.1),.p (iV o13.2.2.2.2.1),.p (iV o13.2.2.2.2.2.1),.p (iV o13.2.2.2.2.2.2)]],[]⟩⟩
def Qqd (h0_0:(List Qai)) (x21:(List UInt8)×Int×Bool) (v5:Int) (h0_1_:Int) (h0_2_:Bool) (h2_4:(List Qaa)) (o27:Bool):St:=⟨[(0,.ptr 0 0),(2,.ptr 1 0),(4,.ptr 2 0),(5,.p (iV v5)),(84,.p (bV o27))],⟨[[.p (.sl false (h0_0.map Qag)),.p (iV h0_1_),.p (bV h0_2_)],[.p (iV 0),.p (sV []),.p (sV []),.p (iV 0),.p (.sl true []),.p (.sl true []),.p (.sl true [])],[.p (iV 6),.p (sV x21.1),.p (sV []),.p (iV 0),.own 0 38 7 (h2_4.map Qab),.p (.sl true []),.p (.sl true [])]],[(h2_4.map Qab).length]⟩⟩
def Qd1 (h0_0:(List Qai)) (x21:(List UInt8)×Int×Bool) (v5:Int) (h0_1_:Int) (h0_2_:Bool) (h2_4:(List Qaa)):St:=⟨[(0,.ptr 0 0),(2,.ptr 1 0),(4,.ptr 2 0),(5,.p (iV v5))],⟨[[.p (.sl false (h0_0.map Qag)),.p (iV h0_1_),.p (bV h0_2_)],[.p (iV 0),.p (sV []),.p (sV []),.p (iV 0),.p (.sl true []),.p (.sl true []),.p (.sl true [])],[.p (iV 6),.p (sV x21.1),.p (sV []),.p (iV 0),.own 0 38 7 (h2_4.map Qab),.p (.sl true []),.p (.sl true [])]],[(h2_4.map Qab).length]⟩⟩
def Qif (h0_0:(List Qai)) (x21:(List UInt8)×Int×Bool) (o26:Int×Bool×(List Qaa)):St:=⟨[(0,.ptr 0 0),(2,.ptr 1 0),(4,.ptr 2 0)],⟨[[.p (.sl false (h0_0.map Qag)),.p (iV o26.1),.p (bV o26.2.1)],[.p (iV 0),.p (sV []),.p (sV []),.p (iV 0),.p (.sl true []),.p (.sl true []),.p (.sl true [])],[.p (iV 6),.p (sV x21.1),.p (sV []),.p (iV 0),.own 0 38 7 (o26.2.2.map Qab),.p (.sl true []),.p (.sl true [])]],[(o26.2.2.map Qab).length]⟩⟩
def Qqe:Code:=((Qa4 (Tryz.f173.body.getD .skip)).getD 0 .skip)
def Qdu (y:Bool):D :=.p (bV y)
def Qv3:List (Nat×List Nat):=[(0,[0,1]),(1,[4]),(3000001,[])]
def Qtp (h0_0:(List Qai)) (h0_1:Int) (h0_2:Bool) (o1:Bool):St:=⟨[(4,.p (bV o1))],⟨[[.p (.sl false (h0_0.map Qag)),.p (iV h0_1),.p (bV h0_2)]],[]⟩⟩
def Qnj (y:(List UInt8)×Int×Bool):D :=.p (sV y.1)
def Qtq:List (Nat×List Nat):=[(0,[0]),(1,[2]),(3000001,[]),(5000001,[17])]
def Qrd (h0_0:(List Qai)) (o1:(List UInt8)×Int×Bool):St:=⟨[(2,.p (sV o1.1))],⟨[[.p (.sl false (h0_0.map Qag)),.p (iV o1.2.1),.p (bV o1.2.2)]],[]⟩⟩
def Qiz (y:Qai×Int×Bool):D :=.p (.agg [iV y.1.Kind,sV y.1.Text,iV y.1.N,iV y.1.From,iV y.1.To])
def Qtr:List (Nat×List Nat):=[(0,[0,1,4]),(1,[0,4,12]),(2,[4]),(3,[4]),(4,[0,4]),(5,[4]),(3000001,[])]
def Qre (h0_0:(List Qai)) (h0_1:Int) (h0_2:Bool) (o1:Bool):St:=⟨[(0,.ptr 0 0),(4,.ptr 1 0),(12,.p (bV o1))],⟨[[.p (.sl false (h0_0.map Qag)),.p (iV h0_1),.p (bV h0_2)],[.p (iV 0),.p (sV []),.p (iV 0),.p (iV 0),.p (iV 0)]],[]⟩⟩
def Qnk (y:Bool):D :=.p (bV y)
def Qts:List (Nat×List Nat):=[(0,[0,1]),(1,[4]),(3000001,[])]
def Qrf (h0_0:(List Qai)) (h0_1:Int) (h0_2:Bool) (o1:Bool):St:=⟨[(4,.p (bV o1))],⟨[[.p (.sl false (h0_0.map Qag)),.p (iV h0_1),.p (bV h0_2)]],[]⟩⟩
def Qd4 (y:Bool):D :=.p (bV y)
def Qfw:List (Nat×List Nat):=[(0,[0,1,2]),(1,[0,1,2,7]),(2,[0,1,2,7,8]),(3,[0,1,2,7,8,21]),(4,[0,1,2,7,8]),(5,[0,1,2,7,8,9]),(6,[0,1,2,7,8,9,36]),(7,[0,1,2,7,8,9]),(8,[0,1,2,7,8,9,10]),(9,[0,1,2,7,8,9]),(10,[1,2,8,11]),(11,[1,2,8,11,60]),(12,[1,2,8,11]),(13,[1,2,8]),(14,[1,2,8,12,13]),(15,[1,2,8,12,13,85]),(16,[6]),(17,[6]),(1000006,[0,1,2,7,8,9]),(2003005,[]),(2011005,[]),(3000015,[]),(3000016,[]),(3000017,[]),(5000013,[2003,2005,2006,2007]),(9000002,[5,0,0,0]),(9000004,[7,0,0,0,8,0,0,0,9,1,8,0]),(9000009,[10,0,0,0]),(9000013,[14,0,0,0]),(9500014,[]),(9800013,[14]),(7000013,[1,2,8,62,75])]
def Qka (p0:Int) (p1:Bool) (p2:Bool) (o2:(List Qac)):St:=⟨[(0,.p (nV .u8 p0)),(1,.p (bV p1)),(2,.p (bV p2)),(7,.ptr 0 0),(8,.x 0 1 (.sl 56 2 (o2.map Qah)))],⟨[[.p (iV 4),.p (sV [105,116]),.p (sV []),.p (iV 0),.p (.sl true []),.p (.sl true []),.p (.sl true [])]],[1]⟩⟩
def Qc8 (p0:Int) (p1:Bool) (p2:Bool) (v8:(List Qac)) (v9:Int):St:=⟨[(0,.p (nV .u8 p0)),(1,.p (bV p1)),(2,.p (bV p2)),(7,.ptr 0 0),(8,.x 0 1 (.sl 56 2 (v8.map Qah))),(9,.p (iV v9))],⟨[[.p (iV 4),.p (sV [105,116]),.p (sV []),.p (iV 0),.p (.sl true []),.p (.sl true []),.p (.sl true [])]],[1]⟩⟩
def Qey (p0:Int) (p1:Bool) (p2:Bool) (o4:(List Qac)):St:=⟨[(1,.p (bV p1)),(2,.p (bV p2)),(8,.x 0 1 (.sl 56 2 (o4.map Qah)))],⟨[[.p (iV 4),.p (sV [105,116]),.p (sV []),.p (iV 0),.p (.sl true []),.p (.sl true []),.p (.sl true [])]],[1]⟩⟩
def Qkb:Code:=((Qa4 (Tryz.f8.body.getD .skip)).getD 0 .skip)
def Qkc (p1:Bool) (p2:Bool) (o4:(List Qac)) (o8:Int×(List UInt8)×Int):St:=⟨[(1,.p (bV p1)),(2,.p (bV p2)),(8,.x 0 1 (.sl 56 2 (o4.map Qah))),(11,.ptr 1 0)],⟨[[.p (iV 4),.p (sV [105,116]),.p (sV []),.p (iV 0),.p (.sl true []),.p (.sl true []),.p (.sl true [])],[.p (iV o8.1),.p (sV o8.2.1),.p (sV []),.p (iV o8.2.2),.p (.sl true []),.p (.sl true []),.p (.sl true [])]],[1]⟩⟩
def Qkd (p1:Bool) (p2:Bool) (o8:Int×(List UInt8)×Int) (x10:(List Qac)) (x11:(List UInt8)×Int) (o12:Bool):St:=⟨[(1,.p (bV p1)),(2,.p (bV p2)),(8,.p (.sl false (x10.map Qah))),(12,.p (sV x11.1)),(13,.p (iV x11.2)),(85,.p (bV o12))],⟨[[.p (iV 4),.p (sV [105,116]),.p (sV []),.p (iV 0),.p (.sl true []),.p (.sl true []),.p (.sl true [])],[.p (iV o8.1),.p (sV o8.2.1),.p (sV []),.p (iV o8.2.2),.p (.sl true []),.p (.sl true []),.p (.sl true [])]],[1]⟩⟩
def Qke (o8:Int×(List UInt8)×Int) (o13:Bool):St:=⟨[(6,.p (bV o13))],⟨[[.p (iV 4),.p (sV [105,116]),.p (sV []),.p (iV 0),.p (.sl true []),.p (.sl true []),.p (.sl true [])],[.p (iV o8.1),.p (sV o8.2.1),.p (sV []),.p (iV o8.2.2),.p (.sl true []),.p (.sl true []),.p (.sl true [])]],[1]⟩⟩
def Qkf (o8:Int×(List UInt8)×Int) (o16:Bool):St:=⟨[(6,.p (bV o16))],⟨[[.p (iV 4),.p (sV [105,116]),.p (sV []),.p (iV 0),.p (.sl true []),.p (.sl true []),.p (.sl true [])],[.p (iV o8.1),.p (sV o8.2.1),.p (sV []),.p (iV o8.2.2),.p (.sl true []),.p (.sl true []),.p (.sl true [])]],[1]⟩⟩
def Qdv (y:Bool):D :=.p (bV y)
def Qrg:List (Nat×List Nat):=[(0,[]),(1,[1]),(2,[1,2]),(3,[1,2,4]),(4,[1,2,4,5,6]),(5,[1,2,4,5,6,8]),(6,[0]),(3000006,[])]
def Qpc  (o7:Bool):St:=⟨[(0,.p (bV o7))],⟨[],[]⟩⟩
def Qeq (y:(List Qac)):D :=.p (.sl false (y.map Qah))
def Qtt:List (Nat×List Nat):=[(0,[0]),(1,[3]),(2,[2])]
def Qer (y:(List UInt8)×Int):D :=.tup [.p (sV y.1),.p (iV y.2)]
def Qv4:List (Nat×List Nat):=[(0,[0,1]),(1,[4,5])]
def Qi0 (_:Unit):D :=.tup []
def Qtu:List (Nat×List Nat):=[]
def Qcp (y:Bool):D :=.p (bV y)
def Qqf:List (Nat×List Nat):=[(0,[2,3]),(1,[2,3,7]),(2,[2,3,7,8]),(3,[4]),(4,[2,3,7,10]),(5,[2,3,5]),(6,[2,3,5,16]),(7,[2,3,5]),(8,[2,3,5,26]),(9,[4]),(10,[2,3,7,32]),(11,[2,3,32]),(12,[4]),(13,[4]),(1000006,[2,3,5]),(2010005,[])]
def Qhu (p0:Qaa) (p1:(List Qak)) (v5:Int):St:=⟨[(2,.ptr 0 0),(3,.ptr 1 0),(5,.p (iV v5))],⟨[[.p (iV p0.Kind),.p (sV p0.Name),.p (sV p0.Text),.p (iV p0.N),.p (.sl false (p0.L.map Qab)),.p (.sl false (p0.Then.map Qab)),.p (.sl false (p0.Else.map Qab))],[.p (.sl false (p1.map Qar))]],[]⟩⟩
def Ql8 (p0:Qaa) (p1:(List Qak)) (y2:Unit):St:=⟨[],⟨[[.p (iV p0.Kind),.p (sV p0.Name),.p (sV p0.Text),.p (iV p0.N),.p (.sl false (p0.L.map Qab)),.p (.sl false (p0.Then.map Qab)),.p (.sl false (p0.Else.map Qab))],[.p (.sl false (p1.map Qar))]],[]⟩⟩
def Ql9 (p0:Qaa) (p1:(List Qak)) (y3:Bool):St:=⟨[(4,.p (bV y3))],⟨[[.p (iV p0.Kind),.p (sV p0.Name),.p (sV p0.Text),.p (iV p0.N),.p (.sl false (p0.L.map Qab)),.p (.sl false (p0.Then.map Qab)),.p (.sl false (p0.Else.map Qab))],[.p (.sl false (p1.map Qar))]],[]⟩⟩
def Qut:Code:=((Qa4 (Tryz.f23.body.getD .skip)).getD 0 .skip)
def Quu (p0:Qaa) (p1:(List Qak)) (o6:Bool):St:=⟨[(2,.ptr 0 0),(3,.ptr 1 0),(32,.p (bV o6))],⟨[[.p (iV p0.Kind),.p (sV p0.Name),.p (sV p0.Text),.p (iV p0.N),.p (.sl false (p0.L.map Qab)),.p (.sl false (p0.Then.map Qab)),.p (.sl false (p0.Else.map Qab))],[.p (.sl false (p1.map Qar))]],[]⟩⟩
def Qo5 (y:Bool):D :=.p (bV y)
def Quv:List (Nat×List Nat):=[(0,[1,2]),(1,[3])]
def Qes (y:Bool):D :=.p (bV y)
def Qv5:List (Nat×List Nat):=[(0,[0,1]),(1,[0,1,5]),(2,[5,7]),(3,[4]),(3000003,[])]
def Qtv (x1:(List UInt8)×Int×Int) (o2:Bool):St:=⟨[(4,.p (bV o2))],⟨[[.p (iV x1.2.2)]],[]⟩⟩
def Qnl (_:Int):D :=.tup []
def Qtw:List (Nat×List Nat):=[(0,[])]
def Qbk (y:(List UInt8)×Int):D :=.tup [.p (sV y.1),.p (iV y.2)]
def Qi1:List (Nat×List Nat):=[(0,[0,1,2]),(1,[0,1,2,8,9]),(2,[0,1,2,8,9,19]),(3,[6,7]),(4,[0,1,2,10,11]),(5,[0,1,2,10,29]),(6,[6,7]),(7,[1,10,12]),(8,[12]),(9,[12,44]),(10,[6,7]),(11,[6,7]),(9000007,[1,0,0,0])]
def Qbl (y:(List UInt8)×Int×Int):D :=.tup [.p (sV y.1),.p (iV y.2.1)]
def Qi2:List (Nat×List Nat):=[(0,[0,1,2]),(1,[0,1,2,8,9]),(2,[0,1,2,8,9,19]),(3,[6,7]),(4,[0,1,2,10,11]),(5,[0,1,2,10,29]),(6,[6,7]),(7,[1,10,12]),(8,[12]),(9,[12,44]),(10,[6,7]),(11,[6,7]),(9000007,[1,0,0,0])]
def Qd2 (_:(List UInt8)×Bool×(List (Qaf×Int))):D :=.tup []
def Qhv:List (Nat×List Nat):=[(0,[0,1,3,12,13,14]),(1,[0,1,3,12,13,14,15]),(2,[0,1,3,9,12,13,14]),(3,[0,1,3,9,12,13,14,21]),(4,[0,1,3,9,12,13,14,24]),(5,[0,1,3,9,10,12,13,14]),(6,[0,1,3,9,10,11,12,13,14]),(7,[0,1,3,9,10,11,12,13,14,34]),(8,[0,1,3,9,10,11,12,13,14,34,35]),(9,[0,1,3,9,11,12,13,14,37]),(10,[0,1,3,9,11,12,13,14]),(11,[0,1,3,9,10,11,12,13,14,34,43]),(12,[0,1,3,9,10,11,12,13,14,34,43]),(13,[0,1,3,9,11,12,13,14,46]),(14,[]),(15,[0,1,3,9,11,12,13,14,56]),(16,[0,1,3,9,11,12,13,14]),(17,[0,1,3,9,10,11,12,13,14,34,63]),(18,[0,1,3,9,11,12,13,14]),(19,[0,1,3,9,10,11,12,13,14,72]),(20,[0,1,3,12,13,14]),(21,[0,1,3,9,12,13,14]),(22,[0,1,3,12,13,14]),(23,[0,1,3,12,13,14]),(1000001,[0,1,3,12,13,14]),(2007042,[]),(2011005,[]),(9000016,[5,0,0,0]),(9000018,[6,0,0,0]),(9500021,[])]
def Qmq (p1:(List UInt8)) (p2:(List Qaa)) (p3:(List Qak)) (h0_0:(List Qac)) (v14:Int) (h0_2_:(List UInt8)) (h0_3_:Bool) (h1_0_:(List (Qaf×Int))) (x4:Qaa) (y9:(List Qak)):St:=⟨[(0,.ptr 0 0),(1,.p (sV p1)),(3,.p (.sl false (p3.map Qar))),(9,.ptr 2 0),(11,.x 0 1 (.sl 46 3 (y9.map Qar))),(12,.p (.sl false (p2.map Qab))),(13,.p (iV (p2.length:Int))),(14,.p (iV v14))],⟨[[.p (.sl false (h0_0.map Qah)),.mh 1,.p (sV h0_2_),.p (bV h0_3_),.fn (.func 62) [] []],[mpD (fun x =>.agg (Qam x)) iV h1_0_],[.p (iV x4.Kind),.p (sV x4.Name),.p (sV x4.Text),.p (iV x4.N),.p (.sl false (x4.L.map Qab)),.p (.sl false (x4.Then.map Qab)),.p (.sl false (x4.Else.map Qab))]],[1]⟩⟩
def Qmr (p1:(List UInt8)) (p2:(List Qaa)) (p3:(List Qak)) (h0_0:(List Qac)) (v14:Int) (h0_2_:(List UInt8)) (h0_3_:Bool) (h1_0_:(List (Qaf×Int))) (x4:Qaa) (y10:(List UInt8)×Bool×(List (Qaf×Int))):St:=⟨[(0,.ptr 0 0),(1,.p (sV p1)),(3,.p (.sl false (p3.map Qar))),(12,.p (.sl false (p2.map Qab))),(13,.p (iV (p2.length:Int))),(14,.p (iV v14))],⟨[[.p (.sl false (h0_0.map Qah)),.mh 1,.p (sV y10.1),.p (bV y10.2.1),.fn (.func 62) [] []],[mpD (fun x =>.agg (Qam x)) iV y10.2.2],[.p (iV x4.Kind),.p (sV x4.Name),.p (sV x4.Text),.p (iV x4.N),.p (.sl false (x4.L.map Qab)),.p (.sl false (x4.Then.map Qab)),.p (.sl false (x4.Else.map Qab))]],[1]⟩⟩
def Qms (p1:(List UInt8)) (p2:(List Qaa)) (p3:(List Qak)) (h0_0:(List Qac)) (v14:Int) (h0_2_:(List UInt8)) (h0_3_:Bool) (h1_0_:(List (Qaf×Int))) (x4:Qaa) (y11:Unit):St:=⟨[],⟨[[.p (.sl false (h0_0.map Qah)),.mh 1,.p (sV p1),.p (bV true),.fn (.func 62) [] []],[mpD (fun x =>.agg (Qam x)) iV h1_0_],[.p (iV x4.Kind),.p (sV x4.Name),.p (sV x4.Text),.p (iV x4.N),.p (.sl false (x4.L.map Qab)),.p (.sl false (x4.Then.map Qab)),.p (.sl false (x4.Else.map Qab))]],[1]⟩⟩
def Qmt (p1:(List UInt8)) (p2:(List Qaa)) (p3:(List Qak)) (h0_0:(List Qac)) (v14:Int) (h0_2_:(List UInt8)) (h0_3_:Bool) (h1_0_:(List (Qaf×Int))) (x4:Qaa) (x6:Bool) (x7:(List Qak)) (o13:Bool):St:=⟨[(0,.ptr 0 0),(1,.p (sV p1)),(3,.p (.sl false (p3.map Qar))),(9,.ptr 2 0),(10,.p (bV x6)),(11,.x 0 1 (.sl 46 3 (x7.map Qar))),(12,.p (.sl false (p2.map Qab))),(13,.p (iV (p2.length:Int))),(14,.p (iV v14)),(34,.p (iV x4.Kind)),(43,.p (bV o13))],⟨[[.p (.sl false (h0_0.map Qah)),.mh 1,.p (sV h0_2_),.p (bV h0_3_),.fn (.func 62) [] []],[mpD (fun x =>.agg (Qam x)) iV h1_0_],[.p (iV x4.Kind),.p (sV x4.Name),.p (sV x4.Text),.p (iV x4.N),.p (.sl false (x4.L.map Qab)),.p (.sl false (x4.Then.map Qab)),.p (.sl false (x4.Else.map Qab))]],[1]⟩⟩
def Qb6 (p1:(List UInt8)) (p2:(List Qaa)) (p3:(List Qak)) (h0_0:(List Qac)) (v14:Int) (h0_2_:(List UInt8)) (h0_3_:Bool) (h1_0_:(List (Qaf×Int))):St:=⟨[(0,.ptr 0 0),(1,.p (sV p1)),(3,.p (.sl false (p3.map Qar))),(12,.p (.sl false (p2.map Qab))),(13,.p (iV (p2.length:Int))),(14,.p (iV v14))],⟨[[.p (.sl false (h0_0.map Qah)),.mh 1,.p (sV h0_2_),.p (bV h0_3_),.fn (.func 62) [] []],[mpD (fun x =>.agg (Qam x)) iV h1_0_]],[]⟩⟩
def Qgc (p1:(List UInt8)) (p2:(List Qaa)) (p3:(List Qak)) (h0_0:(List Qac)) (y2:(List UInt8)×Bool×(List (Qaf×Int))):St:=⟨[],⟨[[.p (.sl false (h0_0.map Qah)),.mh 1,.p (sV y2.1),.p (bV y2.2.1),.fn (.func 62) [] []],[mpD (fun x =>.agg (Qam x)) iV y2.2.2]],[]⟩⟩
def Qgd (p1:(List UInt8)) (p2:(List Qaa)) (p3:(List Qak)) (h0_0:(List Qac)) (y3:(List UInt8)×Bool×(List (Qaf×Int))):St:=⟨[],⟨[[.p (.sl false (h0_0.map Qah)),.mh 1,.p (sV y3.1),.p (bV y3.2.1),.fn (.func 62) [] []],[mpD (fun x =>.agg (Qam x)) iV y3.2.2]],[]⟩⟩
def Qmu:Code:=((Qa4 (Tryz.f85.body.getD .skip)).getD 0 .skip)
def Qdd (_:(List UInt8)×Bool×(List (Qaf×Int))×Int):D :=.tup []
def Qgm:List (Nat×List Nat):=[(0,[0,1,3,12,13,14]),(1,[0,1,3,12,13,14,15]),(2,[0,1,3,9,12,13,14]),(3,[0,1,3,9,12,13,14,21]),(4,[0,1,3,9,12,13,14,24]),(5,[0,1,3,9,10,12,13,14]),(6,[0,1,3,9,10,11,12,13,14]),(7,[0,1,3,9,10,11,12,13,14,34]),(8,[0,1,3,9,10,11,12,13,14,34,35]),(9,[0,1,3,9,11,12,13,14,37]),(10,[0,1,3,9,11,12,13,14]),(11,[0,1,3,9,10,11,12,13,14,34,43]),(12,[0,1,3,9,10,11,12,13,14,34,43]),(13,[0,1,3,9,11,12,13,14,46]),(14,[]),(15,[0,1,3,9,11,12,13,14,56]),(16,[0,1,3,9,11,12,13,14]),(17,[0,1,3,9,10,11,12,13,14,34,63]),(18,[0,1,3,9,11,12,13,14]),(19,[0,1,3,9,10,11,12,13,14,72]),(20,[0,1,3,12,13,14]),(21,[0,1,3,9,12,13,14]),(22,[0,1,3,12,13,14]),(23,[0,1,3,12,13,14]),(1000001,[0,1,3,12,13,14]),(2007042,[]),(2011005,[]),(9000016,[5,0,0,0]),(9000018,[6,0,0,0]),(9500021,[])]
def Qlg (p1:(List UInt8)) (p2:(List Qaa)) (p3:(List Qak)) (h0_0:(List Qac)) (v14:Int) (h0_2_:(List UInt8)) (h0_3_:Bool) (h1_0_:(List (Qaf×Int))) (h2_0_:Int) (x4:Qaa) (y9:(List Qak)×Int):St:=⟨[(0,.ptr 0 0),(1,.p (sV p1)),(3,.p (.sl false (p3.map Qar))),(9,.ptr 3 0),(11,.x 0 1 (.sl 46 3 (y9.1.map Qar))),(12,.p (.sl false (p2.map Qab))),(13,.p (iV (p2.length:Int))),(14,.p (iV v14))],⟨[[.p (.sl false (h0_0.map Qah)),.mh 1,.p (sV h0_2_),.p (bV h0_3_),.fn (.func 64) [] [.ptr 2 0]],[mpD (fun x =>.agg (Qam x)) iV h1_0_],[.p (iV y9.2)],[.p (iV x4.Kind),.p (sV x4.Name),.p (sV x4.Text),.p (iV x4.N),.p (.sl false (x4.L.map Qab)),.p (.sl false (x4.Then.map Qab)),.p (.sl false (x4.Else.map Qab))]],[1]⟩⟩
def Qlh (p1:(List UInt8)) (p2:(List Qaa)) (p3:(List Qak)) (h0_0:(List Qac)) (v14:Int) (h0_2_:(List UInt8)) (h0_3_:Bool) (h1_0_:(List (Qaf×Int))) (h2_0_:Int) (x4:Qaa) (y10:(List UInt8)×Bool×(List (Qaf×Int))×Int):St:=⟨[(0,.ptr 0 0),(1,.p (sV p1)),(3,.p (.sl false (p3.map Qar))),(12,.p (.sl false (p2.map Qab))),(13,.p (iV (p2.length:Int))),(14,.p (iV v14))],⟨[[.p (.sl false (h0_0.map Qah)),.mh 1,.p (sV y10.1),.p (bV y10.2.1),.fn (.func 64) [] [.ptr 2 0]],[mpD (fun x =>.agg (Qam x)) iV y10.2.2.1],[.p (iV y10.2.2.2)],[.p (iV x4.Kind),.p (sV x4.Name),.p (sV x4.Text),.p (iV x4.N),.p (.sl false (x4.L.map Qab)),.p (.sl false (x4.Then.map Qab)),.p (.sl false (x4.Else.map Qab))]],[1]⟩⟩
def Qli (p1:(List UInt8)) (p2:(List Qaa)) (p3:(List Qak)) (h0_0:(List Qac)) (v14:Int) (h0_2_:(List UInt8)) (h0_3_:Bool) (h1_0_:(List (Qaf×Int))) (h2_0_:Int) (x4:Qaa) (y11:Unit):St:=⟨[],⟨[[.p (.sl false (h0_0.map Qah)),.mh 1,.p (sV p1),.p (bV true),.fn (.func 64) [] [.ptr 2 0]],[mpD (fun x =>.agg (Qam x)) iV h1_0_],[.p (iV h2_0_)],[.p (iV x4.Kind),.p (sV x4.Name),.p (sV x4.Text),.p (iV x4.N),.p (.sl false (x4.L.map Qab)),.p (.sl false (x4.Then.map Qab)),.p (.sl false (x4.Else.map Qab))]],[1]⟩⟩
def Qlj (p1:(List UInt8)) (p2:(List Qaa)) (p3:(List Qak)) (h0_0:(List Qac)) (v14:Int) (h0_2_:(List UInt8)) (h0_3_:Bool) (h1_0_:(List (Qaf×Int))) (h2_0_:Int) (x4:Qaa) (x6:Bool) (x7:(List Qak)) (o13:Bool):St:=⟨[(0,.ptr 0 0),(1,.p (sV p1)),(3,.p (.sl false (p3.map Qar))),(9,.ptr 3 0),(10,.p (bV x6)),(11,.x 0 1 (.sl 46 3 (x7.map Qar))),(12,.p (.sl false (p2.map Qab))),(13,.p (iV (p2.length:Int))),(14,.p (iV v14)),(34,.p (iV x4.Kind)),(43,.p (bV o13))],⟨[[.p (.sl false (h0_0.map Qah)),.mh 1,.p (sV h0_2_),.p (bV h0_3_),.fn (.func 64) [] [.ptr 2 0]],[mpD (fun x =>.agg (Qam x)) iV h1_0_],[.p (iV h2_0_)],[.p (iV x4.Kind),.p (sV x4.Name),.p (sV x4.Text),.p (iV x4.N),.p (.sl false (x4.L.map Qab)),.p (.sl false (x4.Then.map Qab)),.p (.sl false (x4.Else.map Qab))]],[1]⟩⟩
def Qbs (p1:(List UInt8)) (p2:(List Qaa)) (p3:(List Qak)) (h0_0:(List Qac)) (v14:Int) (h0_2_:(List UInt8)) (h0_3_:Bool) (h1_0_:(List (Qaf×Int))) (h2_0_:Int):St:=⟨[(0,.ptr 0 0),(1,.p (sV p1)),(3,.p (.sl false (p3.map Qar))),(12,.p (.sl false (p2.map Qab))),(13,.p (iV (p2.length:Int))),(14,.p (iV v14))],⟨[[.p (.sl false (h0_0.map Qah)),.mh 1,.p (sV h0_2_),.p (bV h0_3_),.fn (.func 64) [] [.ptr 2 0]],[mpD (fun x =>.agg (Qam x)) iV h1_0_],[.p (iV h2_0_)]],[]⟩⟩
def Qfm (p1:(List UInt8)) (p2:(List Qaa)) (p3:(List Qak)) (h0_0:(List Qac)) (y2:(List UInt8)×Bool×(List (Qaf×Int))×Int):St:=⟨[],⟨[[.p (.sl false (h0_0.map Qah)),.mh 1,.p (sV y2.1),.p (bV y2.2.1),.fn (.func 64) [] [.ptr 2 0]],[mpD (fun x =>.agg (Qam x)) iV y2.2.2.1],[.p (iV y2.2.2.2)]],[]⟩⟩
def Qfn (p1:(List UInt8)) (p2:(List Qaa)) (p3:(List Qak)) (h0_0:(List Qac)) (y3:(List UInt8)×Bool×(List (Qaf×Int))×Int):St:=⟨[],⟨[[.p (.sl false (h0_0.map Qah)),.mh 1,.p (sV y3.1),.p (bV y3.2.1),.fn (.func 64) [] [.ptr 2 0]],[mpD (fun x =>.agg (Qam x)) iV y3.2.2.1],[.p (iV y3.2.2.2)]],[]⟩⟩
def Qlk:Code:=((Qa4 (Tryz.f85.body.getD .skip)).getD 0 .skip)
def Qgg (_:(List UInt8)×Bool×(List (Qaf×Int))):D :=.tup []
def Qqg:List (Nat×List Nat):=[(0,[0,3]),(1,[0,3,12]),(2,[0,3]),(3,[0,3,4]),(4,[]),(5000001,[2005]),(9000002,[5,0,0,0]),(9800002,[5]),(7000002,[0,3,16,17])]
def Qfj (_:(List UInt8)×Bool×(List (Qaf×Int))×Int):D :=.tup []
def Qof:List (Nat×List Nat):=[(0,[0,3]),(1,[0,3,12]),(2,[0,3]),(3,[0,3,4]),(4,[]),(5000001,[2005]),(9000002,[5,0,0,0]),(9800002,[5]),(7000002,[0,3,16,17])]
def Qcv (y:(List Qak)):D :=.x 0 1 (.sl 46 3 (y.map Qar))
def Qhw:List (Nat×List Nat):=[(0,[0]),(1,[0,4]),(2,[2]),(3,[2]),(9000001,[1,0,0,0]),(9000003,[2,0,0,0])]
def Qbq (y:Bool):D :=.p (bV y)
def Qde:List (Nat×List Nat):=[(0,[0,1]),(1,[4])]
def Qbc (y:Int):D :=.p (iV y)
def Qbv:List (Nat×List Nat):=[(0,[0,1]),(1,[0,1,7,8]),(2,[0,1,7,8,9]),(3,[0,1,5,7,8]),(4,[0,1,5,7,8,16]),(5,[4]),(6,[0,1,7,8]),(7,[4]),(1000002,[0,1,7,8])]
def Qa7 (p0:(List Qaa)) (h0_0:(List Qak)) (v8:Int):St:=⟨[(0,.p (.sl false (p0.map Qab))),(1,.fn (.func 57) [] [.ptr 0 0]),(7,.p (iV (p0.length:Int))),(8,.p (iV v8))],⟨[[.p (.sl false (h0_0.map Qar))]],[]⟩⟩
def Qbo (p0:(List Qaa)) (h0_0:(List Qak)) (y2:Unit):St:=⟨[],⟨[[.p (.sl false (h0_0.map Qar))]],[]⟩⟩
def Qbp (p0:(List Qaa)) (h0_0:(List Qak)) (y3:Int):St:=⟨[(4,.p (iV y3))],⟨[[.p (.sl false (h0_0.map Qar))]],[]⟩⟩
def Qdg:Code:=((Qa4 (Tryz.f83.body.getD .skip)).getD 0 .skip)
def Qq1 (p0:(List UInt8)):Option (Int×Bool) :=
 need (p0.length≤9223372036854775807)>>=fun _ =>
 some (Qxv p0)
theorem Q3h:∀ (p0:(List UInt8)) (o:Int×Bool),Qq1 p0=some o→PCall Tryz.prog 160 [sV p0] (Qvm o):=by
 intro p0 o h;unfold Qq1 at h;obtain⟨h1,h⟩:=Q5q h;cases h;exact Qaa2 _ h1
def Qtx (p0:Int):Option (Bool) :=
 ( if(p0==32) then
   some true
  else
   if(p0==9) then
    some true
   else
    if(p0==10) then
     some true
    else
     some (p0==13):Option (Bool))>>=fun o1 =>
 some o1
theorem Q6m:∀ (p0:Int) (o:Bool),Qtx p0=some o→PCall Tryz.prog 158 [nV .u8 p0] (Qsh o):=by
 intro p0 o h;unfold Qtx at h;refine PCall.ofB mixed tbOk Q6e Tryz.func158 rfl (by kernel_rfl) (Nat.le_of_ble_eq_true rfl) ?_;refine Qal h (fun o1 ho hk=>?_);refine Exists.intro (JP1 _ _ o1 .normal (Qz9 )) (And.intro ?_ (Qbb ?_))
 ·have h:=ho;refine Qae h (fun hb h=>?_) (fun hb h=>?_)
  ·refine bT ?_;refine bT ?_;refine JP1.a h ?_;exact Le.tz 0 0 rfl rfl rfl
  ·refine Qae h (fun hb h=>?_) (fun hb h=>?_)
   ·refine bT ?_;refine JP1.a h ?_;exact Le.tz 0 0 rfl rfl rfl
   ·refine Qae h (fun hb h=>?_) (fun hb h=>?_)
    ·refine JP1.a h ?_;exact Le.tz 0 0 rfl rfl rfl
    ·refine JP1.a h ?_;exact Le.tz 0 0 rfl rfl rfl
 ·have h:=hk;refine Qax (t:=Qsh) h ?_;exact .refl _
def Qe5 (p0:(List UInt8)) (v1:Int):Option (Int) :=
 ( if(decide (v1<(p0.length:Int))) then
   idx p0 v1>>=fun x3 =>
   Qtx (x3.toNat:Int)>>=fun x4 =>
   some x4
  else
   some false:Option (Bool))>>=fun o2 =>
 if o2 then
  Qe5 p0 (wr (v1+1))
 else
  some v1
 partial_fixpoint
theorem Qabb:∀ (p0:(List UInt8)),(∀ (v1:Int) (o1:Int),Qe5 p0 v1=some o1→TL (0,0) Tryz.prog 18 Qyq (JP1 (0,0) 18 o1 (.exit 0) (Qo1 p0)) (Qj9 p0 v1)):=by
 intro p0;refine Qe5.partial_correctness p0 _ ?_;intro Qe5' iQe5 v1 o1 h;refine TL.round (Qas mixed tbOk (lv:=Qtj) _ _ _ ?_);refine Qal h (fun o2 ho hk=>?_);refine Exists.intro (JP1 _ _ o2 .normal (Qyp p0 v1)) (And.intro ?_ (Qbb ?_))
 ·have h:=ho;refine vrfl ?_;refine Qae h (fun hb h=>?_) (fun hb h=>?_)
  ·refine Qd3 h (fun x3 hi h=>?_);refine Qat [nV .u8 (x3.toNat:Int)] Qsh h (fun x4 hy=>(Q6m (x3.toNat:Int) x4 hy)) (fun x4 hy h=>?_);refine JP1.a h ?_;exact Le.tz 0 0 rfl rfl rfl
  ·refine JP1.a h ?_;exact Le.tz 0 0 rfl rfl rfl
 ·have h:=hk;refine Qae h (fun hb h=>?_) (fun hb h=>?_)
  ·refine TL.le (τ := Qj9 p0 (wr (v1+1))) ?_ ((iQe5 (wr (v1+1)) _ h));exact Le.tz 0 0 rfl rfl rfl
  ·exact JP1.a h (Le.tz 0 0 rfl rfl rfl)
def Qi3 (p0:(List UInt8)) (p1:Int):Option (Int) :=
 (Qe5 p0 p1)>>=fun o1 =>
 some o1
theorem Qty:∀ (p0:(List UInt8)) (p1:Int) (o:Int),Qi3 p0 p1=some o→PCall Tryz.prog 140 [sV p0,iV p1] (Ql3 o):=by
 intro p0 p1 o h;unfold Qi3 at h;refine PCall.ofB mixed tbOk Qtj Tryz.func140 rfl (by kernel_rfl) (Nat.le_of_ble_eq_true rfl) ?_;refine Qal h (fun o1 ho hk=>?_);refine Exists.intro (JP1 _ _ o1 (.exit 0) (Qo1 p0)) (And.intro (Qk2 (τ := Qj9 p0 p1) ?_ (TL.loop (Qabb p0 p1 o1 ho))) (Qbb ?_))
 ·exact Le.tz 0 0 rfl rfl rfl
 have h:=hk;refine Qax (t:=Ql3) h ?_;exact .refl _
def Qi4 (p0:(List UInt8)) (p1:Int) (x1:UInt8) (v9:Int):Option (Unit⊕(Int×Int)) :=
 if(decide (v9<([46,40,41,44,61].length:Int))) then
  idx ([46,40,41,44,61]:List UInt8) v9>>=fun x6 =>
  if((x6.toNat:Int)==(x1.toNat:Int)) then
   idx ([7,8,9,10,11]:List Int) v9>>=fun x7 =>
   some (.inr (x7,x7))
  else
   Qi4 p0 p1 x1 (wr (v9+1))
 else
  some (.inl ())
 partial_fixpoint
theorem Qaek:∀ (p0:(List UInt8)) (p1:Int) (x1:UInt8),(∀ (v9:Int) (o3:Unit⊕(Int×Int)),Qi4 p0 p1 x1 v9=some o3→TL (0,0) Tryz.prog 133 Q6f (JP2 (0,0) 133 o3 (.exit 0) (Qtk p0 p1 x1) .ret (Qtl p0 p1 x1)) (Qoc p0 p1 x1 v9)):=by
 intro p0 p1 x1;refine Qi4.partial_correctness p0 p1 x1 _ ?_;intro Qi4' iQi4 v9 o3 h;refine TL.round (Qas mixed tbOk (lv:=Qq0) _ _ _ ?_);refine vrfl ?_;refine Qae h (fun hb h=>?_) (fun hb h=>?_)
 ·refine Qd3 h (fun x6 hi h=>?_);refine Qae h (fun hb h=>?_) (fun hb h=>?_)
  ·refine Qco (l:=[7,8,9,10,11]) (c:=cInt) (c' := cInt) h (fun _=>rfl) (fun _=>rfl) (by decide) (fun x7 hi h=>?_);exact JP2.b h (Le.tz 2 0 rfl rfl rfl)
  ·refine TL.le (τ := Qoc p0 p1 x1 (wr (v9+1))) ?_ ((iQi4 (wr (v9+1)) _ h));exact Le.tz 2 0 rfl rfl rfl
 ·exact JP2.a h (Le.tz 2 0 rfl rfl rfl)
def Qi5 (p0:(List UInt8)) (p1:Int) (v12:Int):Option (Int) :=
 ( if(decide (v12<(p0.length:Int))) then
   idx p0 v12>>=fun x12 =>
   Qgl (x12.toNat:Int)>>=fun x13 =>
   if x13 then
    some true
   else
    idx p0 v12>>=fun x14 =>
    Qgk (x14.toNat:Int)>>=fun x15 =>
    if x15 then
     some true
    else
     idx p0 v12>>=fun x16 =>
     some ((x16.toNat:Int)==95)
  else
   some false:Option (Bool))>>=fun o11 =>
 if o11 then
  Qi5 p0 p1 (wr (v12+1))
 else
  some v12
 partial_fixpoint
theorem Qael:∀ (p0:(List UInt8)) (p1:Int),(∀ (v12:Int) (o10:Int),Qi5 p0 p1 v12=some o10→TL (0,0) Tryz.prog 133 Q6h (JP1 (0,0) 133 o10 (.exit 2) (Qtm p0 p1)) (Qod p0 p1 v12)):=by
 intro p0 p1;refine Qi5.partial_correctness p0 p1 _ ?_;intro Qi5' iQi5 v12 o10 h;refine TL.round (Qas mixed tbOk (lv:=Qq0) _ _ _ ?_);refine Qal h (fun o11 ho hk=>?_);refine Exists.intro (JP1 _ _ o11 .normal (Q6g p0 p1 v12)) (And.intro ?_ (Qbb ?_))
 ·have h:=ho;refine vrfl ?_;refine Qae h (fun hb h=>?_) (fun hb h=>?_)
  ·refine Qd3 h (fun x12 hi h=>?_);refine Qat [nV .u8 (x12.toNat:Int)] Qip h (fun x13 hy=>(Ql2 (x12.toNat:Int) x13 hy)) (fun x13 hy h=>?_);refine Qae h (fun hb h=>?_) (fun hb h=>?_)
   ·refine bT ?_;refine JP1.a h ?_;exact Le.tz 2 0 rfl rfl rfl
   ·refine Qd3 h (fun x14 hi h=>?_);refine Qat [nV .u8 (x14.toNat:Int)] Qio h (fun x15 hy=>(Ql1 (x14.toNat:Int) x15 hy)) (fun x15 hy h=>?_);refine Qae h (fun hb h=>?_) (fun hb h=>?_)
    ·refine JP1.a h ?_;exact Le.tz 2 0 rfl rfl rfl
    ·refine Qd3 h (fun x16 hi h=>?_);refine JP1.a h ?_;exact Le.tz 2 0 rfl rfl rfl
  ·refine JP1.a h ?_;exact Le.tz 2 0 rfl rfl rfl
 ·have h:=hk;refine Qae h (fun hb h=>?_) (fun hb h=>?_)
  ·refine TL.le (τ := Qod p0 p1 (wr (v12+1))) ?_ ((iQi5 (wr (v12+1)) _ h));exact Le.tz 2 0 rfl rfl rfl
  ·exact JP1.a h (Le.tz 2 0 rfl rfl rfl)
def Qi6 (p0:(List UInt8)) (p1:Int) (v12:Int):Option (Int) :=
 ( if(decide (v12<(p0.length:Int))) then
   idx p0 v12>>=fun x24 =>
   Qgk (x24.toNat:Int)>>=fun x25 =>
   some x25
  else
   some false:Option (Bool))>>=fun o23 =>
 if o23 then
  Qi6 p0 p1 (wr (v12+1))
 else
  some v12
 partial_fixpoint
theorem Qaem:∀ (p0:(List UInt8)) (p1:Int),(∀ (v12:Int) (o22:Int),Qi6 p0 p1 v12=some o22→TL (0,0) Tryz.prog 133 Q6k (JP1 (0,0) 133 o22 (.exit 4) (Qtn p0 p1)) (Qoe p0 p1 v12)):=by
 intro p0 p1;refine Qi6.partial_correctness p0 p1 _ ?_;intro Qi6' iQi6 v12 o22 h;refine TL.round (Qas mixed tbOk (lv:=Qq0) _ _ _ ?_);refine Qal h (fun o23 ho hk=>?_);refine Exists.intro (JP1 _ _ o23 .normal (Q6j p0 p1 v12)) (And.intro ?_ (Qbb ?_))
 ·have h:=ho;refine vrfl ?_;refine Qae h (fun hb h=>?_) (fun hb h=>?_)
  ·refine Qd3 h (fun x24 hi h=>?_);refine Qat [nV .u8 (x24.toNat:Int)] Qio h (fun x25 hy=>(Ql1 (x24.toNat:Int) x25 hy)) (fun x25 hy h=>?_);refine JP1.a h ?_;exact Le.tz 2 0 rfl rfl rfl
  ·refine JP1.a h ?_;exact Le.tz 2 0 rfl rfl rfl
 ·have h:=hk;refine Qae h (fun hb h=>?_) (fun hb h=>?_)
  ·refine TL.le (τ := Qoe p0 p1 (wr (v12+1))) ?_ ((iQi6 (wr (v12+1)) _ h));exact Le.tz 2 0 rfl rfl rfl
  ·exact JP1.a h (Le.tz 2 0 rfl rfl rfl)
def Qc6 (p0:(List UInt8)) (v1:Int) (v6:(List UInt8)):Option (Unit⊕((List UInt8)×Int)) :=
 if(decide (v1<(p0.length:Int))) then
  idx p0 v1>>=fun x4 =>
  if((x4.toNat:Int)==34) then
   some (.inr (v6,(wr (v1+1))))
  else
   idx p0 v1>>=fun x5 =>
   if((x5.toNat:Int)==92) then
    if((wr (v1+1))==(p0.length:Int)) then
     some (.inr ([],(-1)))
    else
     ( idx p0 (wr (v1+1))>>=fun x7 =>
      some (x7.toNat:Int):Option (Int))>>=fun o6 =>
     if(o6==110) then
      need (v6.length+[10].length≤9223372036854775807)>>=fun _ =>
      Qc6 p0 (wr (v1+2)) (v6++[10])
     else
      if(o6==116) then
       need (v6.length+[9].length≤9223372036854775807)>>=fun _ =>
       Qc6 p0 (wr (v1+2)) (v6++[9])
      else
       ( if(o6==34) then
         some true
        else
         some (o6==92):Option (Bool))>>=fun o8 =>
       if o8 then
        cutL p0 (wr (v1+1)) (wr (v1+2))>>=fun x9 =>
        need (v6.length+x9.length≤9223372036854775807)>>=fun _ =>
        Qc6 p0 (wr (v1+2)) (v6++x9)
       else
        some (.inr ([],(-1)))
   else
    Qkm p0 v1>>=fun x10 =>
    ( if(x10.1==10) then
      some true
     else
      if(x10.1==13) then
       some true
      else
       if(x10.1==65533) then
        some (x10.2==1)
       else
        some false:Option (Bool))>>=fun o11 =>
    if o11 then
     some (.inr ([],(-1)))
    else
     cutL p0 v1 (wr (v1+x10.2))>>=fun x12 =>
     need (v6.length+x12.length≤9223372036854775807)>>=fun _ =>
     Qc6 p0 (wr (v1+x10.2)) (v6++x12)
 else
  some (.inl ())
 partial_fixpoint
theorem Qabc:∀ (p0:(List UInt8)),(∀ (v1:Int) (v6:(List UInt8)) (o1:Unit⊕((List UInt8)×Int)),Qc6 p0 v1 v6=some o1→TL (0,0) Tryz.prog 91 Qyv (JP2 (0,0) 91 o1 (.exit 0) (Qo2 p0) .ret (Qo3 p0)) (Qd6 p0 v1 v6)):=by
 intro p0;refine Qc6.partial_correctness p0 _ ?_;intro Qc6' iQc6 v1 v6 o1 h;refine TL.round (Qas mixed tbOk (lv:=Qto) _ _ _ ?_);refine vrfl ?_;refine Qae h (fun hb h=>?_) (fun hb h=>?_)
 ·refine Qd3 h (fun x4 hi h=>?_);refine Qae h (fun hb h=>?_) (fun hb h=>?_)
  ·exact JP2.b h (Le.tz 0 0 rfl rfl rfl)
  ·refine Qd3 h (fun x5 hi h=>?_);refine Qae h (fun hb h=>?_) (fun hb h=>?_)
   ·refine vrfl ?_;refine Qae h (fun hb h=>?_) (fun hb h=>?_)
    ·exact JP2.b h (Le.tz 0 0 rfl rfl rfl)
    ·refine Qal h (fun o6 ho hk=>?_);refine Exists.intro (JP1 _ _ o6 .normal (Qys p0 v1 v6)) (And.intro ?_ (Qbb ?_))
     ·have h:=ho;refine Qd3 h (fun x7 hi h=>?_);refine JP1.a h ?_;exact Le.tz 0 0 rfl rfl rfl
     ·have h:=hk;refine Qae h (fun hb h=>?_) (fun hb h=>?_)
      ·refine Qxr h (fun h=>?_);refine TL.le (τ := Qd6 p0 (wr (v1+2)) (v6++[10])) ?_ ((iQc6 (wr (v1+2)) (v6++[10]) _ h));exact Le.tz 0 0 rfl rfl rfl
      ·refine Qae h (fun hb h=>?_) (fun hb h=>?_)
       ·refine Qxr h (fun h=>?_);refine TL.le (τ := Qd6 p0 (wr (v1+2)) (v6++[9])) ?_ ((iQc6 (wr (v1+2)) (v6++[9]) _ h));exact Le.tz 0 0 rfl rfl rfl
       ·refine Qal h (fun o8 ho hk=>?_);refine Exists.intro (JP1 _ _ o8 .normal (Qyt p0 v1 v6)) (And.intro ?_ (Qbb ?_))
        ·have h:=ho;refine Qae h (fun hb h=>?_) (fun hb h=>?_)
         ·refine JP1.a h ?_;exact Le.tz 0 0 rfl rfl rfl
         ·refine JP1.a h ?_;exact Le.tz 0 0 rfl rfl rfl
        ·have h:=hk;refine Qae h (fun hb h=>?_) (fun hb h=>?_)
         ·refine Qmf (some (wr (v1+1))) (some (wr (v1+2))) h (fun x9 hi h=>?_);refine Qxr h (fun h=>?_);refine TL.le (τ := Qd6 p0 (wr (v1+2)) (v6++x9)) ?_ ((iQc6 (wr (v1+2)) (v6++x9) _ h));exact Le.tz 0 0 rfl rfl rfl
         ·exact JP2.b h (Le.tz 0 0 rfl rfl rfl)
   ·refine Qat [sV p0,iV v1] Qm2 h (fun x10 hy=>(Q78 p0 v1 x10 hy)) (fun x10 hy h=>?_);refine Qal h (fun o11 ho hk=>?_);refine Exists.intro (JP1 _ _ o11 .normal (Qyu p0 v1 v6 x10)) (And.intro ?_ (Qbb ?_))
    ·have h:=ho;refine Qae h (fun hb h=>?_) (fun hb h=>?_)
     ·refine bT ?_;refine JP1.a h ?_;exact Le.tz 0 0 rfl rfl rfl
     ·refine Qae h (fun hb h=>?_) (fun hb h=>?_)
      ·refine JP1.a h ?_;exact Le.tz 0 0 rfl rfl rfl
      ·refine Qae h (fun hb h=>?_) (fun hb h=>?_)
       ·refine JP1.a h ?_;exact Le.tz 0 0 rfl rfl rfl
       ·refine JP1.a h ?_;exact Le.tz 0 0 rfl rfl rfl
    ·have h:=hk;refine Qae h (fun hb h=>?_) (fun hb h=>?_)
     ·exact JP2.b h (Le.tz 0 0 rfl rfl rfl)
     ·refine Qmf (some v1) (some (wr (v1+x10.2))) h (fun x12 hi h=>?_);refine Qxr h (fun h=>?_);refine TL.le (τ := Qd6 p0 (wr (v1+x10.2)) (v6++x12)) ?_ ((iQc6 (wr (v1+x10.2)) (v6++x12) _ h));exact Le.tz 0 0 rfl rfl rfl
 ·exact JP2.a h (Le.tz 0 0 rfl rfl rfl)
def Qku (p0:(List UInt8)) (p1:Int):Option ((List UInt8)×Int) :=
 (Qc6 p0 (wr (p1+1)) [])>>=fun o1 =>
 match o1 with
 | .inl y2 =>
  some ([],(-1))
 | .inr y3 =>
  some (y3.1,y3.2)
theorem Q3i:∀ (p0:(List UInt8)) (p1:Int) (o:(List UInt8)×Int),Qku p0 p1=some o→PCall Tryz.prog 159 [sV p0,iV p1] (Ql4 o):=by
 intro p0 p1 o h;unfold Qku at h;refine PCall.ofB mixed tbOk Qto Tryz.func159 rfl (by kernel_rfl) (Nat.le_of_ble_eq_true rfl) ?_;refine Qal h (fun o1 ho hk=>?_);refine Exists.intro (JP2 _ _ o1 (.exit 0) (Qo2 p0) .ret (Qo3 p0)) (And.intro (Qk2 (τ := Qd6 p0 (wr (p1+1)) []) ?_ (TL.loop (Qabc p0 (wr (p1+1)) [] o1 ho))) (Qjy (fun y2 hy=>?_) (fun y3 hy=>?_)))
 ·exact Le.tz 0 0 rfl rfl rfl
 ·have h:=(by rw[hy] at hk; exact hk);refine Qax (t:=Ql4) h ?_;exact .refl _
 ·have h:=(by rw[hy] at hk; exact hk);refine Qax (t:=Ql4) h ?_;exact .refl _
def Quw (p0:(List UInt8)) (p1:Int):Option (Qai×Bool) :=
 idx p0 p1>>=fun x1 =>
 Qf5 p0 [125,125] p1>>=fun x2 =>
 if x2 then
  some ((Qai.mk 3 [] 0 p1 (wr (p1+2))),true)
 else
  (Qi4 p0 p1 x1 0)>>=fun o3 =>
  match o3 with
  | .inl y4 =>
   if((x1.toNat:Int)==34) then
    Qku p0 p1>>=fun x8 =>
    some ((Qai.mk 5 x8.1 0 p1 x8.2),(decide (x8.2>0)))
   else
    Qgl (x1.toNat:Int)>>=fun x9 =>
    if x9 then
     (Qi5 p0 p1 (wr (p1+1)))>>=fun o10 =>
     cutL p0 p1 o10>>=fun x17 =>
     cutL p0 p1 o10>>=fun x18 =>
     Qje x18>>=fun x19 =>
     some ((Qai.mk 4 x17 0 p1 o10),x19)
    else
     ( if((x1.toNat:Int)==45) then
       some true
      else
       Qgk (x1.toNat:Int)>>=fun x21 =>
       some x21:Option (Bool))>>=fun o20 =>
     if o20 then
      (Qi6 p0 p1 (wr (p1+1)))>>=fun o22 =>
      cutL p0 p1 o22>>=fun x26 =>
      Qq1 x26>>=fun x27 =>
      some ((Qai.mk 6 [] x27.1 p1 o22),x27.2)
     else
      some ((Qai.mk 0 [] 0 p1 (wr (p1+1))),false)
  | .inr y5 =>
   some ((Qai.mk y5.1 [] 0 p1 (wr (p1+1))),true)
theorem Qabd:∀ (p0:(List UInt8)) (p1:Int) (o:Qai×Bool),Quw p0 p1=some o→PCall Tryz.prog 142 [sV p0,iV p1] (Qjq o):=by
 intro p0 p1 o h;unfold Quw at h;refine PCall.ofB mixed tbOk Qq0 Tryz.func142 rfl (by kernel_rfl) (Nat.le_of_ble_eq_true rfl) ?_;refine Qd3 h (fun x1 hi h=>?_);refine Qat [sV p0,sV [125,125],iV p1] Qjk h (fun x2 hy=>(Qn9 p0 [125,125] p1 x2 hy)) (fun x2 hy h=>?_);refine Qae h (fun hb h=>?_) (fun hb h=>?_)
 ·refine Qax (t:=Qjq) h ?_;exact .refl _
 ·refine Qal h (fun o3 ho hk=>?_);refine Exists.intro (JP2 _ _ o3 (.exit 0) (Qtk p0 p1 x1) .ret (Qtl p0 p1 x1)) (And.intro (Qk2 (τ := Qoc p0 p1 x1 0) ?_ (TL.loop (Qaek p0 p1 x1 0 o3 ho))) (Qjy (fun y4 hy=>?_) (fun y5 hy=>?_)))
  ·exact Le.tz 2 0 rfl rfl rfl
  ·have h:=(by rw[hy] at hk; exact hk);refine Qae h (fun hb h=>?_) (fun hb h=>?_)
   ·refine Qat [sV p0,iV p1] Ql4 h (fun x8 hy=>(Q3i p0 p1 x8 hy)) (fun x8 hy h=>?_);refine Qax (t:=Qjq) h ?_;exact .refl _
   ·refine Qat [nV .u8 (x1.toNat:Int)] Qip h (fun x9 hy=>(Ql2 (x1.toNat:Int) x9 hy)) (fun x9 hy h=>?_);refine Qae h (fun hb h=>?_) (fun hb h=>?_)
    ·refine Qal h (fun o10 ho hk=>?_);refine Exists.intro (JP1 _ _ o10 (.exit 2) (Qtm p0 p1)) (And.intro (Qk2 (τ := Qod p0 p1 (wr (p1+1))) ?_ (TL.loop (Qael p0 p1 (wr (p1+1)) o10 ho))) (Qbb ?_))
     ·exact Le.tz 2 0 rfl rfl rfl
     have h:=hk;refine And.intro (by decide +kernel) (And.intro rfl ?_);refine Qmf (some p1) (some o10) h (fun x17 hi h=>?_);refine Qmf (some p1) (some o10) h (fun x18 hi h=>?_);refine Qen [sV x18] Qin h (fun x19 hy=>(Qsb x18 x19 hy)) (fun x19 hy h=>?_);refine Qax (t:=Qjq) h ?_;exact .refl _
    ·refine Qal h (fun o20 ho hk=>?_);refine Exists.intro (JP1 _ _ o20 .normal (Q6i p0 p1)) (And.intro ?_ (Qbb ?_))
     ·have h:=ho;refine Qae h (fun hb h=>?_) (fun hb h=>?_)
      ·refine JP1.a h ?_;exact Le.tz 2 0 rfl rfl rfl
      ·refine Qat [nV .u8 (x1.toNat:Int)] Qio h (fun x21 hy=>(Ql1 (x1.toNat:Int) x21 hy)) (fun x21 hy h=>?_);refine JP1.a h ?_;exact Le.tz 2 0 rfl rfl rfl
     ·have h:=hk;refine Qae h (fun hb h=>?_) (fun hb h=>?_)
      ·refine Qal h (fun o22 ho hk=>?_);refine Exists.intro (JP1 _ _ o22 (.exit 4) (Qtn p0 p1)) (And.intro (Qk2 (τ := Qoe p0 p1 (wr (p1+1))) ?_ (TL.loop (Qaem p0 p1 (wr (p1+1)) o22 ho))) (Qbb ?_))
       ·exact Le.tz 2 0 rfl rfl rfl
       have h:=hk;refine Qmf (some p1) (some o22) h (fun x26 hi h=>?_);refine Qat [sV x26] Qvm h (fun x27 hy=>(Q3h x26 x27 hy)) (fun x27 hy h=>?_);refine Qax (t:=Qjq) h ?_;exact .refl _
      ·refine Qax (t:=Qjq) h ?_;exact .refl _
  ·have h:=(by rw[hy] at hk; exact hk);refine Qax (t:=Qjq) h ?_;exact .refl _
def Qe6 (p0:(List UInt8)) (v5_:(List Qai)) (v6_:Int):Option (((List Qai)×Int)⊕Int) :=
 Qi3 p0 v6_>>=fun x16 =>
 if(x16==(p0.length:Int)) then
  some (.inr x16)
 else
  Quw p0 x16>>=fun x17 =>
  if(!x17.2) then
   some (.inr x16)
  else
   appL 48 v5_ [x17.1]>>=fun x18 =>
   if(x17.1.Kind==3) then
    some (.inl (x18,x17.1.To))
   else
    Qe6 p0 x18 x17.1.To
 partial_fixpoint
theorem Qabe:∀ (p0:(List UInt8)),(∀ (v5_:(List Qai)) (v6_:Int) (o13:((List Qai)×Int)⊕Int),Qe6 p0 v5_ v6_=some o13→TL (0,0) Tryz.prog 83 Qyn (JP2 (0,0) 83 o13 (.exit 2) (Qox p0) .ret (Qoy p0)) (Qj7 p0 v5_ v6_)):=by
 intro p0;refine Qe6.partial_correctness p0 _ ?_;intro Qe6' iQe6 v5_ v6_ o13 h;refine TL.round (Qas mixed tbOk (lv:=Qob) _ _ _ ?_);refine Qat [sV p0,iV v6_] Ql3 h (fun x16 hy=>(Qty p0 v6_ x16 hy)) (fun x16 hy h=>?_);refine vrfl ?_;refine Qae h (fun hb h=>?_) (fun hb h=>?_)
 ·exact JP2.b h (Le.tz 0 0 rfl rfl rfl)
 ·refine Qat [sV p0,iV x16] Qjq h (fun x17 hy=>(Qabd p0 x16 x17 hy)) (fun x17 hy h=>?_);refine Qae h (fun hb h=>?_) (fun hb h=>?_)
  ·exact JP2.b h (Le.tz 0 0 rfl rfl rfl)
  ·refine Qr3 (a:=v5_) (b:=[x17.1]) (c:=Qag) h (.refl _) (fun _=>rfl) rfl (fun x18 hi h=>?_);refine Qae h (fun hb h=>?_) (fun hb h=>?_)
   ·exact JP2.a h (Le.tz 0 1 rfl rfl rfl)
   ·refine TL.le (τ := Qj7 p0 x18 x17.1.To) ?_ ((iQe6 x18 x17.1.To _ h));exact Le.tz 0 1 rfl rfl rfl
def Qg5 (p0:(List UInt8)) (p1:(List UInt8)) (v2:Int):Option (Int) :=
 ( if(decide (v2<(p0.length:Int))) then
   Qf5 p0 p1 v2>>=fun x3 =>
   some (!x3)
  else
   some false:Option (Bool))>>=fun o2 =>
 if o2 then
  Qg5 p0 p1 (wr (v2+1))
 else
  some v2
 partial_fixpoint
theorem Qadq:∀ (p0:(List UInt8)) (p1:(List UInt8)),(∀ (v2:Int) (o1:Int),Qg5 p0 p1 v2=some o1→TL (0,0) Tryz.prog 21 Q3g (JP1 (0,0) 21 o1 (.exit 0) (Qrx p0 p1)) (Qmp p0 p1 v2)):=by
 intro p0 p1;refine Qg5.partial_correctness p0 p1 _ ?_;intro Qg5' iQg5 v2 o1 h;refine TL.round (Qas mixed tbOk (lv:=Qyr) _ _ _ ?_);refine Qal h (fun o2 ho hk=>?_);refine Exists.intro (JP1 _ _ o2 .normal (Q3f p0 p1 v2)) (And.intro ?_ (Qbb ?_))
 ·have h:=ho;refine vrfl ?_;refine Qae h (fun hb h=>?_) (fun hb h=>?_)
  ·refine Qat [sV p0,sV p1,iV v2] Qjk h (fun x3 hy=>(Qn9 p0 p1 v2 x3 hy)) (fun x3 hy h=>?_);refine JP1.a h ?_;exact Le.tz 0 0 rfl rfl rfl
  ·refine JP1.a h ?_;exact Le.tz 0 0 rfl rfl rfl
 ·have h:=hk;refine Qae h (fun hb h=>?_) (fun hb h=>?_)
  ·refine TL.le (τ := Qmp p0 p1 (wr (v2+1))) ?_ ((iQg5 (wr (v2+1)) _ h));exact Le.tz 0 0 rfl rfl rfl
  ·exact JP1.a h (Le.tz 0 0 rfl rfl rfl)
def Qog (p0:(List UInt8)) (p1:(List UInt8)) (p2:Int):Option (Int) :=
 (Qg5 p0 p1 p2)>>=fun o1 =>
 some o1
theorem Qyw:∀ (p0:(List UInt8)) (p1:(List UInt8)) (p2:Int) (o:Int),Qog p0 p1 p2=some o→PCall Tryz.prog 139 [sV p0,sV p1,iV p2] (Qqz o):=by
 intro p0 p1 p2 o h;unfold Qog at h;refine PCall.ofB mixed tbOk Qyr Tryz.func139 rfl (by kernel_rfl) (Nat.le_of_ble_eq_true rfl) ?_;refine Qal h (fun o1 ho hk=>?_);refine Exists.intro (JP1 _ _ o1 (.exit 0) (Qrx p0 p1)) (And.intro (Qk2 (τ := Qmp p0 p1 p2) ?_ (TL.loop (Qadq p0 p1 p2 o1 ho))) (Qbb ?_))
 ·exact Le.tz 0 0 rfl rfl rfl
 have h:=hk;refine Qax (t:=Qqz) h ?_;exact .refl _
def Qe7 (p0:(List UInt8)) (v5:(List Qai)) (v6:Int):Option ((List Qai)⊕((List Qai)×Int×Int)) :=
 if(decide (v6<(p0.length:Int))) then
  Qog p0 [123,123] v6>>=fun x4 =>
  ( if(decide (x4>v6)) then
    cutL p0 v6 x4>>=fun x6 =>
    appL 48 v5 [(Qai.mk 1 x6 0 v6 x4)]>>=fun x7 =>
    some x7
   else
    some v5:Option ((List Qai)))>>=fun o5 =>
  if(x4==(p0.length:Int)) then
   some (.inr (o5,0,0))
  else
   appL 48 o5 ([(Qai.mk 2 [] 0 x4 (wr (x4+2)))])>>=fun x8 =>
   Qi3 p0 (wr (x4+2))>>=fun x9 =>
   ( Qf5 p0 [35] x9>>=fun x11 =>
    if x11 then
     Qog p0 [125,125] x9>>=fun x12 =>
     some x12
    else
     some x9:Option (Int))>>=fun o10 =>
   (Qe6 p0 x8 o10)>>=fun o13 =>
   match o13 with
   | .inl y14 =>
    Qe7 p0 y14.1 y14.2
   | .inr y15 =>
    some (.inr ([],y15,7))
 else
  some (.inl v5)
 partial_fixpoint
theorem Qabf:∀ (p0:(List UInt8)),(∀ (v5:(List Qai)) (v6:Int) (o1:(List Qai)⊕((List Qai)×Int×Int)),Qe7 p0 v5 v6=some o1→TL (0,0) Tryz.prog 83 Qyo (JP2 (0,0) 83 o1 (.exit 0) (Qoz p0) .ret (Qo0 p0)) (Qj8 p0 v5 v6)):=by
 intro p0;refine Qe7.partial_correctness p0 _ ?_;intro Qe7' iQe7 v5 v6 o1 h;refine TL.round (Qas mixed tbOk (lv:=Qob) _ _ _ ?_);refine vrfl ?_;refine Qae h (fun hb h=>?_) (fun hb h=>?_)
 ·refine Qat [sV p0,sV [123,123],iV v6] Qqz h (fun x4 hy=>(Qyw p0 [123,123] v6 x4 hy)) (fun x4 hy h=>?_);refine Qal h (fun o5 ho hk=>?_);refine Exists.intro (JP1 _ _ o5 .normal (Qyl p0 x4)) (And.intro ?_ (Qbb ?_))
  ·have h:=ho;refine Qae h (fun hb h=>?_) (fun hb h=>?_)
   ·refine Qmf (some v6) (some x4) h (fun x6 hi h=>?_);refine Qr3 (a:=v5) (b:=[(Qai.mk 1 x6 0 v6 x4)]) (c:=Qag) h (.refl _) (fun _=>rfl) rfl (fun x7 hi h=>?_);refine JP1.a h ?_;exact Le.tz 0 1 rfl rfl rfl
   ·refine JP1.a h ?_;exact Le.tz 0 1 rfl rfl rfl
  ·have h:=hk;refine vrfl ?_;refine Qae h (fun hb h=>?_) (fun hb h=>?_)
   ·exact JP2.b h (Le.tz 0 0 rfl rfl rfl)
   ·refine Qr3 (a:=o5) (b:=[(Qai.mk 2 [] 0 x4 (wr (x4+2)))]) (c:=Qag) h (.refl _) (fun _=>rfl) rfl (fun x8 hi h=>?_);refine Qat [sV p0,iV (wr (x4+2))] Ql3 h (fun x9 hy=>(Qty p0 (wr (x4+2)) x9 hy)) (fun x9 hy h=>?_);refine Qal h (fun o10 ho hk=>?_);refine Exists.intro (JP1 _ _ o10 .normal (Qym p0 x8)) (And.intro ?_ (Qbb ?_))
    ·have h:=ho;refine Qat [sV p0,sV [35],iV x9] Qjk h (fun x11 hy=>(Qn9 p0 [35] x9 x11 hy)) (fun x11 hy h=>?_);refine Qae h (fun hb h=>?_) (fun hb h=>?_)
     ·refine Qat [sV p0,sV [125,125],iV x9] Qqz h (fun x12 hy=>(Qyw p0 [125,125] x9 x12 hy)) (fun x12 hy h=>?_);refine JP1.a h ?_;exact Le.tz 0 1 rfl rfl rfl
     ·refine JP1.a h ?_;exact Le.tz 0 1 rfl rfl rfl
    ·have h:=hk;refine Qal h (fun o13 ho hk=>?_);refine Exists.intro (JP2 _ _ o13 (.exit 2) (Qox p0) .ret (Qoy p0)) (And.intro (Qk2 (τ := Qj7 p0 x8 o10) ?_ (TL.loop (Qabe p0 x8 o10 o13 ho))) (Qjy (fun y14 hy=>?_) (fun y15 hy=>?_)))
     ·exact Le.tz 0 1 rfl rfl rfl
     ·have h:=(by rw[hy] at hk; exact hk);refine TL.le (τ := Qj8 p0 y14.1 y14.2) ?_ ((iQe7 y14.1 y14.2 _ h));exact Le.tz 0 1 rfl rfl rfl
     ·have h:=(by rw[hy] at hk; exact hk);exact JP2.b h (Le.tow 0 0 rfl (.cons rfl (.p (.not)) (.cons rfl (.refl _) (.cons rfl (.refl _) (.nil)))) (.refl _) rfl)
 ·exact JP2.a h (Le.tz 0 1 rfl rfl rfl)
def Qkv (p0:(List UInt8)):Option ((List Qai)×Int×Int) :=
 if(decide ((p0.length:Int)>65536)) then
  some ([],0,6)
 else
  (Qe7 p0 [] 0)>>=fun o1 =>
  match o1 with
  | .inl y2 =>
   some (y2,0,0)
  | .inr y3 =>
   some (y3.1,y3.2.1,y3.2.2)
theorem Q3j:∀ (p0:(List UInt8)) (o:(List Qai)×Int×Int),Qkv p0=some o→PCall Tryz.prog 115 [sV p0] (Qjp o):=by
 intro p0 o h;unfold Qkv at h;refine PCall.ofB mixed tbOk Qob Tryz.func115 rfl (by kernel_rfl) (Nat.le_of_ble_eq_true rfl) ?_;refine vrfl ?_;refine Qae h (fun hb h=>?_) (fun hb h=>?_)
 ·refine Qax (t:=Qjp) h ?_;exact .tup (xs:=[.sl true [],iV 0,iV 6]) (ys:=[.sl false [],iV 0,iV 6]) (.cons (.not) (.cons (.refl _) (.cons (.refl _) (.nil))))
 ·refine Qal h (fun o1 ho hk=>?_);refine Exists.intro (JP2 _ _ o1 (.exit 0) (Qoz p0) .ret (Qo0 p0)) (And.intro (Qk2 (τ := Qj8 p0 [] 0) ?_ (TL.loop (Qabf p0 [] 0 o1 ho))) (Qjy (fun y2 hy=>?_) (fun y3 hy=>?_)))
  ·exact Le.trans (τ := ⟨[(0,.p (sV p0)),(5,.p (.sl true [])),(6,.p (iV 0))],⟨[],[]⟩⟩) (Le.tz 0 0 rfl rfl rfl) ((Le.own 5 147 5 rfl Qac0).trans (Le.tz 0 1 rfl rfl rfl))
  ·have h:=(by rw[hy] at hk; exact hk);refine Qax (t:=Qjp) h ?_;exact .refl _
  ·have h:=(by rw[hy] at hk; exact hk);refine Qax (t:=Qjp) h ?_;exact .refl _
def Qaq (p1:Int) (h0_0:(List Qai)) (h0_1:Int) (h0_2:Bool):Option (Bool) :=
 ( if(!h0_2) then
   if(decide (h0_1<(h0_0.length:Int))) then
    idx h0_0 h0_1>>=fun x2 =>
    some (x2.Kind==p1)
   else
    some false
  else
   some false:Option (Bool))>>=fun o1 =>
 some o1
theorem Qa0:∀ (p1:Int) (h0_0:(List Qai)) (h0_1:Int) (h0_2:Bool) (o:Bool),Qaq p1 h0_0 h0_1 h0_2=some o→CallOK Tryz.prog 143 [.ptr 0 0,.p (iV p1)] ⟨[[.p (.sl false (h0_0.map Qag)),.p (iV h0_1),.p (bV h0_2)]],[]⟩ (Qdu o) ⟨[[.p (.sl false (h0_0.map Qag)),.p (iV h0_1),.p (bV h0_2)]],[]⟩:=by
 intro p1 h0_0 h0_1 h0_2 o h;unfold Qaq at h;refine CallOK.ofB mixed tbOk Qv3 Tryz.func143 rfl (by kernel_rfl) (Nat.le_of_ble_eq_true rfl) rfl rfl rfl ?_;refine Qal h (fun o1 ho hk=>?_);refine Exists.intro (JP1 _ _ o1 .normal (Qtp h0_0 h0_1 h0_2)) (And.intro ?_ (Qbb ?_))
 ·have h:=ho;refine And.intro (by decide +kernel) (And.intro rfl ?_);refine Qae h (fun hb h=>?_) (fun hb h=>?_)
  ·refine view (Qej _ _) rfl ?_;refine Qae h (fun hb h=>?_) (fun hb h=>?_)
   ·refine Qco (l:=h0_0) (c:=Qag) (c' := Qag) h (fun _=>rfl) (fun _=>rfl) (by decide) (fun x2 hi h=>?_);refine JP1.a h ?_;exact Le.tz 1 0 rfl rfl rfl
   ·refine JP1.a h ?_;exact Le.tz 1 0 rfl rfl rfl
  ·refine bF ?_;refine JP1.a h ?_;exact Le.tz 1 0 rfl rfl rfl
 ·have h:=hk;refine Exists.intro _ (And.intro (Le.refl _ _ _) ?_);exact Qa5 (t:=Qdu) (ss:=fun o=>⟨[[.p (.sl false (h0_0.map Qag)),.p (iV h0_1),.p (bV h0_2)]],[]⟩) h ⟨[],rfl,.refl _,.refl _,rfl⟩
def Qb2 (p1:(List UInt8)) (h0_0:(List Qai)) (h0_1:Int) (h0_2:Bool):Option (Bool) :=
 ( Qaq 2 h0_0 h0_1 h0_2>>=fun x2 =>
  if x2 then
   if(decide ((wr (h0_1+1))<(h0_0.length:Int))) then
    idx h0_0 (wr (h0_1+1))>>=fun x3 =>
    if(x3.Kind==4) then
     idx h0_0 (wr (h0_1+1))>>=fun x4 =>
     some (x4.Text==p1)
    else
     some false
   else
    some false
  else
   some false:Option (Bool))>>=fun o1 =>
 some o1
theorem Qe8:∀ (p1:(List UInt8)) (h0_0:(List Qai)) (h0_1:Int) (h0_2:Bool) (o:Bool),Qb2 p1 h0_0 h0_1 h0_2=some o→CallOK Tryz.prog 145 [.ptr 0 0,.p (sV p1)] ⟨[[.p (.sl false (h0_0.map Qag)),.p (iV h0_1),.p (bV h0_2)]],[]⟩ (Ql5 o) ⟨[[.p (.sl false (h0_0.map Qag)),.p (iV h0_1),.p (bV h0_2)]],[]⟩:=by
 intro p1 h0_0 h0_1 h0_2 o h;unfold Qb2 at h;refine CallOK.ofB mixed tbOk Qsi Tryz.func145 rfl (by kernel_rfl) (Nat.le_of_ble_eq_true rfl) rfl rfl rfl ?_;refine Qal h (fun o1 ho hk=>?_);refine Exists.intro (JP1 _ _ o1 .normal (Qp7 h0_0 h0_1 h0_2)) (And.intro ?_ (Qbb ?_))
 ·have h:=ho;refine And.intro (by decide +kernel) (And.intro rfl ?_);refine Qn1 (fun x2=>(Qdu x2).ren [0] []) h (fun x2 hy=>(Qa0 2 h0_0 h0_1 h0_2 x2 hy).fd rfl rfl [0] rfl rfl) (fun x2 hy h=>?_);refine Qae h (fun hb h=>?_) (fun hb h=>?_)
  ·refine view (Qej _ _) rfl ?_;refine Qae h (fun hb h=>?_) (fun hb h=>?_)
   ·refine Qco (l:=h0_0) (c:=Qag) (c' := Qag) h (fun _=>rfl) (fun _=>rfl) (by decide) (fun x3 hi h=>?_);refine Qae h (fun hb h=>?_) (fun hb h=>?_)
    ·refine Qco (l:=h0_0) (c:=Qag) (c' := Qag) h (fun _=>rfl) (fun _=>rfl) (by decide) (fun x4 hi h=>?_);refine JP1.a h ?_;exact Le.tz 1 0 rfl rfl rfl
    ·refine JP1.a h ?_;exact Le.tz 1 0 rfl rfl rfl
   ·refine bF ?_;refine JP1.a h ?_;exact Le.tz 1 0 rfl rfl rfl
  ·refine bF ?_;refine bF ?_;refine JP1.a h ?_;exact Le.tz 1 0 rfl rfl rfl
 ·have h:=hk;refine Exists.intro _ (And.intro (Le.refl _ _ _) ?_);exact Qa5 (t:=Ql5) (ss:=fun o=>⟨[[.p (.sl false (h0_0.map Qag)),.p (iV h0_1),.p (bV h0_2)]],[]⟩) h ⟨[],rfl,.refl _,.refl _,rfl⟩
def Qaj (p1:Bool) (h0_0:(List Qai)) (h0_1:Int) (h0_2:Bool):Option (Qai×Int×Bool) :=
 ( if(!p1) then
   some true
  else
   some h0_2:Option (Bool))>>=fun o1 =>
 if o1 then
  some ((Qai.mk 0 [] 0 0 0),h0_1,true)
 else
  idx h0_0 (wr ((wr (h0_1+1))-1))>>=fun x2 =>
  some (x2,(wr (h0_1+1)),h0_2)
theorem Qao:∀ (p1:Bool) (h0_0:(List Qai)) (h0_1:Int) (h0_2:Bool) (o:Qai×Int×Bool),Qaj p1 h0_0 h0_1 h0_2=some o→CallOK Tryz.prog 144 [.ptr 0 0,.p (bV p1)] ⟨[[.p (.sl false (h0_0.map Qag)),.p (iV h0_1),.p (bV h0_2)]],[]⟩ (Qiz o) ⟨[[.p (.sl false (h0_0.map Qag)),.p (iV o.2.1),.p (bV o.2.2)]],[]⟩:=by
 intro p1 h0_0 h0_1 h0_2 o h;unfold Qaj at h;refine CallOK.ofB mixed tbOk Qtr Tryz.func144 rfl (by kernel_rfl) (Nat.le_of_ble_eq_true rfl) rfl rfl rfl ?_;refine Qal h (fun o1 ho hk=>?_);refine Exists.intro (JP1 _ _ o1 .normal (Qre h0_0 h0_1 h0_2)) (And.intro ?_ (Qbb ?_))
 ·have h:=ho;refine Qae h (fun hb h=>?_) (fun hb h=>?_)
  ·refine JP1.a h ?_;exact Le.tz 2 0 rfl rfl rfl
  ·refine JP1.a h ?_;exact Le.tz 2 0 rfl rfl rfl
 ·have h:=hk;refine Qae h (fun hb h=>?_) (fun hb h=>?_)
  ·refine Exists.intro _ (And.intro (Le.refl _ _ _) ?_);exact Qa5 (t:=Qiz) (ss:=fun o=>⟨[[.p (.sl false (h0_0.map Qag)),.p (iV o.2.1),.p (bV o.2.2)]],[]⟩) h ⟨[],rfl,.refl _,.refl _,rfl⟩
  ·refine And.intro (by decide +kernel) (And.intro rfl ?_);refine Qco (l:=h0_0) (c:=Qag) (c' := Qag) h (fun _=>rfl) (fun _=>rfl) (by decide) (fun x2 hi h=>?_);refine Exists.intro _ (And.intro (Le.refl _ _ _) ?_);exact Qa5 (t:=Qiz) (ss:=fun o=>⟨[[.p (.sl false (h0_0.map Qag)),.p (iV o.2.1),.p (bV o.2.2)]],[]⟩) h ⟨[],rfl,.refl _,.refl _,rfl⟩
instance Q33:Lean.Order.CCPO ((List Qaa)→(List Qaa)→(List Qaa)→Option ((Int×Bool×Int×(List UInt8)×(List UInt8)×Int×(List Qaa)×(List Qaa)×(List Qaa)))):=inferInstance
instance Q34:Lean.Order.CCPO ((List UInt8)→(List UInt8)→Int→(List Qaa)→(List Qaa)→(List Qaa)→Option ((Int×Bool×Int×(List UInt8)×(List UInt8)×Int×(List Qaa)×(List Qaa)×(List Qaa)))):=inferInstance
def Qcq (h0_0:(List Qai)) (h0_1_:Int) (h0_2_:Bool) (h2_0:Int) (h2_1:(List UInt8)) (h2_2:(List UInt8)) (h2_3:Int) (h2_4:(List Qaa)) (h2_5:(List Qaa)) (h2_6:(List Qaa)):Option ((Int×Bool×Int×(List UInt8)×(List UInt8)×Int×(List Qaa)×(List Qaa)×(List Qaa))) :=
 Qaq 7 h0_0 h0_1_ h0_2_>>=fun x3 =>
 if x3 then
  Qaj true h0_0 h0_1_ h0_2_>>=fun x4 =>
  Qaq 4 h0_0 x4.2.1 x4.2.2>>=fun x5 =>
  Qaj x5 h0_0 x4.2.1 x4.2.2>>=fun x6 =>
  Qcq h0_0 x6.2.1 x6.2.2 5 x6.1.Text [] 0 [(Qaa.mk h2_0 h2_1 h2_2 h2_3 h2_4 h2_5 h2_6)] [] []
 else
  some (h0_1_,h0_2_,h2_0,h2_1,h2_2,h2_3,h2_4,h2_5,h2_6)
 partial_fixpoint
theorem Q35:∀ (h0_0:(List Qai)),(∀ (h0_1_:Int) (h0_2_:Bool) (h2_0:Int) (h2_1:(List UInt8)) (h2_2:(List UInt8)) (h2_3:Int) (h2_4:(List Qaa)) (h2_5:(List Qaa)) (h2_6:(List Qaa)) (o2:(Int×Bool×Int×(List UInt8)×(List UInt8)×Int×(List Qaa)×(List Qaa)×(List Qaa))),Qcq h0_0 h0_1_ h0_2_ h2_0 h2_1 h2_2 h2_3 h2_4 h2_5 h2_6=some o2→TL (1,0) Tryz.prog 19 Qrb (JP1 (1,0) 19 o2 (.exit 0) (Qjr h0_0)) (Qfv h0_0 h0_1_ h0_2_ h2_0 h2_1 h2_2 h2_3 h2_4 h2_5 h2_6)):=by
 intro h0_0;refine Qcq.partial_correctness h0_0 _ ?_;intro Qcq' iQcq h0_1_ h0_2_ h2_0 h2_1 h2_2 h2_3 h2_4 h2_5 h2_6 o2 h;refine TL.round (Qas mixed tbOk (lv:=Ql6) _ _ _ ?_);refine Qan _ _ h (fun x3 hy=>((Qa0 7 h0_0 h0_1_ h0_2_ x3 hy).fr [0] [] rfl rfl rfl)) (fun x3 hy h=>?_);refine Qae h (fun hb h=>?_) (fun hb h=>?_)
 ·refine Qan _ _ h (fun x4 hy=>((Qao true h0_0 h0_1_ h0_2_ x4 hy).fr [0] [] rfl rfl rfl)) (fun x4 hy h=>?_);refine And.intro (by decide +kernel) (And.intro rfl ?_);refine Qn1 (fun x5=>(Qdu x5).ren [0] []) h (fun x5 hy=>(Qa0 4 h0_0 x4.2.1 x4.2.2 x5 hy).fd rfl rfl [0] rfl rfl) (fun x5 hy h=>?_);refine Qqv _ _ h (fun x6 hy=>((Qao x5 h0_0 x4.2.1 x4.2.2 x6 hy).fg [0] [] rfl rfl rfl (Nat.le_of_ble_eq_true rfl))) (fun x6 hy h=>?_);refine TL.le (τ := Qfv h0_0 x6.2.1 x6.2.2 5 x6.1.Text [] 0 [(Qaa.mk h2_0 h2_1 h2_2 h2_3 h2_4 h2_5 h2_6)] [] []) ?_ ((iQcq x6.2.1 x6.2.2 5 x6.1.Text [] 0 [(Qaa.mk h2_0 h2_1 h2_2 h2_3 h2_4 h2_5 h2_6)] [] [] _ h));exact Le.tow 3 0 rfl (.cons rfl (.refl _) (.cons rfl (.refl _) (.cons rfl (.refl _) (.nil)))) (.cons (.refl _) (.cons (.refl _) (.cons (.cons (.refl _) (.cons (.refl _) (.cons (.refl _) (.cons (.refl _) (.cons (.p (.no (.cons (.ceq (Qap _) (.refl _)) (.nil)))) (.cons (.p (.not)) (.cons (.p (.not)) (.nil)))))))) (.nil)))) rfl
 ·exact JP1.a h (Le.tz 3 0 rfl rfl rfl)
def Qc9 (h0_0:(List Qai)) (h0_1:Int) (h0_2:Bool):Option ((List UInt8)×Int×Bool) :=
 ( Qaq 4 h0_0 h0_1 h0_2>>=fun x2 =>
  if x2 then
   idx h0_0 h0_1>>=fun x3 =>
   Qhp x3.Text>>=fun x4 =>
   Qaj x4 h0_0 h0_1 h0_2>>=fun x5 =>
   some (x5.1.Text,x5.2.1,x5.2.2)
  else
   Qaj false h0_0 h0_1 h0_2>>=fun x6 =>
   some (x6.1.Text,x6.2.1,x6.2.2):Option (((List UInt8)×Int×Bool)))>>=fun o1 =>
 some (o1.1,o1.2.1,o1.2.2)
theorem Qhx:∀ (h0_0:(List Qai)) (h0_1:Int) (h0_2:Bool) (o:(List UInt8)×Int×Bool),Qc9 h0_0 h0_1 h0_2=some o→CallOK Tryz.prog 165 [.ptr 0 0] ⟨[[.p (.sl false (h0_0.map Qag)),.p (iV h0_1),.p (bV h0_2)]],[]⟩ (Qnj o) ⟨[[.p (.sl false (h0_0.map Qag)),.p (iV o.2.1),.p (bV o.2.2)]],[]⟩:=by
 intro h0_0 h0_1 h0_2 o h;unfold Qc9 at h;refine CallOK.ofB mixed tbOk Qtq Tryz.func165 rfl (by kernel_rfl) (Nat.le_of_ble_eq_true rfl) rfl rfl rfl ?_;refine Qal h (fun o1 ho hk=>?_);refine Exists.intro (JP1 _ _ o1 .normal (Qrd h0_0)) (And.intro ?_ (Qbb ?_))
 ·have h:=ho;refine And.intro (by decide +kernel) (And.intro rfl ?_);refine Qn1 (fun x2=>(Qdu x2).ren [0] []) h (fun x2 hy=>(Qa0 4 h0_0 h0_1 h0_2 x2 hy).fd rfl rfl [0] rfl rfl) (fun x2 hy h=>?_);refine Qae h (fun hb h=>?_) (fun hb h=>?_)
  ·refine Qco (l:=h0_0) (c:=Qag) (c' := Qag) h (fun _=>rfl) (fun _=>rfl) (by decide) (fun x3 hi h=>?_);refine Qen [sV x3.Text] Qqx h (fun x4 hy=>(Q8a x3.Text x4 hy)) (fun x4 hy h=>?_);refine Qqv _ _ h (fun x5 hy=>((Qao x4 h0_0 h0_1 h0_2 x5 hy).fg [0] [] rfl rfl rfl (Nat.le_of_ble_eq_true rfl))) (fun x5 hy h=>?_);refine JP1.a h ?_;exact Le.tz 1 0 rfl rfl rfl
  ·refine Qqv _ _ h (fun x6 hy=>((Qao false h0_0 h0_1 h0_2 x6 hy).fg [0] [] rfl rfl rfl (Nat.le_of_ble_eq_true rfl))) (fun x6 hy h=>?_);refine JP1.a h ?_;exact Le.tz 1 0 rfl rfl rfl
 ·have h:=hk;refine Exists.intro _ (And.intro (Le.refl _ _ _) ?_);exact Qa5 (t:=Qnj) (ss:=fun o=>⟨[[.p (.sl false (h0_0.map Qag)),.p (iV o.2.1),.p (bV o.2.2)]],[]⟩) h ⟨[],rfl,.refl _,.refl _,rfl⟩
def Qa1 (p1:(List UInt8)) (h0_0:(List Qai)) (h0_1:Int) (h0_2:Bool):Option (Bool) :=
 ( Qaq 4 h0_0 h0_1 h0_2>>=fun x2 =>
  if x2 then
   idx h0_0 h0_1>>=fun x3 =>
   some (x3.Text==p1)
  else
   some false:Option (Bool))>>=fun o1 =>
 some o1
theorem Qbi:∀ (p1:(List UInt8)) (h0_0:(List Qai)) (h0_1:Int) (h0_2:Bool) (o:Bool),Qa1 p1 h0_0 h0_1 h0_2=some o→CallOK Tryz.prog 161 [.ptr 0 0,.p (sV p1)] ⟨[[.p (.sl false (h0_0.map Qag)),.p (iV h0_1),.p (bV h0_2)]],[]⟩ (Qnk o) ⟨[[.p (.sl false (h0_0.map Qag)),.p (iV h0_1),.p (bV h0_2)]],[]⟩:=by
 intro p1 h0_0 h0_1 h0_2 o h;unfold Qa1 at h;refine CallOK.ofB mixed tbOk Qts Tryz.func161 rfl (by kernel_rfl) (Nat.le_of_ble_eq_true rfl) rfl rfl rfl ?_;refine Qal h (fun o1 ho hk=>?_);refine Exists.intro (JP1 _ _ o1 .normal (Qrf h0_0 h0_1 h0_2)) (And.intro ?_ (Qbb ?_))
 ·have h:=ho;refine And.intro (by decide +kernel) (And.intro rfl ?_);refine Qn1 (fun x2=>(Qdu x2).ren [0] []) h (fun x2 hy=>(Qa0 4 h0_0 h0_1 h0_2 x2 hy).fd rfl rfl [0] rfl rfl) (fun x2 hy h=>?_);refine Qae h (fun hb h=>?_) (fun hb h=>?_)
  ·refine Qco (l:=h0_0) (c:=Qag) (c' := Qag) h (fun _=>rfl) (fun _=>rfl) (by decide) (fun x3 hi h=>?_);refine JP1.a h ?_;exact Le.tz 1 0 rfl rfl rfl
  ·refine JP1.a h ?_;exact Le.tz 1 0 rfl rfl rfl
 ·have h:=hk;refine Exists.intro _ (And.intro (Le.refl _ _ _) ?_);exact Qa5 (t:=Qnk) (ss:=fun o=>⟨[[.p (.sl false (h0_0.map Qag)),.p (iV h0_1),.p (bV h0_2)]],[]⟩) h ⟨[],rfl,.refl _,.refl _,rfl⟩
mutual
def Qcc (h0_0:(List Qai)) (h0_1:Int) (h0_2:Bool):Option (Qaa×Int×Bool) :=
 Qgu h0_0 h0_1 h0_2>>=fun x1 =>
 (Qcq h0_0 x1.2.1 x1.2.2 x1.1.Kind x1.1.Name x1.1.Text x1.1.N x1.1.L x1.1.Then x1.1.Else)>>=fun o2 =>
 some ((Qaa.mk o2.2.2.1 o2.2.2.2.1 o2.2.2.2.2.1 o2.2.2.2.2.2.1 o2.2.2.2.2.2.2.1 o2.2.2.2.2.2.2.2.1 o2.2.2.2.2.2.2.2.2),o2.1,o2.2.1)
 partial_fixpoint
def Qgu (h0_0:(List Qai)) (h0_1:Int) (h0_2:Bool):Option (Qaa×Int×Bool) :=
 Qaq 5 h0_0 h0_1 h0_2>>=fun x1 =>
 if x1 then
  Qaj true h0_0 h0_1 h0_2>>=fun x2 =>
  some ((Qaa.mk 1 [] x2.1.Text 0 [] [] []),x2.2.1,x2.2.2)
 else
  Qaq 6 h0_0 h0_1 h0_2>>=fun x3 =>
  if x3 then
   Qaj true h0_0 h0_1 h0_2>>=fun x4 =>
   some ((Qaa.mk 2 [] [] x4.1.N [] [] []),x4.2.1,x4.2.2)
  else
   Qa1 [116,114,117,101] h0_0 h0_1 h0_2>>=fun x5 =>
   if x5 then
    Qaj true h0_0 h0_1 h0_2>>=fun x6 =>
    some ((Qaa.mk 3 [] [] 1 [] [] []),x6.2.1,x6.2.2)
   else
    Qa1 [102,97,108,115,101] h0_0 h0_1 h0_2>>=fun x7 =>
    if x7 then
     Qaj true h0_0 h0_1 h0_2>>=fun x8 =>
     some ((Qaa.mk 3 [] [] 0 [] [] []),x8.2.1,x8.2.2)
    else
     Qa1 [115,101,99,114,101,116] h0_0 h0_1 h0_2>>=fun x9 =>
     if x9 then
      Qaj true h0_0 h0_1 h0_2>>=fun x10 =>
      Qaq 8 h0_0 x10.2.1 x10.2.2>>=fun x11 =>
      Qaj x11 h0_0 x10.2.1 x10.2.2>>=fun x12 =>
      ( Qaq 5 h0_0 x12.2.1 x12.2.2>>=fun x14 =>
       if x14 then
        idx h0_0 x12.2.1>>=fun x15 =>
        Qje x15.Text>>=fun x16 =>
        Qaj x16 h0_0 x12.2.1 x12.2.2>>=fun x17 =>
        some (x17.2.1,x17.2.2,x17.1.Kind,x17.1.Text,x17.1.N,x17.1.From,x17.1.To)
       else
        Qaj false h0_0 x12.2.1 x12.2.2>>=fun x18 =>
        some (x18.2.1,x18.2.2,x18.1.Kind,x18.1.Text,x18.1.N,x18.1.From,x18.1.To):Option ((Int×Bool×Int×(List UInt8)×Int×Int×Int)))>>=fun o13 =>
      Qaq 9 h0_0 o13.1 o13.2.1>>=fun x19 =>
      Qaj x19 h0_0 o13.1 o13.2.1>>=fun x20 =>
      some ((Qaa.mk 7 o13.2.2.2.1 [] 0 [] [] []),x20.2.1,x20.2.2)
     else
      Qc9 h0_0 h0_1 h0_2>>=fun x21 =>
      Qaq 8 h0_0 x21.2.1 x21.2.2>>=fun x22 =>
      if(!x22) then
       some ((Qaa.mk 4 x21.1 [] 0 [] [] []),x21.2.1,x21.2.2)
      else
       Qaj true h0_0 x21.2.1 x21.2.2>>=fun x23 =>
       Qaq 9 h0_0 x23.2.1 x23.2.2>>=fun x24 =>
       if x24 then
        Qaj true h0_0 x23.2.1 x23.2.2>>=fun x25 =>
        some ((Qaa.mk 6 x21.1 [] 0 [] [] []),x25.2.1,x25.2.2)
       else
        (Qc3 h0_0 x21 0 x23.2.1 x23.2.2 [])>>=fun o26 =>
        Qaq 9 h0_0 o26.1 o26.2.1>>=fun x33 =>
        Qaj x33 h0_0 o26.1 o26.2.1>>=fun x34 =>
        some ((Qaa.mk 6 x21.1 [] 0 o26.2.2 [] []),x34.2.1,x34.2.2)
 partial_fixpoint
def Qc3 (h0_0:(List Qai)) (x21:(List UInt8)×Int×Bool) (v5:Int) (h0_1_:Int) (h0_2_:Bool) (h2_4:(List Qaa)):Option ((Int×Bool×(List Qaa))) :=
 ( if(decide (v5<3)) then
   some (!h0_2_)
  else
   some false:Option (Bool))>>=fun o27 =>
 if o27 then
  Qcc h0_0 h0_1_ h0_2_>>=fun x28 =>
  appL 120 h2_4 [x28.1]>>=fun x29 =>
  Qaq 9 h0_0 x28.2.1 x28.2.2>>=fun x30 =>
  if x30 then
   some (x28.2.1,x28.2.2,x29)
  else
   if(decide (v5<2)) then
    Qaq 10 h0_0 x28.2.1 x28.2.2>>=fun x31 =>
    Qaj x31 h0_0 x28.2.1 x28.2.2>>=fun x32 =>
    Qc3 h0_0 x21 (wr (v5+1)) x32.2.1 x32.2.2 x29
   else
    Qc3 h0_0 x21 (wr (v5+1)) x28.2.1 x28.2.2 x29
 else
  some (h0_1_,h0_2_,h2_4)
 partial_fixpoint
end
theorem Qsk:∀ (h0_0:(List Qai)),(∀ (h0_1:Int) (h0_2:Bool) (o:Qaa×Int×Bool),Qcc h0_0 h0_1 h0_2=some o→CallOK Tryz.prog 162 [.ptr 0 0] ⟨[[.p (.sl false (h0_0.map Qag)),.p (iV h0_1),.p (bV h0_2)]],[]⟩ (Qiy o) ⟨[[.p (.sl false (h0_0.map Qag)),.p (iV o.2.1),.p (bV o.2.2)]],[]⟩)∧(∀ (h0_1:Int) (h0_2:Bool) (o:Qaa×Int×Bool),Qgu h0_0 h0_1 h0_2=some o→CallOK Tryz.prog 173 [.ptr 0 0] ⟨[[.p (.sl false (h0_0.map Qag)),.p (iV h0_1),.p (bV h0_2)]],[]⟩ (Qbr o) ⟨[[.p (.sl false (h0_0.map Qag)),.p (iV o.2.1),.p (bV o.2.2)]],[]⟩)∧(∀ (x21:(List UInt8)×Int×Bool) (v5:Int) (h0_1_:Int) (h0_2_:Bool) (h2_4:(List Qaa)) (o26:(Int×Bool×(List Qaa))),Qc3 h0_0 x21 v5 h0_1_ h0_2_ h2_4=some o26→TL (1,0) Tryz.prog 107 Qqe (JP1 (1,0) 107 o26 (.exit 0) (Qif h0_0 x21)) (Qd1 h0_0 x21 v5 h0_1_ h0_2_ h2_4)):=by
 intro h0_0;refine Qcc.mutual_partial_correctness h0_0 _ _ _ ?_ ?_ ?_
 ·intro Qgu' iQgu h0_1 h0_2 o h;refine CallOK.ofB mixed tbOk Ql6 Tryz.func162 rfl (by kernel_rfl) (Nat.le_of_ble_eq_true rfl) rfl rfl rfl ?_;refine Qan _ _ h (fun x1 hy=>((iQgu h0_1 h0_2 x1 hy).fr [0] [] rfl rfl rfl)) (fun x1 hy h=>?_);refine Qal h (fun o2 ho hk=>?_);refine Exists.intro (JP1 _ _ o2 (.exit 0) (Qjr h0_0)) (And.intro (Qk2 (τ := Qfv h0_0 x1.2.1 x1.2.2 x1.1.Kind x1.1.Name x1.1.Text x1.1.N x1.1.L x1.1.Then x1.1.Else) ?_ (TL.loop (Q35 h0_0 x1.2.1 x1.2.2 x1.1.Kind x1.1.Name x1.1.Text x1.1.N x1.1.L x1.1.Then x1.1.Else o2 ho))) (Qbb ?_))
  ·exact Le.tz 3 0 rfl rfl rfl
  have h:=hk;refine Exists.intro _ (And.intro (Le.refl _ _ _) ?_);exact Qa5 (t:=Qiy) (ss:=fun o=>⟨[[.p (.sl false (h0_0.map Qag)),.p (iV o.2.1),.p (bV o.2.2)]],[]⟩) h ⟨[],rfl,.refl _,.refl _,rfl⟩
 ·intro Qc3' iQc3 h0_1 h0_2 o h;refine CallOK.ofB mixed tbOk Qlf Tryz.func173 rfl (by kernel_rfl) (Nat.le_of_ble_eq_true rfl) rfl rfl rfl ?_;refine Qan _ _ h (fun x1 hy=>((Qa0 5 h0_0 h0_1 h0_2 x1 hy).fr [0] [] rfl rfl rfl)) (fun x1 hy h=>?_);refine Qae h (fun hb h=>?_) (fun hb h=>?_)
  ·refine Qan _ _ h (fun x2 hy=>((Qao true h0_0 h0_1 h0_2 x2 hy).fr [0] [] rfl rfl rfl)) (fun x2 hy h=>?_);refine Exists.intro _ (And.intro (Le.refl _ _ _) ?_);exact Qa5 (t:=Qbr) (ss:=fun o=>⟨[[.p (.sl false (h0_0.map Qag)),.p (iV o.2.1),.p (bV o.2.2)]],[]⟩) h ⟨[],rfl,.p (.agg' (.cons (.refl _) (.cons (.refl _) (.cons (.refl _) (.cons (.refl _) (.cons (.not) (.cons (.not) (.cons (.not) (.nil))))))))),.refl _,rfl⟩
  ·refine Qan _ _ h (fun x3 hy=>((Qa0 6 h0_0 h0_1 h0_2 x3 hy).fr [0] [] rfl rfl rfl)) (fun x3 hy h=>?_);refine Qae h (fun hb h=>?_) (fun hb h=>?_)
   ·refine Qan _ _ h (fun x4 hy=>((Qao true h0_0 h0_1 h0_2 x4 hy).fr [0] [] rfl rfl rfl)) (fun x4 hy h=>?_);refine Exists.intro _ (And.intro (Le.refl _ _ _) ?_);exact Qa5 (t:=Qbr) (ss:=fun o=>⟨[[.p (.sl false (h0_0.map Qag)),.p (iV o.2.1),.p (bV o.2.2)]],[]⟩) h ⟨[],rfl,.p (.agg' (.cons (.refl _) (.cons (.refl _) (.cons (.refl _) (.cons (.refl _) (.cons (.not) (.cons (.not) (.cons (.not) (.nil))))))))),.refl _,rfl⟩
   ·refine Qan _ _ h (fun x5 hy=>((Qbi [116,114,117,101] h0_0 h0_1 h0_2 x5 hy).fr [0] [] rfl rfl rfl)) (fun x5 hy h=>?_);refine Qae h (fun hb h=>?_) (fun hb h=>?_)
    ·refine Qan _ _ h (fun x6 hy=>((Qao true h0_0 h0_1 h0_2 x6 hy).fr [0] [] rfl rfl rfl)) (fun x6 hy h=>?_);refine Exists.intro _ (And.intro (Le.refl _ _ _) ?_);exact Qa5 (t:=Qbr) (ss:=fun o=>⟨[[.p (.sl false (h0_0.map Qag)),.p (iV o.2.1),.p (bV o.2.2)]],[]⟩) h ⟨[],rfl,.p (.agg' (.cons (.refl _) (.cons (.refl _) (.cons (.refl _) (.cons (.refl _) (.cons (.not) (.cons (.not) (.cons (.not) (.nil))))))))),.refl _,rfl⟩
    ·refine Qan _ _ h (fun x7 hy=>((Qbi [102,97,108,115,101] h0_0 h0_1 h0_2 x7 hy).fr [0] [] rfl rfl rfl)) (fun x7 hy h=>?_);refine Qae h (fun hb h=>?_) (fun hb h=>?_)
     ·refine Qan _ _ h (fun x8 hy=>((Qao true h0_0 h0_1 h0_2 x8 hy).fr [0] [] rfl rfl rfl)) (fun x8 hy h=>?_);refine Exists.intro _ (And.intro (Le.refl _ _ _) ?_);exact Qa5 (t:=Qbr) (ss:=fun o=>⟨[[.p (.sl false (h0_0.map Qag)),.p (iV o.2.1),.p (bV o.2.2)]],[]⟩) h ⟨[],rfl,.p (.agg' (.cons (.refl _) (.cons (.refl _) (.cons (.refl _) (.cons (.refl _) (.cons (.not) (.cons (.not) (.cons (.not) (.nil))))))))),.refl _,rfl⟩
     ·refine Qan _ _ h (fun x9 hy=>((Qbi [115,101,99,114,101,116] h0_0 h0_1 h0_2 x9 hy).fr [0] [] rfl rfl rfl)) (fun x9 hy h=>?_);refine Qae h (fun hb h=>?_) (fun hb h=>?_)
      ·refine Qan _ _ h (fun x10 hy=>((Qao true h0_0 h0_1 h0_2 x10 hy).fr [0] [] rfl rfl rfl)) (fun x10 hy h=>?_);refine Qan _ _ h (fun x11 hy=>((Qa0 8 h0_0 x10.2.1 x10.2.2 x11 hy).fr [0] [] rfl rfl rfl)) (fun x11 hy h=>?_);refine Qan _ _ h (fun x12 hy=>((Qao x11 h0_0 x10.2.1 x10.2.2 x12 hy).fr [0] [] rfl rfl rfl)) (fun x12 hy h=>?_);refine Qal h (fun o13 ho hk=>?_);refine Exists.intro (JP1 _ _ o13 .normal (Qqc h0_0)) (And.intro ?_ (Qbb ?_))
       ·have h:=ho;refine And.intro (by decide +kernel) (And.intro rfl ?_);refine Qn1 (fun x14=>(Qdu x14).ren [0] []) h (fun x14 hy=>(Qa0 5 h0_0 x12.2.1 x12.2.2 x14 hy).fd rfl rfl [0] rfl rfl) (fun x14 hy h=>?_);refine Qae h (fun hb h=>?_) (fun hb h=>?_)
        ·refine Qco (l:=h0_0) (c:=Qag) (c' := Qag) h (fun _=>rfl) (fun _=>rfl) (by decide) (fun x15 hi h=>?_);refine Qen [sV x15.Text] Qin h (fun x16 hy=>(Qsb x15.Text x16 hy)) (fun x16 hy h=>?_);refine Qqv _ _ h (fun x17 hy=>((Qao x16 h0_0 x12.2.1 x12.2.2 x17 hy).fg [0] [] rfl rfl rfl (Nat.le_of_ble_eq_true rfl))) (fun x17 hy h=>?_);refine JP1.a h ?_;exact Le.tz 3 0 rfl rfl rfl
        ·refine Qqv _ _ h (fun x18 hy=>((Qao false h0_0 x12.2.1 x12.2.2 x18 hy).fg [0] [] rfl rfl rfl (Nat.le_of_ble_eq_true rfl))) (fun x18 hy h=>?_);refine JP1.a h ?_;exact Le.tz 3 0 rfl rfl rfl
       ·have h:=hk;refine Qan _ _ h (fun x19 hy=>((Qa0 9 h0_0 o13.1 o13.2.1 x19 hy).fr [0] [] rfl rfl rfl)) (fun x19 hy h=>?_);refine Qan _ _ h (fun x20 hy=>((Qao x19 h0_0 o13.1 o13.2.1 x20 hy).fr [0] [] rfl rfl rfl)) (fun x20 hy h=>?_);refine Exists.intro _ (And.intro (Le.refl _ _ _) ?_);exact Qa5 (t:=Qbr) (ss:=fun o=>⟨[[.p (.sl false (h0_0.map Qag)),.p (iV o.2.1),.p (bV o.2.2)]],[]⟩) h ⟨[],rfl,.p (.agg' (.cons (.refl _) (.cons (.refl _) (.cons (.refl _) (.cons (.refl _) (.cons (.not) (.cons (.not) (.cons (.not) (.nil))))))))),.refl _,rfl⟩
      ·refine Qan _ _ h (fun x21 hy=>((Qhx h0_0 h0_1 h0_2 x21 hy).fr [0] [] rfl rfl rfl)) (fun x21 hy h=>?_);refine Qan _ _ h (fun x22 hy=>((Qa0 8 h0_0 x21.2.1 x21.2.2 x22 hy).fr [0] [] rfl rfl rfl)) (fun x22 hy h=>?_);refine Qae h (fun hb h=>?_) (fun hb h=>?_)
       ·refine Exists.intro _ (And.intro (Le.refl _ _ _) ?_);exact Qa5 (t:=Qbr) (ss:=fun o=>⟨[[.p (.sl false (h0_0.map Qag)),.p (iV o.2.1),.p (bV o.2.2)]],[]⟩) h ⟨[],rfl,.p (.agg' (.cons (.refl _) (.cons (.refl _) (.cons (.refl _) (.cons (.refl _) (.cons (.not) (.cons (.not) (.cons (.not) (.nil))))))))),.refl _,rfl⟩
       ·refine Qan _ _ h (fun x23 hy=>((Qao true h0_0 x21.2.1 x21.2.2 x23 hy).fr [0] [] rfl rfl rfl)) (fun x23 hy h=>?_);refine Qan _ _ h (fun x24 hy=>((Qa0 9 h0_0 x23.2.1 x23.2.2 x24 hy).fr [0] [] rfl rfl rfl)) (fun x24 hy h=>?_);refine Qae h (fun hb h=>?_) (fun hb h=>?_)
        ·refine Qan _ _ h (fun x25 hy=>((Qao true h0_0 x23.2.1 x23.2.2 x25 hy).fr [0] [] rfl rfl rfl)) (fun x25 hy h=>?_);refine Exists.intro _ (And.intro (Le.refl _ _ _) ?_);exact Qa5 (t:=Qbr) (ss:=fun o=>⟨[[.p (.sl false (h0_0.map Qag)),.p (iV o.2.1),.p (bV o.2.2)]],[]⟩) h ⟨[],rfl,.p (.agg' (.cons (.refl _) (.cons (.refl _) (.cons (.refl _) (.cons (.refl _) (.cons (.not) (.cons (.not) (.cons (.not) (.nil))))))))),.refl _,rfl⟩
        ·refine Qal h (fun o26 ho hk=>?_);refine Exists.intro (JP1 _ _ o26 (.exit 0) (Qif h0_0 x21)) (And.intro (Qk2 (τ := Qd1 h0_0 x21 0 x23.2.1 x23.2.2 []) ?_ (TL.loop (iQc3 x21 0 x23.2.1 x23.2.2 [] o26 ho))) (Qbb ?_))
         ·exact(Le.ownH 2 4 38 7 rfl rfl Qac0).trans (Le.tz 3 1 rfl rfl rfl)
         have h:=hk;refine Qan _ _ h (fun x33 hy=>((Qa0 9 h0_0 o26.1 o26.2.1 x33 hy).fr [0] [] rfl rfl rfl)) (fun x33 hy h=>?_);refine Qan _ _ h (fun x34 hy=>((Qao x33 h0_0 o26.1 o26.2.1 x34 hy).fr [0] [] rfl rfl rfl)) (fun x34 hy h=>?_);refine Exists.intro _ (And.intro (Le.refl _ _ _) ?_);exact Qa5 (t:=Qbr) (ss:=fun o=>⟨[[.p (.sl false (h0_0.map Qag)),.p (iV o.2.1),.p (bV o.2.2)]],[]⟩) h ⟨[],rfl,.p (.agg' (.cons (.refl _) (.cons (.refl _) (.cons (.refl _) (.cons (.refl _) (.cons (.refl _) (.cons (.not) (.cons (.not) (.nil))))))))),.refl _,rfl⟩
 ·intro Qcc' Qc3' iQcc iQc3 x21 v5 h0_1_ h0_2_ h2_4 o26 h;refine TL.round (Qas mixed tbOk (lv:=Qlf) _ _ _ ?_);refine Qal h (fun o27 ho hk=>?_);refine Exists.intro (JP1 _ _ o27 .normal (Qqd h0_0 x21 v5 h0_1_ h0_2_ h2_4)) (And.intro ?_ (Qbb ?_))
  ·have h:=ho;refine Qae h (fun hb h=>?_) (fun hb h=>?_)
   ·refine JP1.a h ?_;exact Le.tz 3 1 rfl rfl rfl
   ·refine JP1.a h ?_;exact Le.tz 3 1 rfl rfl rfl
  ·have h:=hk;refine Qae h (fun hb h=>?_) (fun hb h=>?_)
   ·refine And.intro (by decide +kernel) (And.intro rfl ?_);refine Qqv _ _ h (fun x28 hy=>((iQcc h0_1_ h0_2_ x28 hy).fg [0] [] rfl rfl rfl (Nat.le_of_ble_eq_true rfl))) (fun x28 hy h=>?_);refine Qr3 (a:=h2_4) (b:=[x28.1]) (c:=Qab) h (.cons (.ceq (Qap _) (.refl _)) (.nil)) (fun x=>by rw[Qap]; rfl) rfl (fun x29 hi h=>?_);refine Qan _ _ h (fun x30 hy=>((Qa0 9 h0_0 x28.2.1 x28.2.2 x30 hy).fr [0] [] rfl rfl rfl)) (fun x30 hy h=>?_);refine Qae h (fun hb h=>?_) (fun hb h=>?_)
    ·exact JP1.a h (Le.tz 3 1 rfl rfl rfl)
    ·refine Qae h (fun hb h=>?_) (fun hb h=>?_)
     ·refine Qan _ _ h (fun x31 hy=>((Qa0 10 h0_0 x28.2.1 x28.2.2 x31 hy).fr [0] [] rfl rfl rfl)) (fun x31 hy h=>?_);refine Qan _ _ h (fun x32 hy=>((Qao x31 h0_0 x28.2.1 x28.2.2 x32 hy).fr [0] [] rfl rfl rfl)) (fun x32 hy h=>?_);refine TL.le (τ := Qd1 h0_0 x21 (wr (v5+1)) x32.2.1 x32.2.2 x29) ?_ ((iQc3 x21 (wr (v5+1)) x32.2.1 x32.2.2 x29 _ h));exact Le.tz 3 1 rfl rfl rfl
     ·refine TL.le (τ := Qd1 h0_0 x21 (wr (v5+1)) x28.2.1 x28.2.2 x29) ?_ ((iQc3 x21 (wr (v5+1)) x28.2.1 x28.2.2 x29 _ h));exact Le.tz 3 1 rfl rfl rfl
   ·exact JP1.a h (Le.tz 3 1 rfl rfl rfl)
theorem Qhy:∀ (h0_0:(List Qai)) (h0_1:Int) (h0_2:Bool) (o:Qaa×Int×Bool),Qcc h0_0 h0_1 h0_2=some o→CallOK Tryz.prog 162 [.ptr 0 0] ⟨[[.p (.sl false (h0_0.map Qag)),.p (iV h0_1),.p (bV h0_2)]],[]⟩ (Qiy o) ⟨[[.p (.sl false (h0_0.map Qag)),.p (iV o.2.1),.p (bV o.2.2)]],[]⟩:=fun h0_0 h0_1 h0_2=>(Qsk h0_0).1 h0_1 h0_2
def Qce (h0_0:(List Qai)) (h0_1:Int) (h0_2:Bool):Option (Int×Bool) :=
 Qaq 3 h0_0 h0_1 h0_2>>=fun x1 =>
 Qaj x1 h0_0 h0_1 h0_2>>=fun x2 =>
 some (x2.2.1,x2.2.2)
theorem Qe9:∀ (h0_0:(List Qai)) (h0_1:Int) (h0_2:Bool) (o:Int×Bool),Qce h0_0 h0_1 h0_2=some o→CallOK Tryz.prog 163 [.ptr 0 0] ⟨[[.p (.sl false (h0_0.map Qag)),.p (iV h0_1),.p (bV h0_2)]],[]⟩ (Ql7 o) ⟨[[.p (.sl false (h0_0.map Qag)),.p (iV o.1),.p (bV o.2)]],[]⟩:=by
 intro h0_0 h0_1 h0_2 o h;unfold Qce at h;refine CallOK.ofB mixed tbOk Qsj Tryz.func163 rfl (by kernel_rfl) (Nat.le_of_ble_eq_true rfl) rfl rfl rfl ?_;refine Qan _ _ h (fun x1 hy=>((Qa0 3 h0_0 h0_1 h0_2 x1 hy).fr [0] [] rfl rfl rfl)) (fun x1 hy h=>?_);refine Qan _ _ h (fun x2 hy=>((Qao x1 h0_0 h0_1 h0_2 x2 hy).fr [0] [] rfl rfl rfl)) (fun x2 hy h=>?_);refine Exists.intro _ (And.intro (Le.refl _ _ _) ?_);exact Qa5 (t:=Ql7) (ss:=fun o=>⟨[[.p (.sl false (h0_0.map Qag)),.p (iV o.1),.p (bV o.2)]],[]⟩) h ⟨[],rfl,.refl _,.refl _,rfl⟩
def Qdm (p1:(List UInt8)) (h0_0:(List Qai)) (h0_1:Int) (h0_2:Bool):Option (Int×Bool) :=
 Qaq 2 h0_0 h0_1 h0_2>>=fun x1 =>
 Qaj x1 h0_0 h0_1 h0_2>>=fun x2 =>
 Qa1 p1 h0_0 x2.2.1 x2.2.2>>=fun x3 =>
 Qaj x3 h0_0 x2.2.1 x2.2.2>>=fun x4 =>
 Qce h0_0 x4.2.1 x4.2.2>>=fun x5 =>
 some (x5.1,x5.2)
theorem Qi7:∀ (p1:(List UInt8)) (h0_0:(List Qai)) (h0_1:Int) (h0_2:Bool) (o:Int×Bool),Qdm p1 h0_0 h0_1 h0_2=some o→CallOK Tryz.prog 164 [.ptr 0 0,.p (sV p1)] ⟨[[.p (.sl false (h0_0.map Qag)),.p (iV h0_1),.p (bV h0_2)]],[]⟩ (Qo4 o) ⟨[[.p (.sl false (h0_0.map Qag)),.p (iV o.1),.p (bV o.2)]],[]⟩:=by
 intro p1 h0_0 h0_1 h0_2 o h;unfold Qdm at h;refine CallOK.ofB mixed tbOk Qus Tryz.func164 rfl (by kernel_rfl) (Nat.le_of_ble_eq_true rfl) rfl rfl rfl ?_;refine Qan _ _ h (fun x1 hy=>((Qa0 2 h0_0 h0_1 h0_2 x1 hy).fr [0] [] rfl rfl rfl)) (fun x1 hy h=>?_);refine Qan _ _ h (fun x2 hy=>((Qao x1 h0_0 h0_1 h0_2 x2 hy).fr [0] [] rfl rfl rfl)) (fun x2 hy h=>?_);refine Qan _ _ h (fun x3 hy=>((Qbi p1 h0_0 x2.2.1 x2.2.2 x3 hy).fr [0] [] rfl rfl rfl)) (fun x3 hy h=>?_);refine Qan _ _ h (fun x4 hy=>((Qao x3 h0_0 x2.2.1 x2.2.2 x4 hy).fr [0] [] rfl rfl rfl)) (fun x4 hy h=>?_);refine Qan _ _ h (fun x5 hy=>((Qe9 h0_0 x4.2.1 x4.2.2 x5 hy).fr [0] [] rfl rfl rfl)) (fun x5 hy h=>?_);refine Exists.intro _ (And.intro (Le.refl _ _ _) ?_);exact Qa5 (t:=Qo4) (ss:=fun o=>⟨[[.p (.sl false (h0_0.map Qag)),.p (iV o.1),.p (bV o.2)]],[]⟩) h ⟨[],rfl,.refl _,.refl _,rfl⟩
mutual
def Qb3 (p1:Bool) (p2:Bool) (h0_0:(List Qai)) (h0_1:Int) (h0_2:Bool):Option ((List Qaa)×Int×Bool) :=
 (Qb0 p1 p2 h0_0 [] h0_1 h0_2)>>=fun o1 =>
 match o1 with
 | .inl y2 =>
  some (y2.1,y2.2.1,y2.2.2)
 | .inr y3 =>
  some (y3.1,y3.2.1,y3.2.2)
 partial_fixpoint
def Qb0 (p1:Bool) (p2:Bool) (h0_0:(List Qai)) (v7:(List Qaa)) (h0_1_:Int) (h0_2_:Bool):Option (((List Qaa)×Int×Bool)⊕((List Qaa)×Int×Bool)) :=
 ( if(!h0_2_) then
   some (decide (h0_1_<(h0_0.length:Int)))
  else
   some false:Option (Bool))>>=fun o4 =>
 if o4 then
  Qaq 1 h0_0 h0_1_ h0_2_>>=fun x5 =>
  if x5 then
   Qaj true h0_0 h0_1_ h0_2_>>=fun x6 =>
   ( if(decide ((wr ((v7.length:Int)-1)) ≥ 0)) then
     idx v7 (wr ((v7.length:Int)-1))>>=fun x8 =>
     some (x8.Kind==8)
    else
     some false:Option (Bool))>>=fun o7 =>
   if o7 then
    idx v7 (wr ((v7.length:Int)-1))>>=fun x9 =>
    need (x9.Text.length+x6.1.Text.length≤9223372036854775807)>>=fun _ =>
    idx v7 (wr ((v7.length:Int)-1))>>=fun x10 =>
    Qb0 p1 p2 h0_0 (v7.set ((wr ((v7.length:Int)-1)).toNat) (Qaa.mk x10.Kind x10.Name (x9.Text++x6.1.Text) x10.N x10.L x10.Then x10.Else)) x6.2.1 x6.2.2
   else
    appL 120 v7 ([(Qaa.mk 8 [] x6.1.Text 0 [] [] [])])>>=fun x11 =>
    Qb0 p1 p2 h0_0 x11 x6.2.1 x6.2.2
  else
   ( if p1 then
     Qb2 [101,110,100] h0_0 h0_1_ h0_2_>>=fun x13 =>
     if x13 then
      some true
     else
      if p2 then
       Qb2 [101,108,115,101] h0_0 h0_1_ h0_2_>>=fun x14 =>
       some x14
      else
       some false
    else
     if p2 then
      Qb2 [101,108,115,101] h0_0 h0_1_ h0_2_>>=fun x15 =>
      some x15
     else
      some false:Option (Bool))>>=fun o12 =>
   if o12 then
    some (.inr (v7,h0_1_,h0_2_))
   else
    Qaq 2 h0_0 h0_1_ h0_2_>>=fun x16 =>
    Qaj x16 h0_0 h0_1_ h0_2_>>=fun x17 =>
    Qaq 3 h0_0 x17.2.1 x17.2.2>>=fun x18 =>
    if x18 then
     Qaj true h0_0 x17.2.1 x17.2.2>>=fun x19 =>
     Qb0 p1 p2 h0_0 v7 x19.2.1 x19.2.2
    else
     Qga h0_0 x17.2.1 x17.2.2>>=fun x20 =>
     appL 120 v7 [x20.1]>>=fun x21 =>
     Qb0 p1 p2 h0_0 x21 x20.2.1 x20.2.2
 else
  some (.inl (v7,h0_1_,h0_2_))
 partial_fixpoint
def Qga (h0_0:(List Qai)) (h0_1:Int) (h0_2:Bool):Option (Qaa×Int×Bool) :=
 Qa1 [105,102] h0_0 h0_1 h0_2>>=fun x1 =>
 if x1 then
  Qaj true h0_0 h0_1 h0_2>>=fun x2 =>
  Qcc h0_0 x2.2.1 x2.2.2>>=fun x3 =>
  Qce h0_0 x3.2.1 x3.2.2>>=fun x4 =>
  Qb3 true true h0_0 x4.1 x4.2>>=fun x5 =>
  ( Qb2 [101,108,115,101] h0_0 x5.2.1 x5.2.2>>=fun x7 =>
   if x7 then
    Qdm [101,108,115,101] h0_0 x5.2.1 x5.2.2>>=fun x8 =>
    Qb3 true false h0_0 x8.1 x8.2>>=fun x9 =>
    some (x9.2.1,x9.2.2,x9.1)
   else
    some (x5.2.1,x5.2.2,[]):Option ((Int×Bool×(List Qaa))))>>=fun o6 =>
  Qdm [101,110,100] h0_0 o6.1 o6.2.1>>=fun x10 =>
  some ((Qaa.mk 10 [] [] 0 [x3.1] x5.1 o6.2.2),x10.1,x10.2)
 else
  ( Qa1 [101,97,99,104] h0_0 h0_1 h0_2>>=fun x12 =>
   if x12 then
    some true
   else
    Qa1 [108,101,116] h0_0 h0_1 h0_2>>=fun x13 =>
    some x13:Option (Bool))>>=fun o11 =>
  if o11 then
   ( Qa1 [108,101,116] h0_0 h0_1 h0_2>>=fun x15 =>
    if x15 then
     some 12
    else
     some 11:Option (Int))>>=fun o14 =>
   Qaj true h0_0 h0_1 h0_2>>=fun x16 =>
   Qc9 h0_0 x16.2.1 x16.2.2>>=fun x17 =>
   ( if(o14==11) then
     Qa1 [105,110] h0_0 x17.2.1 x17.2.2>>=fun x19 =>
     Qaj x19 h0_0 x17.2.1 x17.2.2>>=fun x20 =>
     some (x20.2.1,x20.2.2)
    else
     Qaq 11 h0_0 x17.2.1 x17.2.2>>=fun x21 =>
     Qaj x21 h0_0 x17.2.1 x17.2.2>>=fun x22 =>
     some (x22.2.1,x22.2.2):Option ((Int×Bool)))>>=fun o18 =>
   Qcc h0_0 o18.1 o18.2>>=fun x23 =>
   Qce h0_0 x23.2.1 x23.2.2>>=fun x24 =>
   Qb3 true false h0_0 x24.1 x24.2>>=fun x25 =>
   Qdm [101,110,100] h0_0 x25.2.1 x25.2.2>>=fun x26 =>
   some ((Qaa.mk o14 x17.1 [] 0 [x23.1] x25.1 []),x26.1,x26.2)
  else
   ( Qa1 [117,115,101] h0_0 h0_1 h0_2>>=fun x28 =>
    if x28 then
     Qaj true h0_0 h0_1 h0_2>>=fun x29 =>
     Qc9 h0_0 x29.2.1 x29.2.2>>=fun x30 =>
     some (x30.2.1,x30.2.2,13,x30.1)
    else
     some (h0_1,h0_2,9,[]):Option ((Int×Bool×Int×(List UInt8))))>>=fun o27 =>
   Qcc h0_0 o27.1 o27.2.1>>=fun x31 =>
   Qce h0_0 x31.2.1 x31.2.2>>=fun x32 =>
   some ((Qaa.mk o27.2.2.1 o27.2.2.2 [] 0 [x31.1] [] []),x32.1,x32.2)
 partial_fixpoint
end
theorem Qrh:∀ (h0_0:(List Qai)),(∀ (p1:Bool) (p2:Bool) (h0_1:Int) (h0_2:Bool) (o:(List Qaa)×Int×Bool),Qb3 p1 p2 h0_0 h0_1 h0_2=some o→CallOK Tryz.prog 116 [.ptr 0 0,.p (bV p1),.p (bV p2)] ⟨[[.p (.sl false (h0_0.map Qag)),.p (iV h0_1),.p (bV h0_2)]],[]⟩ (Qfl o) ⟨[[.p (.sl false (h0_0.map Qag)),.p (iV o.2.1),.p (bV o.2.2)]],[]⟩)∧(∀ (p1:Bool) (p2:Bool) (v7:(List Qaa)) (h0_1_:Int) (h0_2_:Bool) (o1:((List Qaa)×Int×Bool)⊕((List Qaa)×Int×Bool)),Qb0 p1 p2 h0_0 v7 h0_1_ h0_2_=some o1→TL (1,0) Tryz.prog 89 Qqb (JP2 (1,0) 89 o1 (.exit 0) (Qid p1 p2 h0_0) .ret (Qie p1 p2 h0_0)) (Qca p1 p2 h0_0 v7 h0_1_ h0_2_))∧(∀ (h0_1:Int) (h0_2:Bool) (o:Qaa×Int×Bool),Qga h0_0 h0_1 h0_2=some o→CallOK Tryz.prog 146 [.ptr 0 0] ⟨[[.p (.sl false (h0_0.map Qag)),.p (iV h0_1),.p (bV h0_2)]],[]⟩ (Qe4 o) ⟨[[.p (.sl false (h0_0.map Qag)),.p (iV o.2.1),.p (bV o.2.2)]],[]⟩):=by
 intro h0_0;refine Qb3.mutual_partial_correctness h0_0 _ _ _ ?_ ?_ ?_
 ·intro Qb0' iQb0 p1 p2 h0_1 h0_2 o h;refine CallOK.ofB mixed tbOk Qle Tryz.func116 rfl (by kernel_rfl) (Nat.le_of_ble_eq_true rfl) rfl rfl rfl ?_;refine Qal h (fun o1 ho hk=>?_);refine Exists.intro (JP2 _ _ o1 (.exit 0) (Qid p1 p2 h0_0) .ret (Qie p1 p2 h0_0)) (And.intro (Qk2 (τ := Qca p1 p2 h0_0 [] h0_1 h0_2) ?_ (TL.loop (iQb0 p1 p2 [] h0_1 h0_2 o1 ho))) (Qjy (fun y2 hy=>?_) (fun y3 hy=>?_)))
  ·exact Le.trans (τ := ⟨[(0,.ptr 0 0),(1,.p (bV p1)),(2,.p (bV p2)),(7,.p (.sl true []))],⟨[[.p (.sl false (h0_0.map Qag)),.p (iV h0_1),.p (bV h0_2)]],[]⟩⟩) (Le.tz 1 0 rfl rfl rfl) ((Le.xnil (.s 7) 38 7 rfl).trans (Le.tz 1 1 rfl rfl rfl))
  ·have h:=(by rw[hy] at hk; exact hk);refine Exists.intro _ (And.intro (Le.trans (τ := ⟨[(6,.x 0 1 (.sl 38 7 (y2.1.map Qab)))],⟨[[.p (.sl false (h0_0.map Qag)),.p (iV y2.2.1),.p (bV y2.2.2)]],[1]⟩⟩) (Le.tz 1 1 rfl rfl rfl) ((Le.frzv (.s 6) 0 1 rfl rfl rfl rfl).trans (Le.refl _ _ _))) ?_);exact Qa5 (t:=Qfl) (ss:=fun o=>⟨[[.p (.sl false (h0_0.map Qag)),.p (iV o.2.1),.p (bV o.2.2)]],[]⟩) h ⟨[],rfl,.refl _,.refl _,rfl⟩
  ·have h:=(by rw[hy] at hk; exact hk);refine Exists.intro _ (And.intro (Le.trans (τ := ⟨[(6,.x 0 1 (.sl 38 7 (y3.1.map Qab)))],⟨[[.p (.sl false (h0_0.map Qag)),.p (iV y3.2.1),.p (bV y3.2.2)]],[1]⟩⟩) (Le.tz 1 1 rfl rfl rfl) ((Le.frzv (.s 6) 0 1 rfl rfl rfl rfl).trans (Le.refl _ _ _))) ?_);exact Qa5 (t:=Qfl) (ss:=fun o=>⟨[[.p (.sl false (h0_0.map Qag)),.p (iV o.2.1),.p (bV o.2.2)]],[]⟩) h ⟨[],rfl,.refl _,.refl _,rfl⟩
 ·intro Qb0' Qga' iQb0 iQga p1 p2 v7 h0_1_ h0_2_ o1 h;refine TL.round (Qas mixed tbOk (lv:=Qle) _ _ _ ?_);refine Qal h (fun o4 ho hk=>?_);refine Exists.intro (JP1 _ _ o4 .normal (Qp8 p1 p2 h0_0 v7 h0_1_ h0_2_)) (And.intro ?_ (Qbb ?_))
  ·have h:=ho;refine And.intro (by decide +kernel) (And.intro rfl ?_);refine Qae h (fun hb h=>?_) (fun hb h=>?_)
   ·refine view (Qej _ _) rfl ?_;refine JP1.a h ?_;exact Le.tz 1 1 rfl rfl rfl
   ·refine JP1.a h ?_;exact Le.tz 1 1 rfl rfl rfl
  ·have h:=hk;refine Qae h (fun hb h=>?_) (fun hb h=>?_)
   ·refine Qan _ _ h (fun x5 hy=>((Qa0 1 h0_0 h0_1_ h0_2_ x5 hy).fr [0] [] rfl rfl rfl)) (fun x5 hy h=>?_);refine Qae h (fun hb h=>?_) (fun hb h=>?_)
    ·refine Qan _ _ h (fun x6 hy=>((Qao true h0_0 h0_1_ h0_2_ x6 hy).fr [0] [] rfl rfl rfl)) (fun x6 hy h=>?_);refine And.intro rfl (Exists.intro _ (And.intro (List.length_map _) ?_));refine Qal h (fun o7 ho hk=>?_);refine Exists.intro (JP1 _ _ o7 .normal (Qp9 p1 p2 h0_0 v7 x6)) (And.intro ?_ (Qbb ?_))
     ·have h:=ho;refine Qae h (fun hb h=>?_) (fun hb h=>?_)
      ·refine Qr4 (l:=v7) (c:=Qab) (c' := Qbh) h rfl Qap (fun _=>rfl) (by decide) (fun x8 hi h=>?_);refine And.intro rfl ?_;refine And.intro rfl (And.intro (Nat.le_of_ble_eq_true rfl) ?_);refine JP1.a h ?_;exact Le.tz 1 1 rfl rfl rfl
      ·refine JP1.a h ?_;exact Le.tz 1 1 rfl rfl rfl
     ·have h:=hk;refine Qae h (fun hb h=>?_) (fun hb h=>?_)
      ·refine Qr4 (l:=v7) (c:=Qab) (c' := Qbh) h rfl Qap (fun _=>rfl) (by decide) (fun x9 hi h=>?_);refine And.intro rfl ?_;refine And.intro rfl (And.intro (Nat.le_of_ble_eq_true rfl) ?_);refine Qxr h (fun h=>?_);refine Qr4 (l:=v7) (c:=Qab) (c' := Qbh) h rfl Qap (fun _=>rfl) (by decide) (fun x10 hi h=>?_);refine And.intro rfl ?_;refine And.intro rfl (And.intro (Nat.le_of_ble_eq_true rfl) (And.intro rfl (And.intro rfl (Exists.intro ((v7.set ((wr ((v7.length:Int)-1)).toNat) (Qaa.mk x10.Kind x10.Name (x9.Text++x6.1.Text) x10.N x10.L x10.Then x10.Else)).map Qab) (And.intro (Qaf5 (.ceq (Qap _) (.refl _))) ?_)))));refine TL.le (τ := Qca p1 p2 h0_0 (v7.set ((wr ((v7.length:Int)-1)).toNat) (Qaa.mk x10.Kind x10.Name (x9.Text++x6.1.Text) x10.N x10.L x10.Then x10.Else)) x6.2.1 x6.2.2) ?_ ((iQb0 p1 p2 (v7.set ((wr ((v7.length:Int)-1)).toNat) (Qaa.mk x10.Kind x10.Name (x9.Text++x6.1.Text) x10.N x10.L x10.Then x10.Else)) x6.2.1 x6.2.2 _ h));exact Le.trans (τ := ⟨[(0,.ptr 0 0),(1,.p (bV p1)),(2,.p (bV p2)),(7,.x 0 2 (.sl 38 7 ((v7.set ((wr ((v7.length:Int)-1)).toNat) (Qaa.mk x10.Kind x10.Name (x9.Text++x6.1.Text) x10.N x10.L x10.Then x10.Else)).map Qab)))],⟨[[.p (.sl false (h0_0.map Qag)),.p (iV x6.2.1),.p (bV x6.2.2)]],[2]⟩⟩) (Le.tz 1 1 rfl rfl rfl) ((Le.ver (.s 7) 0 2 1 rfl rfl rfl rfl).trans (Le.tz 1 1 rfl rfl rfl))
      ·refine Qn2 (a:=v7) (b:=[(Qaa.mk 8 [] x6.1.Text 0 [] [] [])]) (c:=Qab) h (.cons (.ceq (Qap _) (.cons (.refl _) (.cons (.refl _) (.cons (.refl _) (.cons (.refl _) (.cons (.not) (.cons (.not) (.cons (.not) (.nil))))))))) (.nil)) (fun x=>by rw[Qap]; rfl) rfl (fun x11 hi h=>?_);refine TL.le (τ := Qca p1 p2 h0_0 x11 x6.2.1 x6.2.2) ?_ ((iQb0 p1 p2 x11 x6.2.1 x6.2.2 _ h));exact Le.trans (τ := ⟨[(0,.ptr 0 0),(1,.p (bV p1)),(2,.p (bV p2)),(7,.x 0 2 (.sl 38 7 (x11.map Qab)))],⟨[[.p (.sl false (h0_0.map Qag)),.p (iV x6.2.1),.p (bV x6.2.2)]],[2]⟩⟩) (Le.tz 1 1 rfl rfl rfl) ((Le.ver (.s 7) 0 2 1 rfl rfl rfl rfl).trans (Le.tz 1 1 rfl rfl rfl))
    ·refine Qal h (fun o12 ho hk=>?_);refine Exists.intro (JP1 _ _ o12 .normal (Qqa p1 p2 h0_0 v7 h0_1_ h0_2_)) (And.intro ?_ (Qbb ?_))
     ·have h:=ho;refine Qae h (fun hb h=>?_) (fun hb h=>?_)
      ·refine Qan _ _ h (fun x13 hy=>((Qe8 [101,110,100] h0_0 h0_1_ h0_2_ x13 hy).fr [0] [] rfl rfl rfl)) (fun x13 hy h=>?_);refine Qae h (fun hb h=>?_) (fun hb h=>?_)
       ·refine JP1.a h ?_;exact Le.tz 1 1 rfl rfl rfl
       ·refine Qae h (fun hb h=>?_) (fun hb h=>?_)
        ·refine Qan _ _ h (fun x14 hy=>((Qe8 [101,108,115,101] h0_0 h0_1_ h0_2_ x14 hy).fr [0] [] rfl rfl rfl)) (fun x14 hy h=>?_);refine JP1.a h ?_;exact Le.tz 1 1 rfl rfl rfl
        ·refine JP1.a h ?_;exact Le.tz 1 1 rfl rfl rfl
      ·refine bF ?_;refine Qae h (fun hb h=>?_) (fun hb h=>?_)
       ·refine Qan _ _ h (fun x15 hy=>((Qe8 [101,108,115,101] h0_0 h0_1_ h0_2_ x15 hy).fr [0] [] rfl rfl rfl)) (fun x15 hy h=>?_);refine JP1.a h ?_;exact Le.tz 1 1 rfl rfl rfl
       ·refine JP1.a h ?_;exact Le.tz 1 1 rfl rfl rfl
     ·have h:=hk;refine Qae h (fun hb h=>?_) (fun hb h=>?_)
      ·exact JP2.b h (Le.tz 1 1 rfl rfl rfl)
      ·refine Qan _ _ h (fun x16 hy=>((Qa0 2 h0_0 h0_1_ h0_2_ x16 hy).fr [0] [] rfl rfl rfl)) (fun x16 hy h=>?_);refine Qan _ _ h (fun x17 hy=>((Qao x16 h0_0 h0_1_ h0_2_ x17 hy).fr [0] [] rfl rfl rfl)) (fun x17 hy h=>?_);refine Qan _ _ h (fun x18 hy=>((Qa0 3 h0_0 x17.2.1 x17.2.2 x18 hy).fr [0] [] rfl rfl rfl)) (fun x18 hy h=>?_);refine Qae h (fun hb h=>?_) (fun hb h=>?_)
       ·refine Qan _ _ h (fun x19 hy=>((Qao true h0_0 x17.2.1 x17.2.2 x19 hy).fr [0] [] rfl rfl rfl)) (fun x19 hy h=>?_);refine TL.le (τ := Qca p1 p2 h0_0 v7 x19.2.1 x19.2.2) ?_ ((iQb0 p1 p2 v7 x19.2.1 x19.2.2 _ h));exact Le.tz 1 1 rfl rfl rfl
       ·refine Qan _ _ h (fun x20 hy=>((iQga x17.2.1 x17.2.2 x20 hy).fr [0] [] rfl rfl rfl)) (fun x20 hy h=>?_);refine Qn2 (a:=v7) (b:=[x20.1]) (c:=Qab) h (.cons (.ceq (Qap _) (.refl _)) (.nil)) (fun x=>by rw[Qap]; rfl) rfl (fun x21 hi h=>?_);refine TL.le (τ := Qca p1 p2 h0_0 x21 x20.2.1 x20.2.2) ?_ ((iQb0 p1 p2 x21 x20.2.1 x20.2.2 _ h));exact Le.trans (τ := ⟨[(0,.ptr 0 0),(1,.p (bV p1)),(2,.p (bV p2)),(7,.x 0 2 (.sl 38 7 (x21.map Qab)))],⟨[[.p (.sl false (h0_0.map Qag)),.p (iV x20.2.1),.p (bV x20.2.2)]],[2]⟩⟩) (Le.tz 1 1 rfl rfl rfl) ((Le.ver (.s 7) 0 2 1 rfl rfl rfl rfl).trans (Le.tz 1 1 rfl rfl rfl))
   ·exact JP2.a h (Le.tz 1 1 rfl rfl rfl)
 ·intro Qb3' iQb3 h0_1 h0_2 o h;refine CallOK.ofB mixed tbOk Qrc Tryz.func146 rfl (by kernel_rfl) (Nat.le_of_ble_eq_true rfl) rfl rfl rfl ?_;refine Qan _ _ h (fun x1 hy=>((Qbi [105,102] h0_0 h0_1 h0_2 x1 hy).fr [0] [] rfl rfl rfl)) (fun x1 hy h=>?_);refine Qae h (fun hb h=>?_) (fun hb h=>?_)
  ·refine Qan _ _ h (fun x2 hy=>((Qao true h0_0 h0_1 h0_2 x2 hy).fr [0] [] rfl rfl rfl)) (fun x2 hy h=>?_);refine Qan _ _ h (fun x3 hy=>((Qhy h0_0 x2.2.1 x2.2.2 x3 hy).fr [0] [] rfl rfl rfl)) (fun x3 hy h=>?_);refine Qan _ _ h (fun x4 hy=>((Qe9 h0_0 x3.2.1 x3.2.2 x4 hy).fr [0] [] rfl rfl rfl)) (fun x4 hy h=>?_);refine Qan _ _ h (fun x5 hy=>((iQb3 true true x4.1 x4.2 x5 hy).fr [0] [] rfl rfl rfl)) (fun x5 hy h=>?_);refine Qal h (fun o6 ho hk=>?_);refine Exists.intro (JP1 _ _ o6 .normal (Qo7 h0_0 x3 x5)) (And.intro ?_ (Qbb ?_))
   ·have h:=ho;refine Qan _ _ h (fun x7 hy=>((Qe8 [101,108,115,101] h0_0 x5.2.1 x5.2.2 x7 hy).fr [0] [] rfl rfl rfl)) (fun x7 hy h=>?_);refine Qae h (fun hb h=>?_) (fun hb h=>?_)
    ·refine Qan _ _ h (fun x8 hy=>((Qi7 [101,108,115,101] h0_0 x5.2.1 x5.2.2 x8 hy).fr [0] [] rfl rfl rfl)) (fun x8 hy h=>?_);refine Qan _ _ h (fun x9 hy=>((iQb3 true false x8.1 x8.2 x9 hy).fr [0] [] rfl rfl rfl)) (fun x9 hy h=>?_);refine JP1.a h ?_;exact Le.tow 3 0 rfl (.cons rfl (.refl _) (.cons rfl (.refl _) (.cons rfl (.refl _) (.nil)))) (.cons (.refl _) (.cons (.refl _) (.cons (.cons (.refl _) (.cons (.refl _) (.cons (.refl _) (.cons (.refl _) (.cons (.p (.sl' (fun h=>h) (.cons (.ceq (Qap _) (.refl _)) (.nil)))) (.cons (.refl _) (.cons (.refl _) (.nil)))))))) (.nil)))) rfl
    ·refine JP1.a h ?_;exact Le.tow 3 0 rfl (.cons rfl (.refl _) (.cons rfl (.refl _) (.cons rfl (.refl _) (.nil)))) (.cons (.refl _) (.cons (.refl _) (.cons (.cons (.refl _) (.cons (.refl _) (.cons (.refl _) (.cons (.refl _) (.cons (.p (.sl' (fun h=>h) (.cons (.ceq (Qap _) (.refl _)) (.nil)))) (.cons (.refl _) (.cons (.p (.not)) (.nil)))))))) (.nil)))) rfl
   ·have h:=hk;refine Qan _ _ h (fun x10 hy=>((Qi7 [101,110,100] h0_0 o6.1 o6.2.1 x10 hy).fr [0] [] rfl rfl rfl)) (fun x10 hy h=>?_);refine Exists.intro _ (And.intro (Le.refl _ _ _) ?_);exact Qa5 (t:=Qe4) (ss:=fun o=>⟨[[.p (.sl false (h0_0.map Qag)),.p (iV o.2.1),.p (bV o.2.2)]],[]⟩) h ⟨[],rfl,.p (.agg' (.cons (.refl _) (.cons (.refl _) (.cons (.refl _) (.cons (.refl _) (.cons (.not) (.cons (.refl _) (.cons (.refl _) (.nil))))))))),.refl _,rfl⟩
  ·refine Qal h (fun o11 ho hk=>?_);refine Exists.intro (JP1 _ _ o11 .normal (Qo8 h0_0 h0_1 h0_2)) (And.intro ?_ (Qbb ?_))
   ·have h:=ho;refine Qan _ _ h (fun x12 hy=>((Qbi [101,97,99,104] h0_0 h0_1 h0_2 x12 hy).fr [0] [] rfl rfl rfl)) (fun x12 hy h=>?_);refine Qae h (fun hb h=>?_) (fun hb h=>?_)
    ·refine JP1.a h ?_;exact Le.tz 2 0 rfl rfl rfl
    ·refine Qan _ _ h (fun x13 hy=>((Qbi [108,101,116] h0_0 h0_1 h0_2 x13 hy).fr [0] [] rfl rfl rfl)) (fun x13 hy h=>?_);refine JP1.a h ?_;exact Le.tz 2 0 rfl rfl rfl
   ·have h:=hk;refine Qae h (fun hb h=>?_) (fun hb h=>?_)
    ·refine Qal h (fun o14 ho hk=>?_);refine Exists.intro (JP1 _ _ o14 .normal (Qo9 h0_0 h0_1 h0_2)) (And.intro ?_ (Qbb ?_))
     ·have h:=ho;refine Qan _ _ h (fun x15 hy=>((Qbi [108,101,116] h0_0 h0_1 h0_2 x15 hy).fr [0] [] rfl rfl rfl)) (fun x15 hy h=>?_);refine Qae h (fun hb h=>?_) (fun hb h=>?_)
      ·refine JP1.a h ?_;exact Le.tz 3 0 rfl rfl rfl
      ·refine JP1.a h ?_;exact Le.tz 3 0 rfl rfl rfl
     ·have h:=hk;refine Qan _ _ h (fun x16 hy=>((Qao true h0_0 h0_1 h0_2 x16 hy).fr [0] [] rfl rfl rfl)) (fun x16 hy h=>?_);refine Qan _ _ h (fun x17 hy=>((Qhx h0_0 x16.2.1 x16.2.2 x17 hy).fr [0] [] rfl rfl rfl)) (fun x17 hy h=>?_);refine Qal h (fun o18 ho hk=>?_);refine Exists.intro (JP1 _ _ o18 .normal (Qpa h0_0 o14 x17)) (And.intro ?_ (Qbb ?_))
      ·have h:=ho;refine Qae h (fun hb h=>?_) (fun hb h=>?_)
       ·refine Qan _ _ h (fun x19 hy=>((Qbi [105,110] h0_0 x17.2.1 x17.2.2 x19 hy).fr [0] [] rfl rfl rfl)) (fun x19 hy h=>?_);refine Qan _ _ h (fun x20 hy=>((Qao x19 h0_0 x17.2.1 x17.2.2 x20 hy).fr [0] [] rfl rfl rfl)) (fun x20 hy h=>?_);refine JP1.a h ?_;exact Le.tz 3 0 rfl rfl rfl
       ·refine Qan _ _ h (fun x21 hy=>((Qa0 11 h0_0 x17.2.1 x17.2.2 x21 hy).fr [0] [] rfl rfl rfl)) (fun x21 hy h=>?_);refine Qan _ _ h (fun x22 hy=>((Qao x21 h0_0 x17.2.1 x17.2.2 x22 hy).fr [0] [] rfl rfl rfl)) (fun x22 hy h=>?_);refine JP1.a h ?_;exact Le.tz 3 0 rfl rfl rfl
      ·have h:=hk;refine Qan _ _ h (fun x23 hy=>((Qhy h0_0 o18.1 o18.2 x23 hy).fr [0] [] rfl rfl rfl)) (fun x23 hy h=>?_);refine Qan _ _ h (fun x24 hy=>((Qe9 h0_0 x23.2.1 x23.2.2 x24 hy).fr [0] [] rfl rfl rfl)) (fun x24 hy h=>?_);refine Qan _ _ h (fun x25 hy=>((iQb3 true false x24.1 x24.2 x25 hy).fr [0] [] rfl rfl rfl)) (fun x25 hy h=>?_);refine Qan _ _ h (fun x26 hy=>((Qi7 [101,110,100] h0_0 x25.2.1 x25.2.2 x26 hy).fr [0] [] rfl rfl rfl)) (fun x26 hy h=>?_);refine Exists.intro _ (And.intro (Le.refl _ _ _) ?_);exact Qa5 (t:=Qe4) (ss:=fun o=>⟨[[.p (.sl false (h0_0.map Qag)),.p (iV o.2.1),.p (bV o.2.2)]],[]⟩) h ⟨[],rfl,.p (.agg' (.cons (.refl _) (.cons (.refl _) (.cons (.refl _) (.cons (.refl _) (.cons (.no (.cons (.ceq (Qap _) (.refl _)) (.nil))) (.cons (.refl _) (.cons (.not) (.nil))))))))),.refl _,rfl⟩
    ·refine Qal h (fun o27 ho hk=>?_);refine Exists.intro (JP1 _ _ o27 .normal (Qpb h0_0)) (And.intro ?_ (Qbb ?_))
     ·have h:=ho;refine Qan _ _ h (fun x28 hy=>((Qbi [117,115,101] h0_0 h0_1 h0_2 x28 hy).fr [0] [] rfl rfl rfl)) (fun x28 hy h=>?_);refine Qae h (fun hb h=>?_) (fun hb h=>?_)
      ·refine Qan _ _ h (fun x29 hy=>((Qao true h0_0 h0_1 h0_2 x29 hy).fr [0] [] rfl rfl rfl)) (fun x29 hy h=>?_);refine Qan _ _ h (fun x30 hy=>((Qhx h0_0 x29.2.1 x29.2.2 x30 hy).fr [0] [] rfl rfl rfl)) (fun x30 hy h=>?_);refine JP1.a h ?_;exact Le.tz 3 0 rfl rfl rfl
      ·refine JP1.a h ?_;exact Le.tz 3 0 rfl rfl rfl
     ·have h:=hk;refine Qan _ _ h (fun x31 hy=>((Qhy h0_0 o27.1 o27.2.1 x31 hy).fr [0] [] rfl rfl rfl)) (fun x31 hy h=>?_);refine Qan _ _ h (fun x32 hy=>((Qe9 h0_0 x31.2.1 x31.2.2 x32 hy).fr [0] [] rfl rfl rfl)) (fun x32 hy h=>?_);refine Exists.intro _ (And.intro (Le.refl _ _ _) ?_);exact Qa5 (t:=Qe4) (ss:=fun o=>⟨[[.p (.sl false (h0_0.map Qag)),.p (iV o.2.1),.p (bV o.2.2)]],[]⟩) h ⟨[],rfl,.p (.agg' (.cons (.refl _) (.cons (.refl _) (.cons (.refl _) (.cons (.refl _) (.cons (.no (.cons (.ceq (Qap _) (.refl _)) (.nil))) (.cons (.not) (.cons (.not) (.nil))))))))),.refl _,rfl⟩
theorem Qsl:∀ (p1:Bool) (p2:Bool) (h0_0:(List Qai)) (h0_1:Int) (h0_2:Bool) (o:(List Qaa)×Int×Bool),Qb3 p1 p2 h0_0 h0_1 h0_2=some o→CallOK Tryz.prog 116 [.ptr 0 0,.p (bV p1),.p (bV p2)] ⟨[[.p (.sl false (h0_0.map Qag)),.p (iV h0_1),.p (bV h0_2)]],[]⟩ (Qfl o) ⟨[[.p (.sl false (h0_0.map Qag)),.p (iV o.2.1),.p (bV o.2.2)]],[]⟩:=fun p1 p2 h0_0 h0_1 h0_2=>(Qrh h0_0).1 p1 p2 h0_1 h0_2
def Qnm (p0:(List UInt8)):Option ((List Qaa)×Int×Int) :=
 Qkv p0>>=fun x1 =>
 if(x1.2.2 != 0) then
  some ([],x1.2.1,x1.2.2)
 else
  Qb3 false false x1.1 0 false>>=fun x2 =>
  if x2.2.2 then
   if(decide (x2.2.1<(x1.1.length:Int))) then
    idx x1.1 x2.2.1>>=fun x3 =>
    some ([],x3.From,7)
   else
    some ([],(p0.length:Int),7)
  else
   Qfb x2.1>>=fun x4 =>
   if(decide (x4>1024)) then
    some ([],0,5)
   else
    Qgt x2.1>>=fun x5 =>
    if(decide (x5>12)) then
     some ([],0,8)
    else
     some (x2.1,0,0)
theorem Q6n:∀ (p0:(List UInt8)) (o:(List Qaa)×Int×Int),Qnm p0=some o→PCall Tryz.prog 84 [sV p0] (Qfu o):=by
 intro p0 o h;unfold Qnm at h;refine PCall.ofB mixed tbOk Q6l Tryz.func84 rfl (by kernel_rfl) (Nat.le_of_ble_eq_true rfl) ?_;refine Qat [sV p0] Qjp h (fun x1 hy=>(Q3j p0 x1 hy)) (fun x1 hy h=>?_);refine Qae h (fun hb h=>?_) (fun hb h=>?_)
 ·refine Qax (t:=Qfu) h ?_;exact .tup (xs:=[.sl true [],iV x1.2.1,iV x1.2.2]) (ys:=[.sl false [],iV x1.2.1,iV x1.2.2]) (.cons (.not) (.cons (.refl _) (.cons (.refl _) (.nil))))
 ·refine Qan _ _ h (fun x2 hy=>((Qsl false false x1.1 0 false x2 hy).fr [0] [] rfl rfl rfl)) (fun x2 hy h=>?_);refine Qae h (fun hb h=>?_) (fun hb h=>?_)
  ·refine view (Qej _ _) rfl ?_;refine Qae h (fun hb h=>?_) (fun hb h=>?_)
   ·refine And.intro (by decide +kernel) (And.intro rfl ?_);refine Qco (l:=x1.1) (c:=Qag) (c' := Qag) h (fun _=>rfl) (fun _=>rfl) (by decide) (fun x3 hi h=>?_);refine Qax (t:=Qfu) h ?_;exact .tup (xs:=[.sl true [],iV x3.From,iV 7]) (ys:=[.sl false [],iV x3.From,iV 7]) (.cons (.not) (.cons (.refl _) (.cons (.refl _) (.nil))))
   ·refine vrfl ?_;refine Qax (t:=Qfu) h ?_;exact .tup (xs:=[.sl true [],iV (p0.length:Int),iV 7]) (ys:=[.sl false [],iV (p0.length:Int),iV 7]) (.cons (.not) (.cons (.refl _) (.cons (.refl _) (.nil))))
  ·refine Qat [.sl false (x2.1.map Qab)] Qgy h (fun x4 hy=>(Q55 x2.1 x4 hy)) (fun x4 hy h=>?_);refine Qae h (fun hb h=>?_) (fun hb h=>?_)
   ·refine Qax (t:=Qfu) h ?_;exact .tup (xs:=[.sl true [],iV 0,iV 5]) (ys:=[.sl false [],iV 0,iV 5]) (.cons (.not) (.cons (.refl _) (.cons (.refl _) (.nil))))
   ·refine Qat [.sl false (x2.1.map Qab)] Qiq h (fun x5 hy=>(Q79 x2.1 x5 hy)) (fun x5 hy h=>?_);refine Qae h (fun hb h=>?_) (fun hb h=>?_)
    ·refine Qax (t:=Qfu) h ?_;exact .tup (xs:=[.sl true [],iV 0,iV 8]) (ys:=[.sl false [],iV 0,iV 8]) (.cons (.not) (.cons (.refl _) (.cons (.refl _) (.nil))))
    ·refine Qax (t:=Qfu) h ?_;exact .refl _
def Qjs (p0:(List Qak)) (p1:(List UInt8)) (v5:Int):Option (Unit⊕Bool) :=
 if(decide (v5 ≥ 0)) then
  idx p0 v5>>=fun x4 =>
  if(x4.Name==p1) then
   idx p0 v5>>=fun x5 =>
   some (.inr x5.Secret)
  else
   Qjs p0 p1 (wr (v5-1))
 else
  some (.inl ())
 partial_fixpoint
def Qyx (p0:(List Qak)) (p1:(List UInt8)):Option (Bool) :=
 (Qjs p0 p1 (wr ((p0.length:Int)-1)))>>=fun o1 =>
 match o1 with
 | .inl y2 =>
  some false
 | .inr y3 =>
  some y3
mutual
def Qww (p0:Qaa) (p1:(List Qak)):Option (Bool) :=
 if(p0.Kind==7) then
  some true
 else
  if(p0.Kind==4) then
   Qyx p1 p0.Name>>=fun x1 =>
   some x1
  else
   ( if(p0.Kind != 5) then
     some (p0.Kind != 6)
    else
     some false:Option (Bool))>>=fun o2 =>
   if o2 then
    some false
   else
    (Qll p0 p1 0)>>=fun o3 =>
    match o3 with
    | .inl y4 =>
     some false
    | .inr y5 =>
     some true
 partial_fixpoint
def Qll (p0:Qaa) (p1:(List Qak)) (v5:Int):Option (Unit⊕Unit) :=
 if(decide (v5<(p0.L.length:Int))) then
  idx p0.L v5>>=fun x6 =>
  Qww x6 p1>>=fun x7 =>
  if x7 then
   some (.inr ())
  else
   Qll p0 p1 (wr (v5+1))
 else
  some (.inl ())
 partial_fixpoint
end
def Qdw (p0:(List UInt8)):Option ((List Qac)) :=
 Qnm p0>>=fun x1 =>
 some ([(Qac.mk [109] x1.1)])
theorem Qhz:∀ (p0:(List UInt8)) (o:(List Qac)),Qdw p0=some o→PCall Tryz.prog 59 [sV p0] (Qeq o):=by
 intro p0 o h;unfold Qdw at h;refine PCall.ofB mixed tbOk Qtt Tryz.func59 rfl (by kernel_rfl) (Nat.le_of_ble_eq_true rfl) ?_;refine Qat [sV p0] Qfu h (fun x1 hy=>(Q6n p0 x1 hy)) (fun x1 hy h=>?_);refine Qax (t:=Qeq) h ?_;exact .p (.not)
def Qh0:Option (Unit) :=
 some ()
theorem Qtz:∀ (o:Unit),Qh0  = some o→PCall Tryz.prog 62 [] (Qi0 o):=by
 intro o h;unfold Qh0 at h;refine PCall.ofB mixed tbOk Qtu Tryz.func62 rfl (by kernel_rfl) (Nat.le_of_ble_eq_true rfl) ?_;refine Qax (t:=Qi0) h ?_;exact .refl _
def Qdx (p0:Qaa) (p1:(List Qak)) (v5:Int):Option (Unit⊕Bool) :=
 if(decide (v5 ≥ 0)) then
  idx p1 v5>>=fun x4 =>
  if(x4.Name==p0.Name) then
   idx p1 v5>>=fun x5 =>
   some (.inr x5.Secret)
  else
   Qdx p0 p1 (wr (v5-1))
 else
  some (.inl ())
 partial_fixpoint
theorem Q8d:∀ (p0:Qaa) (p1:(List Qak)),(∀ (v5:Int) (o1:Unit⊕Bool),Qdx p0 p1 v5=some o1→TL (0,0) Tryz.prog 39 Qut (JP2 (0,0) 39 o1 (.exit 1) (Ql8 p0 p1) .ret (Ql9 p0 p1)) (Qhu p0 p1 v5)):=by
 intro p0 p1;refine Qdx.partial_correctness p0 p1 _ ?_;intro Qdx' iQdx v5 o1 h;refine TL.round (Qas mixed tbOk (lv:=Qqf) _ _ _ ?_);refine Qae h (fun hb h=>?_) (fun hb h=>?_)
 ·refine And.intro (by decide +kernel) (And.intro rfl ?_);refine Qco (l:=p1) (c:=Qar) (c' := Qar) h (fun _=>rfl) (fun _=>rfl) (by decide) (fun x4 hi h=>?_);refine Qae h (fun hb h=>?_) (fun hb h=>?_)
  ·refine Qco (l:=p1) (c:=Qar) (c' := Qar) h (fun _=>rfl) (fun _=>rfl) (by decide) (fun x5 hi h=>?_);exact JP2.b h (Le.tz 2 0 rfl rfl rfl)
  ·refine TL.le (τ := Qhu p0 p1 (wr (v5-1))) ?_ ((iQdx (wr (v5-1)) _ h));exact Le.tz 2 0 rfl rfl rfl
 ·exact JP2.a h (Le.tz 2 0 rfl rfl rfl)
mutual
def Qd8 (p0:Qaa) (p1:(List Qak)):Option (Bool) :=
 if(p0.Kind==7) then
  some true
 else
  if(p0.Kind==4) then
   (Qdx p0 p1 (wr ((p1.length:Int)-1)))>>=fun o1 =>
   match o1 with
   | .inl y2 =>
    some false
   | .inr y3 =>
    some y3
  else
   ( if(p0.Kind==5) then
     some (p0.Kind==5)
    else
     some (p0.Kind==6):Option (Bool))>>=fun o6 =>
   if o6 then
    Qa2 p0.L p1>>=fun x7 =>
    some x7
   else
    some false
 partial_fixpoint
def Qa2 (p0:(List Qaa)) (h0_0:(List Qak)):Option (Bool) :=
 Qbe p0 h0_0>>=fun x1 =>
 some (decide (x1 ≥ 0))
 partial_fixpoint
def Qbe (p0:(List Qaa)) (h0_0:(List Qak)):Option (Int) :=
 (Qau p0 h0_0 0)>>=fun o1 =>
 match o1 with
 | .inl y2 =>
  some (-1)
 | .inr y3 =>
  some y3
 partial_fixpoint
def Qau (p0:(List Qaa)) (h0_0:(List Qak)) (v8:Int):Option (Unit⊕Int) :=
 if(decide (v8<(p0.length:Int))) then
  idx p0 v8>>=fun x4 =>
  Qmv x4 h0_0>>=fun x5 =>
  if x5 then
   some (.inr v8)
  else
   Qau p0 h0_0 (wr (v8+1))
 else
  some (.inl ())
 partial_fixpoint
def Qmv (p0:Qaa) (h0_0:(List Qak)):Option (Bool) :=
 Qd8 p0 h0_0>>=fun x1 =>
 some x1
 partial_fixpoint
end
theorem Qv6:∀ (p1:(List Qak)),(∀ (p0:Qaa) (o:Bool),Qd8 p0 p1=some o→PCall Tryz.prog 23 [.agg [iV p0.Kind,sV p0.Name,sV p0.Text,iV p0.N,.sl false (p0.L.map Qab),.sl false (p0.Then.map Qab),.sl false (p0.Else.map Qab)],.sl false (p1.map Qar)] (Qcp o))∧(∀ (p0:(List Qaa)) (o:Bool),Qa2 p0 p1=some o→CallOK Tryz.prog 56 [.p (.sl false (p0.map Qab)),.fn (.func 57) [] [.ptr 0 0]] ⟨[[.p (.sl false (p1.map Qar))]],[]⟩ (Qbq o) ⟨[[.p (.sl false (p1.map Qar))]],[]⟩)∧(∀ (p0:(List Qaa)) (o:Int),Qbe p0 p1=some o→CallOK Tryz.prog 83 [.p (.sl false (p0.map Qab)),.fn (.func 57) [] [.ptr 0 0]] ⟨[[.p (.sl false (p1.map Qar))]],[]⟩ (Qbc o) ⟨[[.p (.sl false (p1.map Qar))]],[]⟩)∧(∀ (p0:(List Qaa)) (v8:Int) (o1:Unit⊕Int),Qau p0 p1 v8=some o1→TL (1,0) Tryz.prog 19 Qdg (JP2 (1,0) 19 o1 (.exit 0) (Qbo p0 p1) .ret (Qbp p0 p1)) (Qa7 p0 p1 v8))∧(∀ (p0:Qaa) (o:Bool),Qmv p0 p1=some o→CallOK Tryz.prog 57 [.p (.agg [iV p0.Kind,sV p0.Name,sV p0.Text,iV p0.N,.sl false (p0.L.map Qab),.sl false (p0.Then.map Qab),.sl false (p0.Else.map Qab)]),.ptr 0 0] ⟨[[.p (.sl false (p1.map Qar))]],[]⟩ (Qo5 o) ⟨[[.p (.sl false (p1.map Qar))]],[]⟩):=by
 intro p1;refine Qd8.mutual_partial_correctness p1 _ _ _ _ _ ?_ ?_ ?_ ?_ ?_
 ·intro Qa2' iQa2 p0 o h;refine PCall.ofB mixed tbOk Qqf Tryz.func23 rfl (by kernel_rfl) (Nat.le_of_ble_eq_true rfl) ?_;refine Qae h (fun hb h=>?_) (fun hb h=>?_)
  ·refine Qax (t:=Qcp) h ?_;exact .refl _
  ·refine Qae h (fun hb h=>?_) (fun hb h=>?_)
   ·refine view (Qej _ _) rfl ?_;refine Qal h (fun o1 ho hk=>?_);refine Exists.intro (JP2 _ _ o1 (.exit 1) (Ql8 p0 p1) .ret (Ql9 p0 p1)) (And.intro (Qk2 (τ := Qhu p0 p1 (wr ((p1.length:Int)-1))) ?_ (TL.loop (Q8d p0 p1 (wr ((p1.length:Int)-1)) o1 ho))) (Qjy (fun y2 hy=>?_) (fun y3 hy=>?_)))
    ·exact Le.tz 2 0 rfl rfl rfl
    ·have h:=(by rw[hy] at hk; exact hk);refine Qax (t:=Qcp) h ?_;exact .refl _
    ·have h:=(by rw[hy] at hk; exact hk);refine Qax (t:=Qcp) h ?_;exact .refl _
   ·refine Qal h (fun o6 ho hk=>?_);refine Exists.intro (JP1 _ _ o6 .normal (Quu p0 p1)) (And.intro ?_ (Qbb ?_))
    ·have h:=ho;refine Qae h (fun hb h=>?_) (fun hb h=>?_)
     ·refine JP1.a h ?_;exact Le.tz 2 0 rfl rfl rfl
     ·refine JP1.a h ?_;exact Le.tz 2 0 rfl rfl rfl
    ·have h:=hk;refine Qae h (fun hb h=>?_) (fun hb h=>?_)
     ·refine Qan _ _ h (fun x7 hy=>((iQa2 p0.L x7 hy).fr [1] [] rfl rfl rfl)) (fun x7 hy h=>?_);refine Qax (t:=Qcp) h ?_;exact .refl _
     ·refine Qax (t:=Qcp) h ?_;exact .refl _
 ·intro Qbe' iQbe p0 o h;refine CallOK.ofB mixed tbOk Qde Tryz.func56 rfl (by kernel_rfl) (Nat.le_of_ble_eq_true rfl) rfl rfl rfl ?_;refine Qan _ _ h (fun x1 hy=>((iQbe p0 x1 hy).fr [0] [] rfl rfl rfl)) (fun x1 hy h=>?_);refine Exists.intro _ (And.intro (Le.refl _ _ _) ?_);exact Qa5 (t:=Qbq) (ss:=fun o=>⟨[[.p (.sl false (p1.map Qar))]],[]⟩) h ⟨[],rfl,.refl _,.refl _,rfl⟩
 ·intro Qau' iQau p0 o h;refine CallOK.ofB mixed tbOk Qbv Tryz.func83 rfl (by kernel_rfl) (Nat.le_of_ble_eq_true rfl) rfl rfl rfl ?_;refine view (Qej _ _) rfl ?_;refine Qal h (fun o1 ho hk=>?_);refine Exists.intro (JP2 _ _ o1 (.exit 0) (Qbo p0 p1) .ret (Qbp p0 p1)) (And.intro (Qk2 (τ := Qa7 p0 p1 0) ?_ (TL.loop (iQau p0 0 o1 ho))) (Qjy (fun y2 hy=>?_) (fun y3 hy=>?_)))
  ·exact Le.tz 1 0 rfl rfl rfl
  ·have h:=(by rw[hy] at hk; exact hk);refine Exists.intro _ (And.intro (Le.refl _ _ _) ?_);exact Qa5 (t:=Qbc) (ss:=fun o=>⟨[[.p (.sl false (p1.map Qar))]],[]⟩) h ⟨[],rfl,.refl _,.refl _,rfl⟩
  ·have h:=(by rw[hy] at hk; exact hk);refine Exists.intro _ (And.intro (Le.refl _ _ _) ?_);exact Qa5 (t:=Qbc) (ss:=fun o=>⟨[[.p (.sl false (p1.map Qar))]],[]⟩) h ⟨[],rfl,.refl _,.refl _,rfl⟩
 ·intro Qau' Qmv' iQau iQmv p0 v8 o1 h;refine TL.round (Qas mixed tbOk (lv:=Qbv) _ _ _ ?_);refine Qae h (fun hb h=>?_) (fun hb h=>?_)
  ·refine Qco (l:=p0) (c:=Qab) (c' := Qbh) h Qap (fun _=>rfl) (by decide) (fun x4 hi h=>?_);refine Qan _ _ h (fun x5 hy=>((iQmv x4 x5 hy).fr [0] [] rfl rfl rfl)) (fun x5 hy h=>?_);refine Qae h (fun hb h=>?_) (fun hb h=>?_)
   ·exact JP2.b h (Le.tz 1 0 rfl rfl rfl)
   ·refine TL.le (τ := Qa7 p0 p1 (wr (v8+1))) ?_ ((iQau p0 (wr (v8+1)) _ h));exact Le.tz 1 0 rfl rfl rfl
  ·exact JP2.a h (Le.tz 1 0 rfl rfl rfl)
 ·intro Qd8' iQd8 p0 o h;refine CallOK.ofB mixed tbOk Quv Tryz.func57 rfl (by kernel_rfl) (Nat.le_of_ble_eq_true rfl) rfl rfl rfl ?_;refine Qat [.agg [iV p0.Kind,sV p0.Name,sV p0.Text,iV p0.N,.sl false (p0.L.map Qab),.sl false (p0.Then.map Qab),.sl false (p0.Else.map Qab)],.sl false (p1.map Qar)] Qcp h (fun x1 hy=>(iQd8 p0 x1 hy)) (fun x1 hy h=>?_);refine Exists.intro _ (And.intro (Le.refl _ _ _) ?_);exact Qa5 (t:=Qo5) (ss:=fun o=>⟨[[.p (.sl false (p1.map Qar))]],[]⟩) h ⟨[],rfl,.refl _,.refl _,rfl⟩
theorem Qqh:∀ (p0:Qaa) (p1:(List Qak)) (o:Bool),Qd8 p0 p1=some o→PCall Tryz.prog 23 [.agg [iV p0.Kind,sV p0.Name,sV p0.Text,iV p0.N,.sl false (p0.L.map Qab),.sl false (p0.Then.map Qab),.sl false (p0.Else.map Qab)],.sl false (p1.map Qar)] (Qcp o):=fun p0 p1=>(Qv6 p1).1 p0
def Qbm (p0:(List Qak)):Option ((List Qak)) :=
 appL 32 [] p0
theorem Qd9:∀ (p0:(List Qak)) (o:(List Qak)),Qbm p0=some o→CallOK Tryz.prog 88 [.p (.sl false (p0.map Qar))] ⟨[],[]⟩ (Qcv o) ⟨[],[1]⟩:=by
 intro p0 o h;unfold Qbm at h;have h:(appL 32 ([]:List Qak) p0>>=fun r=>some r)=some o:=by rw[h]; rfl
 refine CallOK.ofB mixed tbOk Qhw Tryz.func88 rfl (by kernel_rfl) (Nat.le_of_ble_eq_true rfl) rfl rfl rfl ?_;refine⟨rfl,rfl,rfl,fun b hb=>?_⟩;cases b with
 | true =>
  refine bT ?_;obtain rfl:=List.map_eq_nil_iff.1 (hb rfl);have h:some ([]:List Qak)=some o:=h;refine Exists.intro _ (And.intro (Le.xnil (.s 2) 46 3 rfl) ?_);exact Qa5 (t:=Qcv) (ss:=fun o=>⟨[],[1]⟩) h ⟨[0],rfl,.refl _,.refl _,rfl⟩
 | false =>
  refine bF ?_;refine Q9q (a:=([]:List Qak)) (b:=p0) (c:=Qar) h (.refl _) (.refl _) (fun _=>rfl) (.inl rfl) (fun r hi h=>?_);refine Exists.intro _ (And.intro (Le.refl _ _ _) ?_);exact Qa5 (t:=Qcv) (ss:=fun o=>⟨[],[1]⟩) h ⟨[0],rfl,.refl _,.refl _,rfl⟩
instance Qyy:Lean.Order.CCPO ((List UInt8)→Bool→(List (Qaf×Int))→Option (((List UInt8)×Bool×(List (Qaf×Int)))⊕((List UInt8)×Bool×(List (Qaf×Int))))):=inferInstance
instance Qyz:Lean.Order.CCPO ((List Qaa)→(List Qak)→Int→(List UInt8)→Bool→(List (Qaf×Int))→Option (((List UInt8)×Bool×(List (Qaf×Int)))⊕((List UInt8)×Bool×(List (Qaf×Int))))):=inferInstance
mutual
def Qa8 (p1:(List UInt8)) (p2:(List Qaa)) (p3:(List Qak)) (h0_0:(List Qac)) (h0_2:(List UInt8)) (h0_3:Bool) (h1_0:(List (Qaf×Int))):Option ((List UInt8)×Bool×(List (Qaf×Int))) :=
 (Qa9 p1 p2 p3 h0_0 0 h0_2 h0_3 h1_0)>>=fun o1 =>
 match o1 with
 | .inl y2 =>
  some (y2.1,y2.2.1,y2.2.2)
 | .inr y3 =>
  some (y3.1,y3.2.1,y3.2.2)
 partial_fixpoint
def Qa9 (p1:(List UInt8)) (p2:(List Qaa)) (p3:(List Qak)) (h0_0:(List Qac)) (v14:Int) (h0_2_:(List UInt8)) (h0_3_:Bool) (h1_0_:(List (Qaf×Int))):Option (((List UInt8)×Bool×(List (Qaf×Int)))⊕((List UInt8)×Bool×(List (Qaf×Int)))) :=
 if(decide (v14<(p2.length:Int))) then
  idx p2 v14>>=fun x4 =>
  if h0_3_ then
   some (.inr (h0_2_,h0_3_,h1_0_))
  else
   if(x4.Kind==8) then
    Qa9 p1 p2 p3 h0_0 (wr (v14+1)) h0_2_ h0_3_ h1_0_
   else
    idx x4.L 0>>=fun x5 =>
    Qd8 x5 p3>>=fun x6 =>
    Qbm p3>>=fun x7 =>
    ( if(x4.Kind==9) then
      if x6 then
       Qh0>>=fun x12 =>
       some (.inl x7)
      else
       some (.inl x7)
     else
      ( if(x4.Kind==10) then
        some (x4.Kind==10)
       else
        some (x4.Kind==11):Option (Bool))>>=fun o13 =>
      if o13 then
       if x6 then
        some (.inr (.inr ()))
       else
        if(x4.Kind==11) then
         appL 32 x7 [(Qak.mk x4.Name 0 false)]>>=fun x14 =>
         some (.inl x14)
        else
         some (.inl x7)
      else
       if(x4.Kind==12) then
        appL 32 x7 [(Qak.mk x4.Name 0 x6)]>>=fun x15 =>
        some (.inl x15)
       else
        if(x4.Kind==13) then
         Qea (Qaf.mk x4.Name x6) h0_0 h0_2_ h0_3_ h1_0_>>=fun x16 =>
         some (.inr (.inl (x16.1,x16.2.1,x16.2.2)))
        else
         some (.inl x7):Option ((List Qak)⊕((List UInt8)×Bool×(List (Qaf×Int)))⊕Unit))>>=fun o8 =>
    match o8 with
    | .inl y9 =>
     Qa8 p1 x4.Then y9 h0_0 h0_2_ h0_3_ h1_0_>>=fun x17 =>
     Qa8 p1 x4.Else p3 h0_0 x17.1 x17.2.1 x17.2.2>>=fun x18 =>
     Qa9 p1 p2 p3 h0_0 (wr (v14+1)) x18.1 x18.2.1 x18.2.2
    | .inr (.inl y10) =>
     Qa9 p1 p2 p3 h0_0 (wr (v14+1)) y10.1 y10.2.1 y10.2.2
    | .inr (.inr y11) =>
     some (.inr (p1,true,h1_0_))
 else
  some (.inl (h0_2_,h0_3_,h1_0_))
 partial_fixpoint
def Qea (p1:Qaf) (h0_0:(List Qac)) (h0_2:(List UInt8)) (h0_3:Bool) (h1_0:(List (Qaf×Int))):Option ((List UInt8)×Bool×(List (Qaf×Int))) :=
 if(decide (((mget (fun(a b:Qaf)=>(a.name_==b.name_&&(a.it_==b.it_&&true))) p1 h1_0).getD 0)>0)) then
  some (h0_2,h0_3,h1_0)
 else
  Qf7 h0_0 p1.name_>>=fun x1 =>
  Qa8 p1.name_ x1.1 ([(Qak.mk [103,114,111,117,112] 0 false),(Qak.mk [105,116] 0 p1.it_)]) h0_0 h0_2 h0_3 (mset (fun(a b:Qaf)=>(a.name_==b.name_&&(a.it_==b.it_&&true))) p1 1 h1_0)>>=fun x2 =>
  some (x2.1,x2.2.1,x2.2.2)
 partial_fixpoint
end
theorem Qnn:∀ (h0_0:(List Qac)),(∀ (p1:(List UInt8)) (p2:(List Qaa)) (p3:(List Qak)) (h0_2:(List UInt8)) (h0_3:Bool) (h1_0:(List (Qaf×Int))) (o:(List UInt8)×Bool×(List (Qaf×Int))),Qa8 p1 p2 p3 h0_0 h0_2 h0_3 h1_0=some o→CallOK Tryz.prog 85 [.ptr 0 0,.p (sV p1),.p (.sl false (p2.map Qab)),.p (.sl false (p3.map Qar))] ⟨[[.p (.sl false (h0_0.map Qah)),.mh 1,.p (sV h0_2),.p (bV h0_3),.fn (.func 62) [] []],[mpD (fun x =>.agg (Qam x)) iV h1_0]],[]⟩ (Qd2 o) ⟨[[.p (.sl false (h0_0.map Qah)),.mh 1,.p (sV o.1),.p (bV o.2.1),.fn (.func 62) [] []],[mpD (fun x =>.agg (Qam x)) iV o.2.2]],[]⟩)∧(∀ (p1:(List UInt8)) (p2:(List Qaa)) (p3:(List Qak)) (v14:Int) (h0_2_:(List UInt8)) (h0_3_:Bool) (h1_0_:(List (Qaf×Int))) (o1:((List UInt8)×Bool×(List (Qaf×Int)))⊕((List UInt8)×Bool×(List (Qaf×Int)))),Qa9 p1 p2 p3 h0_0 v14 h0_2_ h0_3_ h1_0_=some o1→TL (2,0) Tryz.prog 93 Qmu (JP2 (2,0) 93 o1 (.exit 0) (Qgc p1 p2 p3 h0_0) .ret (Qgd p1 p2 p3 h0_0)) (Qb6 p1 p2 p3 h0_0 v14 h0_2_ h0_3_ h1_0_))∧(∀ (p1:Qaf) (h0_2:(List UInt8)) (h0_3:Bool) (h1_0:(List (Qaf×Int))) (o:(List UInt8)×Bool×(List (Qaf×Int))),Qea p1 h0_0 h0_2 h0_3 h1_0=some o→CallOK Tryz.prog 117 [.ptr 0 0,.p (.agg [sV p1.name_,bV p1.it_])] ⟨[[.p (.sl false (h0_0.map Qah)),.mh 1,.p (sV h0_2),.p (bV h0_3),.fn (.func 62) [] []],[mpD (fun x =>.agg (Qam x)) iV h1_0]],[]⟩ (Qgg o) ⟨[[.p (.sl false (h0_0.map Qah)),.mh 1,.p (sV o.1),.p (bV o.2.1),.fn (.func 62) [] []],[mpD (fun x =>.agg (Qam x)) iV o.2.2]],[]⟩):=by
 intro h0_0;refine Qa8.mutual_partial_correctness h0_0 _ _ _ ?_ ?_ ?_
 ·intro Qa9' iQa9 p1 p2 p3 h0_2 h0_3 h1_0 o h;refine CallOK.ofB mixed tbOk Qhv Tryz.func85 rfl (by kernel_rfl) (Nat.le_of_ble_eq_true rfl) rfl rfl rfl ?_;refine view (Qej _ _) rfl ?_;refine Qal h (fun o1 ho hk=>?_);refine Exists.intro (JP2 _ _ o1 (.exit 0) (Qgc p1 p2 p3 h0_0) .ret (Qgd p1 p2 p3 h0_0)) (And.intro (Qk2 (τ := Qb6 p1 p2 p3 h0_0 0 h0_2 h0_3 h1_0) ?_ (TL.loop (iQa9 p1 p2 p3 0 h0_2 h0_3 h1_0 o1 ho))) (Qjy (fun y2 hy=>?_) (fun y3 hy=>?_)))
  ·exact Le.tz 2 0 rfl rfl rfl
  ·have h:=(by rw[hy] at hk; exact hk);refine Exists.intro _ (And.intro (Le.refl _ _ _) ?_);refine Qa5 (t:=Qd2) (ss:=fun o=>⟨[[.p (.sl false (h0_0.map Qah)),.mh 1,.p (sV o.1),.p (bV o.2.1),.fn (.func 62) [] []],[mpD (fun x =>.agg (Qam x)) iV o.2.2]],[]⟩) h ?_;exact⟨[],rfl,.refl _,.refl _,rfl⟩
  ·have h:=(by rw[hy] at hk; exact hk);refine Exists.intro _ (And.intro (Le.refl _ _ _) ?_);refine Qa5 (t:=Qd2) (ss:=fun o=>⟨[[.p (.sl false (h0_0.map Qah)),.mh 1,.p (sV o.1),.p (bV o.2.1),.fn (.func 62) [] []],[mpD (fun x =>.agg (Qam x)) iV o.2.2]],[]⟩) h ?_;exact⟨[],rfl,.refl _,.refl _,rfl⟩
 ·intro Qa8' Qa9' Qea' iQa8 iQa9 iQea p1 p2 p3 v14 h0_2_ h0_3_ h1_0_ o1 h;refine TL.round (Qas mixed tbOk (lv:=Qhv) _ _ _ ?_);refine Qae h (fun hb h=>?_) (fun hb h=>?_)
  ·refine Qco (l:=p2) (c:=Qab) (c' := Qbh) h Qap (fun _=>rfl) (by decide) (fun x4 hi h=>?_);refine Qae h (fun hb h=>?_) (fun hb h=>?_)
   ·exact JP2.b h (Le.trans (τ := ⟨[],⟨[[.p (.sl false (h0_0.map Qah)),.mh 1,.p (sV h0_2_),.p (bV h0_3_),.fn (.func 62) [] []],[mpD (fun x =>.agg (Qam x)) iV h1_0_],[.p (iV x4.Kind),.p (sV x4.Name),.p (sV x4.Text),.p (iV x4.N),.p (.sl false (x4.L.map Qab)),.p (.sl false (x4.Then.map Qab)),.p (.sl false (x4.Else.map Qab))]],[]⟩⟩) (Le.weak (.nil) (.refl _) rfl) (Le.tz 2 0 rfl rfl rfl))
   ·refine Qae h (fun hb h=>?_) (fun hb h=>?_)
    ·refine TL.le (τ := Qb6 p1 p2 p3 h0_0 (wr (v14+1)) h0_2_ h0_3_ h1_0_) ?_ ((iQa9 p1 p2 p3 (wr (v14+1)) h0_2_ h0_3_ h1_0_ _ h));exact Le.tz 2 0 rfl rfl rfl
    ·refine Qco (l:=x4.L) (c:=Qab) (c' := Qbh) h Qap (fun _=>rfl) (by decide) (fun x5 hi h=>?_);refine Qat [.agg [iV x5.Kind,sV x5.Name,sV x5.Text,iV x5.N,.sl false (x5.L.map Qab),.sl false (x5.Then.map Qab),.sl false (x5.Else.map Qab)],.sl false (p3.map Qar)] Qcp h (fun x6 hy=>(Qqh x5 p3 x6 hy)) (fun x6 hy h=>?_);refine Qan _ _ h (fun x7 hy=>((Qd9 p3 x7 hy).fr [] [] rfl rfl rfl)) (fun x7 hy h=>?_);refine Qal h (fun o8 ho hk=>?_);refine Exists.intro (JP3 _ _ o8 .normal (Qmq p1 p2 p3 h0_0 v14 h0_2_ h0_3_ h1_0_ x4) (.exit 1) (Qmr p1 p2 p3 h0_0 v14 h0_2_ h0_3_ h1_0_ x4) .ret (Qms p1 p2 p3 h0_0 v14 h0_2_ h0_3_ h1_0_ x4)) (And.intro ?_ (Qaic (fun y9 hy=>?_) (fun y10 hy=>?_) (fun y11 hy=>?_)))
     ·have h:=ho;refine Qae h (fun hb h=>?_) (fun hb h=>?_)
      ·refine Qae h (fun hb h=>?_) (fun hb h=>?_)
       ·refine Qat [] Qi0 h (fun x12 hy=>(Qtz x12 hy)) (fun x12 hy h=>?_);refine JP3.a h ?_;exact Le.tz 3 1 rfl rfl rfl
       ·refine JP3.a h ?_;exact Le.tz 3 1 rfl rfl rfl
      ·refine Qal h (fun o13 ho hk=>?_);refine Exists.intro (JP1 _ _ o13 .normal (Qmt p1 p2 p3 h0_0 v14 h0_2_ h0_3_ h1_0_ x4 x6 x7)) (And.intro ?_ (Qbb ?_))
       ·have h:=ho;refine Qae h (fun hb h=>?_) (fun hb h=>?_)
        ·refine JP1.a h ?_;exact Le.tz 3 1 rfl rfl rfl
        ·refine JP1.a h ?_;exact Le.tz 3 1 rfl rfl rfl
       ·have h:=hk;refine Qae h (fun hb h=>?_) (fun hb h=>?_)
        ·refine Qae h (fun hb h=>?_) (fun hb h=>?_)
         ·refine JP3.c h ?_;exact Le.tz 3 1 rfl rfl rfl
         ·refine Qae h (fun hb h=>?_) (fun hb h=>?_)
          ·refine Qn2 (a:=x7) (b:=[(Qak.mk x4.Name 0 false)]) (c:=Qar) h (.refl _) (fun _=>rfl) rfl (fun x14 hi h=>?_);refine JP3.a h ?_;exact Le.trans (τ := ⟨[(0,.ptr 0 0),(1,.p (sV p1)),(3,.p (.sl false (p3.map Qar))),(9,.ptr 2 0),(11,.x 0 2 (.sl 46 3 (x14.map Qar))),(12,.p (.sl false (p2.map Qab))),(13,.p (iV (p2.length:Int))),(14,.p (iV v14))],⟨[[.p (.sl false (h0_0.map Qah)),.mh 1,.p (sV h0_2_),.p (bV h0_3_),.fn (.func 62) [] []],[mpD (fun x =>.agg (Qam x)) iV h1_0_],[.p (iV x4.Kind),.p (sV x4.Name),.p (sV x4.Text),.p (iV x4.N),.p (.sl false (x4.L.map Qab)),.p (.sl false (x4.Then.map Qab)),.p (.sl false (x4.Else.map Qab))]],[2]⟩⟩) (Le.tz 3 1 rfl rfl rfl) ((Le.ver (.s 11) 0 2 1 rfl rfl rfl rfl).trans (Le.tz 3 1 rfl rfl rfl))
          ·refine JP3.a h ?_;exact Le.tz 3 1 rfl rfl rfl
        ·refine Qae h (fun hb h=>?_) (fun hb h=>?_)
         ·refine Qn2 (a:=x7) (b:=[(Qak.mk x4.Name 0 x6)]) (c:=Qar) h (.refl _) (fun _=>rfl) rfl (fun x15 hi h=>?_);refine JP3.a h ?_;exact Le.trans (τ := ⟨[(0,.ptr 0 0),(1,.p (sV p1)),(3,.p (.sl false (p3.map Qar))),(9,.ptr 2 0),(11,.x 0 2 (.sl 46 3 (x15.map Qar))),(12,.p (.sl false (p2.map Qab))),(13,.p (iV (p2.length:Int))),(14,.p (iV v14))],⟨[[.p (.sl false (h0_0.map Qah)),.mh 1,.p (sV h0_2_),.p (bV h0_3_),.fn (.func 62) [] []],[mpD (fun x =>.agg (Qam x)) iV h1_0_],[.p (iV x4.Kind),.p (sV x4.Name),.p (sV x4.Text),.p (iV x4.N),.p (.sl false (x4.L.map Qab)),.p (.sl false (x4.Then.map Qab)),.p (.sl false (x4.Else.map Qab))]],[2]⟩⟩) (Le.tz 3 1 rfl rfl rfl) ((Le.ver (.s 11) 0 2 1 rfl rfl rfl rfl).trans (Le.tz 3 1 rfl rfl rfl))
         ·refine Qae h (fun hb h=>?_) (fun hb h=>?_)
          ·refine Qan _ _ h (fun x16 hy=>((iQea (Qaf.mk x4.Name x6) h0_2_ h0_3_ h1_0_ x16 hy).fr [0,1] [] rfl rfl rfl)) (fun x16 hy h=>?_);refine JP3.b h ?_;exact Le.tz 3 1 rfl rfl rfl
          ·refine JP3.a h ?_;exact Le.tz 3 1 rfl rfl rfl
     ·have h:=(by rw[hy] at hk; exact hk);refine Exists.intro _ (And.intro (Le.frzv (.s 11) 0 1 rfl rfl rfl rfl) ?_);refine Qan _ _ h (fun x17 hy=>((iQa8 p1 x4.Then y9 h0_2_ h0_3_ h1_0_ x17 hy).fr [0,1] [] rfl rfl rfl)) (fun x17 hy h=>?_);refine Qan _ _ h (fun x18 hy=>((iQa8 p1 x4.Else p3 x17.1 x17.2.1 x17.2.2 x18 hy).fr [0,1] [] rfl rfl rfl)) (fun x18 hy h=>?_);refine TL.le (τ := Qb6 p1 p2 p3 h0_0 (wr (v14+1)) x18.1 x18.2.1 x18.2.2) ?_ ((iQa9 p1 p2 p3 (wr (v14+1)) x18.1 x18.2.1 x18.2.2 _ h));exact Le.tz 2 0 rfl rfl rfl
     ·have h:=(by rw[hy] at hk; exact hk);refine TL.le (τ := Qb6 p1 p2 p3 h0_0 (wr (v14+1)) y10.1 y10.2.1 y10.2.2) ?_ ((iQa9 p1 p2 p3 (wr (v14+1)) y10.1 y10.2.1 y10.2.2 _ h));exact Le.tz 2 0 rfl rfl rfl
     ·have h:=(by rw[hy] at hk; exact hk);exact JP2.b h (Le.tz 2 0 rfl rfl rfl)
  ·exact JP2.a h (Le.tz 2 0 rfl rfl rfl)
 ·intro Qa8' iQa8 p1 h0_2 h0_3 h1_0 o h;refine CallOK.ofB mixed tbOk Qqg Tryz.func117 rfl (by kernel_rfl) (Nat.le_of_ble_eq_true rfl) rfl rfl rfl ?_;refine And.intro (by decide +kernel) (And.intro rfl ?_);refine And.intro rfl ?_;refine Qpo (l:=h1_0) (k:=p1) (fun(a b:Qaf)=>(a.name_==b.name_&&(a.it_==b.it_&&true))) (ck:=(fun x =>.agg (Qam x))) (ca:=iV) (z0:=0) (by exact rfl) (by exact rfl) (by exact rfl) (by exact fun _ _=>rfl) (by exact rfl) (by exact .refl _) ?_;refine Qae h (fun hb h=>?_) (fun hb h=>?_)
  ·refine Exists.intro _ (And.intro (Le.refl _ _ _) ?_);refine Qa5 (t:=Qgg) (ss:=fun o=>⟨[[.p (.sl false (h0_0.map Qah)),.mh 1,.p (sV o.1),.p (bV o.2.1),.fn (.func 62) [] []],[mpD (fun x =>.agg (Qam x)) iV o.2.2]],[]⟩) h ?_;exact⟨[],rfl,.refl _,.refl _,rfl⟩
  ·refine And.intro (by decide +kernel) (And.intro (by decide +kernel) (And.intro rfl ?_));refine Q5u (l:=h1_0) (k:=p1) (x:=1) (fun(a b:Qaf)=>(a.name_==b.name_&&(a.it_==b.it_&&true))) (ck:=(fun x =>.agg (Qam x))) (ca:=iV) (by exact rfl) (by exact rfl) (by exact rfl) (by exact .refl _) (by exact fun _ _=>rfl) ?_;refine And.intro (by decide +kernel) (And.intro rfl ?_);refine Qen [.sl false (h0_0.map Qah),sV p1.name_] Qew h (fun x1 hy=>(Qhq h0_0 p1.name_ x1 hy)) (fun x1 hy h=>?_);refine Qan _ _ h (fun x2 hy=>((iQa8 p1.name_ x1.1 ([(Qak.mk [103,114,111,117,112] 0 false),(Qak.mk [105,116] 0 p1.it_)]) h0_2 h0_3 (mset (fun(a b:Qaf)=>(a.name_==b.name_&&(a.it_==b.it_&&true))) p1 1 h1_0) x2 hy).fr [0,1] [] rfl rfl rfl).weakC (.cons (.refl _) (.cons (.refl _) (.cons (.refl _) (.cons (.p (.not)) (.nil)))))) (fun x2 hy h=>?_);refine Exists.intro _ (And.intro (Le.refl _ _ _) ?_);refine Qa5 (t:=Qgg) (ss:=fun o=>⟨[[.p (.sl false (h0_0.map Qah)),.mh 1,.p (sV o.1),.p (bV o.2.1),.fn (.func 62) [] []],[mpD (fun x =>.agg (Qam x)) iV o.2.2]],[]⟩) h ?_;exact⟨[],rfl,.refl _,.refl _,rfl⟩
theorem Qoh:∀ (p1:(List UInt8)) (p2:(List Qaa)) (p3:(List Qak)) (h0_0:(List Qac)) (h0_2:(List UInt8)) (h0_3:Bool) (h1_0:(List (Qaf×Int))) (o:(List UInt8)×Bool×(List (Qaf×Int))),Qa8 p1 p2 p3 h0_0 h0_2 h0_3 h1_0=some o→CallOK Tryz.prog 85 [.ptr 0 0,.p (sV p1),.p (.sl false (p2.map Qab)),.p (.sl false (p3.map Qar))] ⟨[[.p (.sl false (h0_0.map Qah)),.mh 1,.p (sV h0_2),.p (bV h0_3),.fn (.func 62) [] []],[mpD (fun x =>.agg (Qam x)) iV h1_0]],[]⟩ (Qd2 o) ⟨[[.p (.sl false (h0_0.map Qah)),.mh 1,.p (sV o.1),.p (bV o.2.1),.fn (.func 62) [] []],[mpD (fun x =>.agg (Qam x)) iV o.2.2]],[]⟩:=fun p1 p2 p3 h0_0 h0_2 h0_3 h1_0=>(Qnn h0_0).1 p1 p2 p3 h0_2 h0_3 h1_0
def Qcm (p0:(List Qac)) (p1:(List UInt8)):Option ((List UInt8)×Int) :=
 Qix p0>>=fun x1 =>
 if(x1.2 != 0) then
  some (x1.1,x1.2)
 else
  Qf7 p0 p1>>=fun x2 =>
  if(!x2.2) then
   some ([],4)
  else
   Qa8 p1 x2.1 ([(Qak.mk [103,114,111,117,112] 0 false)]) p0 [] false []>>=fun x3 =>
   if x3.2.1 then
    some (x3.1,205)
   else
    some ([],0)
theorem Qi8:∀ (p0:(List Qac)) (p1:(List UInt8)) (o:(List UInt8)×Int),Qcm p0 p1=some o→CallOK Tryz.prog 61 [.p (.sl false (p0.map Qah)),.p (sV p1),.fn (.func 62) [] []] ⟨[],[]⟩ (Qbk o) ⟨[],[]⟩:=by
 intro p0 p1 o h;unfold Qcm at h;refine CallOK.ofB mixed tbOk Qi1 Tryz.func61 rfl (by kernel_rfl) (Nat.le_of_ble_eq_true rfl) rfl rfl rfl ?_;refine Qat [.sl false (p0.map Qah)] Qd7 h (fun x1 hy=>(Qrw p0 x1 hy)) (fun x1 hy h=>?_);refine Qae h (fun hb h=>?_) (fun hb h=>?_)
 ·refine Exists.intro _ (And.intro (Le.refl _ _ _) ?_);exact Qa5 (t:=Qbk) (ss:=fun o=>⟨[],[]⟩) h ⟨[],rfl,.refl _,.refl _,rfl⟩
 ·refine Qat [.sl false (p0.map Qah),sV p1] Qew h (fun x2 hy=>(Qhq p0 p1 x2 hy)) (fun x2 hy h=>?_);refine Qae h (fun hb h=>?_) (fun hb h=>?_)
  ·refine Exists.intro _ (And.intro (Le.refl _ _ _) ?_);exact Qa5 (t:=Qbk) (ss:=fun o=>⟨[],[]⟩) h ⟨[],rfl,.refl _,.refl _,rfl⟩
  ·refine And.intro rfl (Exists.intro false ?_);refine Qan _ _ h (fun x3 hy=>((Qoh p1 x2.1 ([(Qak.mk [103,114,111,117,112] 0 false)]) p0 [] false [] x3 hy).fr [1,0] [] rfl rfl rfl).weakC (.cons (.refl _) (.cons (.refl _) (.cons (.refl _) (.cons (.p (.not)) (.nil)))))) (fun x3 hy h=>?_);refine Qae h (fun hb h=>?_) (fun hb h=>?_)
   ·refine Exists.intro _ (And.intro (Le.refl _ _ _) ?_);exact Qa5 (t:=Qbk) (ss:=fun o=>⟨[],[]⟩) h ⟨[],rfl,.refl _,.refl _,rfl⟩
   ·refine Exists.intro _ (And.intro (Le.refl _ _ _) ?_);exact Qa5 (t:=Qbk) (ss:=fun o=>⟨[],[]⟩) h ⟨[],rfl,.refl _,.refl _,rfl⟩
def Qeb (p0:(List Qac)) (p1:(List UInt8)):Option ((List UInt8)×Int) :=
 Qcm p0 p1>>=fun x1 =>
 some (x1.1,x1.2)
theorem Qgv:∀ (p0:(List Qac)) (p1:(List UInt8)) (o:(List UInt8)×Int),Qeb p0 p1=some o→PCall Tryz.prog 27 [.sl false (p0.map Qah),sV p1] (Qer o):=by
 intro p0 p1 o h;unfold Qeb at h;refine PCall.ofB mixed tbOk Qv4 Tryz.func27 rfl (by kernel_rfl) (Nat.le_of_ble_eq_true rfl) ?_;refine Qan _ _ h (fun x1 hy=>((Qi8 p0 p1 x1 hy).fr [] [] rfl rfl rfl)) (fun x1 hy h=>?_);refine Qax (t:=Qer) h ?_;exact .refl _
def Qet (h0_0:Int):Option (Int) :=
 some (wr (h0_0+1))
theorem Qt0:∀ (h0_0:Int) (o:Int),Qet h0_0=some o→CallOK Tryz.prog 64 [.ptr 0 0] ⟨[[.p (iV h0_0)]],[]⟩ (Qnl o) ⟨[[.p (iV o)]],[]⟩:=by
 intro h0_0 o h;unfold Qet at h;refine CallOK.ofB mixed tbOk Qtw Tryz.func64 rfl (by kernel_rfl) (Nat.le_of_ble_eq_true rfl) rfl rfl rfl ?_;refine Exists.intro _ (And.intro (Le.refl _ _ _) ?_);exact Qa5 (t:=Qnl) (ss:=fun o=>⟨[[.p (iV o)]],[]⟩) h ⟨[],rfl,.refl _,.refl _,rfl⟩
instance Qza:Lean.Order.CCPO (Bool→(List (Qaf×Int))→Int→Option ((List UInt8)×Bool×(List (Qaf×Int))×Int)):=inferInstance
instance Qzb:Lean.Order.CCPO ((List Qaa)→(List Qak)→(List UInt8)→Bool→(List (Qaf×Int))→Int→Option ((List UInt8)×Bool×(List (Qaf×Int))×Int)):=inferInstance
instance Qv7:Lean.Order.CCPO (Bool→(List (Qaf×Int))→Int→Option (((List UInt8)×Bool×(List (Qaf×Int))×Int)⊕((List UInt8)×Bool×(List (Qaf×Int))×Int))):=inferInstance
instance Qv8:Lean.Order.CCPO ((List Qak)→Int→(List UInt8)→Bool→(List (Qaf×Int))→Int→Option (((List UInt8)×Bool×(List (Qaf×Int))×Int)⊕((List UInt8)×Bool×(List (Qaf×Int))×Int))):=inferInstance
end Go.Proofs.YtfgegilhjlnohaaGreat
end
