/- The proof's texts, part 7 of 12: the walks by a logic in which data are by value, the plain laws, and at the end the law, for every input. -/
import Derived.Test.YtagokkpnfceidaaGreatDoorMgParseTrees6

noncomputable section
set_option linter.unusedVariables false
set_option linter.unusedSimpArgs false
set_option maxRecDepth 100000
set_option maxHeartbeats 4000000
namespace Go.Proofs.YtagokkpnfceidaaGreatDoor
open Go.RowKit
structure Qab where
 Kind:Int
 Name:(List UInt8)
 Text:(List UInt8)
 N:Int
 L:(List Qab)
 Then:(List Qab)
 Else:(List Qab)
mutual
def Qae:Qab→List V
 | ⟨x0,x1,x2,x3,x4,x5,x6⟩=>[iV x0,sV x1,sV x2,iV x3,.sl false (Qjo x4),.sl false (Qjo x5),.sl false (Qjo x6)]
def Qjo:List Qab→List (List V)
 | []=>[]
 | x::r=>Qae x::Qjo r
end
theorem Qqm:∀ l:List Qab,Qjo l=l.map Qae
 | []=>rfl
 | x::r=>by rw[Qjo,Qqm r]; rfl
def Qa1 (x:Qab):List V:=[iV x.Kind,sV x.Name,sV x.Text,iV x.N,.sl false (x.L.map Qae),.sl false (x.Then.map Qae),.sl false (x.Else.map Qae)]
theorem Qai(x:Qab):Qae x=Qa1 x:=by cases x; simp[Qae,Qa1,Qqm]
structure Qaa where
 Kind:Int
 Text:(List UInt8)
 N:Int
 From:Int
 To:Int
def Qad (x:Qaa):List V:=[iV x.Kind,sV x.Text,iV x.N,iV x.From,iV x.To]
structure Qkv where
 c_:Int
 k_:Int
def Qh4 (y:Bool):D :=.p (bV y)
def Q3i:List (Nat×List Nat):=[(0,[0,1,2]),(1,[6]),(3000001,[])]
def Qza  (o1:Bool):St:=⟨[(6,.p (bV o1))],⟨[],[]⟩⟩
def Qwj (y:(List UInt8)):D :=.p (sV y)
def Qzb:List (Nat×List Nat):=[(0,[0,1]),(1,[0,1,5]),(2,[0,1,5,6]),(3,[0,1,5,6,10]),(4,[0,1,5,6]),(5,[0,1,5,6,14]),(6,[0,1,5,6]),(7,[0,1,5,6]),(8,[4]),(1000003,[0,1,5,6])]
def Qj7 (p0:(List (List UInt8))) (p1:(List UInt8)) (v5:(List UInt8)) (v6:Int):St:=⟨[(0,.p (.sl false (p0.map cStr))),(1,.p (sV p1)),(5,.p (sV v5)),(6,.p (iV v6))],⟨[],[]⟩⟩
def Qtc (p0:(List (List UInt8))) (p1:(List UInt8)) (o1:(List UInt8)):St:=⟨[(5,.p (sV o1))],⟨[],[]⟩⟩
def Q3j:Code:=((Qbc (Tryz.f74.body.getD .skip)).getD 0 .skip)
def Qw7 (y:Int×Bool):D :=.tup [.p (iV y.1),.p (bV y.2)]
def Q2b (y:(List UInt8)):D :=.p (sV y)
def Qjp (y:(List UInt8)):D :=.p (sV y)
def Q64:List (Nat×List Nat):=[(0,[0]),(1,[0,5]),(2,[0]),(3,[0,7]),(4,[2]),(5,[0,13]),(6,[2]),(7,[0,25]),(8,[2]),(9,[2]),(2001005,[])]
def Q08  (o1:Int):St:=⟨[(0,.p (iV o1))],⟨[],[]⟩⟩
def Qx9 (y:Bool):D :=.p (bV y)
def Q65:List (Nat×List Nat):=[(0,[0]),(1,[0,3]),(2,[0,3,9]),(3,[0,3,4,5]),(4,[0,3,5,21]),(5,[2]),(6,[0,3]),(7,[2]),(1000002,[0,3]),(3000004,[])]
def Q9r (p0:(List UInt8)) (v3:Int) (x4:Int×Int) (o5:Bool):St:=⟨[(0,.p (sV p0)),(3,.p (iV v3)),(5,.p (iV x4.2)),(21,.p (bV o5))],⟨[],[]⟩⟩
def Qqn (p0:(List UInt8)) (v3:Int):St:=⟨[(0,.p (sV p0)),(3,.p (iV v3))],⟨[],[]⟩⟩
def Qw8 (p0:(List UInt8)) (y2:Unit):St:=⟨[],⟨[],[]⟩⟩
def Qw9 (p0:(List UInt8)) (y3:Unit):St:=⟨[(2,.p (bV false))],⟨[],[]⟩⟩
def Q9s:Code:=((Qbc (Tryz.f100.body.getD .skip)).getD 0 .skip)
def Qlp (y:Int×Int):D :=.tup [.p (iV y.1),.p (iV y.2)]
def Qt6:List (Nat×List Nat):=[(0,[0,1]),(1,[0,1,17]),(2,[4,5]),(3,[0,1,6]),(4,[0,1,6,7]),(5,[0,1,6,7,28]),(6,[0,1,6,7]),(7,[0,1,6,7,8]),(8,[0,1,6,7,8,9]),(9,[0,1,6,7,8,9,42]),(10,[0,1,6,7,8,9]),(11,[0,1,6,7,8,9]),(12,[0,1,6,7,8,71]),(13,[4,5]),(14,[4,5]),(1000005,[0,1,6,7]),(1000009,[0,1,6,7,8,9]),(3000001,[]),(3000005,[]),(3000012,[])]
def Q3k (p0:(List UInt8)) (p1:Int) (o1:Bool):St:=⟨[(0,.p (sV p0)),(1,.p (iV p1)),(17,.p (bV o1))],⟨[],[]⟩⟩
def Q3l (p0:(List UInt8)) (p1:Int) (v6:(List Int)) (v7:Int) (o5:Bool):St:=⟨[(0,.p (sV p0)),(1,.p (iV p1)),(6,.p (.sl true (v6.map cInt))),(7,.p (iV v7)),(28,.p (bV o5))],⟨[],[]⟩⟩
def Qni (p0:(List UInt8)) (p1:Int) (v6:(List Int)) (v7:Int) (v8:Int) (v9:Int):St:=⟨[(0,.p (sV p0)),(1,.p (iV p1)),(6,.p (.sl true (v6.map cInt))),(7,.p (iV v7)),(8,.p (iV v8)),(9,.p (iV v9))],⟨[],[]⟩⟩
def Qtd (p0:(List UInt8)) (p1:Int) (v6:(List Int)) (v7:Int) (o8:Int):St:=⟨[(0,.p (sV p0)),(1,.p (iV p1)),(6,.p (.sl true (v6.map cInt))),(7,.p (iV v7)),(8,.p (iV o8))],⟨[],[]⟩⟩
def Q3m:Code:=((Qbc (Tryz.f94.body.getD .skip)).getD 1 .skip)
def Q3n (p0:(List UInt8)) (p1:Int) (v6:(List Int)) (v7:Int) (o8:Int) (o10:Bool):St:=⟨[(0,.p (sV p0)),(1,.p (iV p1)),(6,.p (.sl true (v6.map cInt))),(7,.p (iV v7)),(8,.p (iV o8)),(71,.p (bV o10))],⟨[],[]⟩⟩
def Qnj (p0:(List UInt8)) (p1:Int) (v6:(List Int)) (v7:Int):St:=⟨[(0,.p (sV p0)),(1,.p (iV p1)),(6,.p (.sl true (v6.map cInt))),(7,.p (iV v7))],⟨[],[]⟩⟩
def Qte (p0:(List UInt8)) (p1:Int) (y3:Unit):St:=⟨[],⟨[],[]⟩⟩
def Qtf (p0:(List UInt8)) (p1:Int) (y4:Int×Int):St:=⟨[(4,.p (iV y4.1)),(5,.p (iV y4.2))],⟨[],[]⟩⟩
def Q3o:Code:=((Qbc (Tryz.f94.body.getD .skip)).getD 0 .skip)
def Qr8 (y:Bool):D :=.p (bV y)
def Q9t:List (Nat×List Nat):=[(0,[0]),(1,[2]),(3000001,[])]
def Q3p  (o1:Bool):St:=⟨[(2,.p (bV o1))],⟨[],[]⟩⟩
def Qjq (y:(List UInt8)×Bool):D :=.tup [.p (sV y.1),.p (bV y.2)]
def Qxa:List (Nat×List Nat):=[(0,[0]),(1,[0,9]),(2,[2,3]),(3,[0,4]),(4,[0,4,5]),(5,[0,4,5,13]),(6,[0,4,5]),(7,[0,4,5,6]),(8,[0,4,5,6,22]),(9,[2,3]),(10,[0,4,5,6,24]),(11,[0,4,5,6]),(12,[0,4,5,6,26]),(13,[0,4,5,6]),(14,[0,4,5,6,32]),(15,[0,4,5,6]),(16,[0,4,5]),(17,[2,3]),(1000005,[0,4,5]),(2010013,[]),(3000014,[])]
def Q09 (p0:(List UInt8)) (v4:(List UInt8)) (v5:Int) (o6:(List UInt8)):St:=⟨[(0,.p (sV p0)),(4,.p (sV v4)),(5,.p (iV v5)),(6,.p (sV o6))],⟨[],[]⟩⟩
def Q1a (p0:(List UInt8)) (v4:(List UInt8)) (v5:Int) (x5:(List UInt8)) (o7:Bool):St:=⟨[(0,.p (sV p0)),(4,.p (sV v4)),(5,.p (iV v5)),(6,.p (sV x5)),(32,.p (bV o7))],⟨[],[]⟩⟩
def Qlz (p0:(List UInt8)) (v4:(List UInt8)) (v5:Int):St:=⟨[(0,.p (sV p0)),(4,.p (sV v4)),(5,.p (iV v5))],⟨[],[]⟩⟩
def Qqo (p0:(List UInt8)) (y3:(List UInt8)):St:=⟨[(4,.p (sV y3))],⟨[],[]⟩⟩
def Qqp (p0:(List UInt8)) (y4:Unit):St:=⟨[(2,.p (sV [])),(3,.p (bV false))],⟨[],[]⟩⟩
def Q1b:Code:=((Qbc (Tryz.f72.body.getD .skip)).getD 0 .skip)
def Qkf (y:(List Qaa)×Int×Int):D :=.tup [.p (.sl false (y.1.map Qad)),.p (iV y.2.1),.p (iV y.2.2)]
def Qou:List (Nat×List Nat):=[(0,[0]),(1,[0,12]),(2,[2,3,4]),(3,[0,5]),(4,[0,5,6]),(5,[0,5,6,17]),(6,[0,5,6,7]),(7,[0,5,6,7,23]),(8,[0,5,7]),(9,[0,5,7,37]),(10,[2,3,4]),(11,[0,5,7]),(12,[0,5,6]),(13,[0,5,6,52]),(14,[0,5,6]),(15,[0,5,6]),(16,[0,5,6,62]),(17,[2,3,4]),(18,[0,5,6,8,9]),(19,[0,5,6,8,71]),(20,[2,3,4]),(21,[0,5,8]),(22,[0,5,6,8]),(23,[0,5,6,81]),(24,[2,3,4]),(1000005,[0,5,6]),(1000015,[0,5,6]),(2007005,[]),(2013005,[])]
def Qzc (p0:(List UInt8)) (x4:Int) (o5:(List Qaa)):St:=⟨[(0,.p (sV p0)),(5,.own 0 59 5 (o5.map Qad)),(7,.p (iV x4))],⟨[],[(o5.map Qad).length]⟩⟩
def Qzd (p0:(List UInt8)) (x8:(List Qaa)) (o10:Int):St:=⟨[(0,.p (sV p0)),(5,.own 0 59 5 (x8.map Qad)),(6,.p (iV o10))],⟨[],[(x8.map Qad).length]⟩⟩
def Qkw (p0:(List UInt8)) (v5_:(List Qaa)) (v6_:Int):St:=⟨[(0,.p (sV p0)),(5,.own 0 59 5 (v5_.map Qad)),(6,.p (iV v6_))],⟨[],[(v5_.map Qad).length]⟩⟩
def Qpg (p0:(List UInt8)) (y14:(List Qaa)×Int):St:=⟨[(0,.p (sV p0)),(5,.own 0 59 5 (y14.1.map Qad)),(6,.p (iV y14.2))],⟨[],[(y14.1.map Qad).length]⟩⟩
def Qph (p0:(List UInt8)) (y15:Int):St:=⟨[(2,.p (.sl true [])),(3,.p (iV y15)),(4,.p (iV 7))],⟨[],[]⟩⟩
def Qze:Code:=((Qbc (Tryz.f20.body.getD .skip)).getD 1 .skip)
def Qkx (p0:(List UInt8)) (v5:(List Qaa)) (v6:Int):St:=⟨[(0,.p (sV p0)),(5,.own 0 59 5 (v5.map Qad)),(6,.p (iV v6))],⟨[],[(v5.map Qad).length]⟩⟩
def Qpi (p0:(List UInt8)) (y2:(List Qaa)):St:=⟨[(5,.own 0 59 5 (y2.map Qad))],⟨[],[(y2.map Qad).length]⟩⟩
def Qpj (p0:(List UInt8)) (y3:(List Qaa)×Int×Int):St:=⟨[(2,.p (.sl false (y3.1.map Qad))),(3,.p (iV y3.2.1)),(4,.p (iV y3.2.2))],⟨[],[]⟩⟩
def Qzf:Code:=((Qbc (Tryz.f20.body.getD .skip)).getD 0 .skip)
def Qgo (y:Bool):D :=.p (bV y)
def Qzg:List (Nat×List Nat):=[(0,[0]),(1,[0,17]),(2,[2]),(3,[0,3]),(4,[0,3,21]),(5,[0,3]),(6,[0,3,41]),(7,[2]),(8,[2]),(1000004,[0,3]),(3000001,[]),(3000006,[])]
def Q3q (p0:(List UInt8)) (o1:Bool):St:=⟨[(0,.p (sV p0)),(17,.p (bV o1))],⟨[],[]⟩⟩
def Q3r (p0:(List UInt8)) (v3:Int) (o7:Bool):St:=⟨[(0,.p (sV p0)),(3,.p (iV v3)),(41,.p (bV o7))],⟨[],[]⟩⟩
def Qnk (p0:(List UInt8)) (v3:Int):St:=⟨[(0,.p (sV p0)),(3,.p (iV v3))],⟨[],[]⟩⟩
def Qtg (p0:(List UInt8)) (y5:Unit):St:=⟨[],⟨[],[]⟩⟩
def Qth (p0:(List UInt8)) (y6:Unit):St:=⟨[(2,.p (bV false))],⟨[],[]⟩⟩
def Q3s:Code:=((Qbc (Tryz.f64.body.getD .skip)).getD 0 .skip)
def Qt7 (y:Bool):D :=.p (bV y)
def Q66:List (Nat×List Nat):=[(0,[0]),(1,[2]),(3000001,[])]
def Q1c  (o1:Bool):St:=⟨[(2,.p (bV o1))],⟨[],[]⟩⟩
def Qmz (y:Int):D :=.p (iV y)
def Qu5:List (Nat×List Nat):=[(0,[0,1]),(1,[0,1,14]),(2,[0,1]),(3,[4]),(1000001,[0,1]),(3000001,[])]
def Qzh (p0:(List UInt8)) (v1:Int) (o2:Bool):St:=⟨[(0,.p (sV p0)),(1,.p (iV v1)),(14,.p (bV o2))],⟨[],[]⟩⟩
def Qky (p0:(List UInt8)) (v1:Int):St:=⟨[(0,.p (sV p0)),(1,.p (iV v1))],⟨[],[]⟩⟩
def Qpk (p0:(List UInt8)) (o1:Int):St:=⟨[(1,.p (iV o1))],⟨[],[]⟩⟩
def Qzi:Code:=((Qbc (Tryz.f39.body.getD .skip)).getD 0 .skip)
def Qjr (y:Bool):D :=.p (bV y)
def Q67:List (Nat×List Nat):=[(0,[0]),(1,[2]),(3000001,[])]
def Q1d  (o1:Bool):St:=⟨[(2,.p (bV o1))],⟨[],[]⟩⟩
def Qr9 (y:Int):D :=.p (iV y)
def Qzj:List (Nat×List Nat):=[(0,[0,1,2]),(1,[0,1,2,17]),(2,[0,1,2]),(3,[6]),(1000001,[0,1,2]),(3000001,[])]
def Q3t (p0:(List UInt8)) (p1:(List UInt8)) (v2:Int) (o2:Bool):St:=⟨[(0,.p (sV p0)),(1,.p (sV p1)),(2,.p (iV v2)),(17,.p (bV o2))],⟨[],[]⟩⟩
def Qnl (p0:(List UInt8)) (p1:(List UInt8)) (v2:Int):St:=⟨[(0,.p (sV p0)),(1,.p (sV p1)),(2,.p (iV v2))],⟨[],[]⟩⟩
def Qti (p0:(List UInt8)) (p1:(List UInt8)) (o1:Int):St:=⟨[(2,.p (iV o1))],⟨[],[]⟩⟩
def Q3u:Code:=((Qbc (Tryz.f38.body.getD .skip)).getD 0 .skip)
def Qkg (y:Qaa×Bool):D :=.tup [.p (.agg [iV y.1.Kind,sV y.1.Text,iV y.1.N,iV y.1.From,iV y.1.To]),.p (bV y.2)]
def Qsa:List (Nat×List Nat):=[(0,[0,1,4]),(1,[0,1,4,6]),(2,[0,1,4,6,7]),(3,[0,1,4,6,7,24]),(4,[1,4,6]),(5,[4,6]),(6,[4,5]),(7,[0,1,4,6,7,8]),(8,[0,1,4,6,7,8,9]),(9,[0,1,4,6,7,8,9,33]),(10,[0,1,4,6,7,8,9]),(11,[0,1,4,6,7,8,9,40]),(12,[4,6]),(13,[4,5]),(14,[0,1,4,6,7,48]),(15,[1,4,10,11]),(16,[4,5]),(17,[0,1,4,6,7,12]),(18,[0,1,4,6,7,12,64]),(19,[0,1,4,12,86]),(20,[0,1,4,12]),(21,[4,5]),(22,[0,1,4,6,12,106]),(23,[0,1,4,12,116]),(24,[0,1,4,12]),(25,[1,4,12,13,14]),(26,[4,5]),(27,[4,5]),(1000009,[0,1,4,6,7,8,9]),(1000019,[0,1,4,12]),(1000023,[0,1,4,12]),(3000019,[]),(3000022,[]),(3000023,[])]
def Qov (p0:(List UInt8)) (p1:Int) (x1:UInt8) (v9:Int):St:=⟨[(0,.p (sV p0)),(1,.p (iV p1)),(4,.ptr 0 0),(6,.ptr 1 0),(7,.p (nV .u8 (x1.toNat:Int))),(8,.p (sV [46,40,41,44,61])),(9,.p (iV v9))],⟨[[.p (iV 0),.p (sV []),.p (iV 0),.p (iV 0),.p (iV 0)],[.p (iV 0),.p (sV []),.p (iV 0),.p (iV p1),.p (iV (wr (p1+1)))]],[]⟩⟩
def Qu6 (p0:(List UInt8)) (p1:Int) (x1:UInt8) (y4:Unit):St:=⟨[(0,.p (sV p0)),(1,.p (iV p1)),(4,.ptr 0 0),(6,.ptr 1 0),(7,.p (nV .u8 (x1.toNat:Int)))],⟨[[.p (iV 0),.p (sV []),.p (iV 0),.p (iV 0),.p (iV 0)],[.p (iV 0),.p (sV []),.p (iV 0),.p (iV p1),.p (iV (wr (p1+1)))]],[]⟩⟩
def Qu7 (p0:(List UInt8)) (p1:Int) (x1:UInt8) (y5:Int×Int):St:=⟨[(4,.ptr 0 0),(5,.p (bV true))],⟨[[.p (iV y5.1),.p (sV []),.p (iV 0),.p (iV p1),.p (iV (wr (p1+1)))],[.p (iV y5.2),.p (sV []),.p (iV 0),.p (iV p1),.p (iV (wr (p1+1)))]],[]⟩⟩
def Q68:Code:=((Qbc (Tryz.f41.body.getD .skip)).getD 0 .skip)
def Q69 (p0:(List UInt8)) (p1:Int) (v12:Int) (o11:Bool):St:=⟨[(0,.p (sV p0)),(1,.p (iV p1)),(4,.ptr 0 0),(12,.p (iV v12)),(86,.p (bV o11))],⟨[[.p (iV 0),.p (sV []),.p (iV 0),.p (iV 0),.p (iV 0)],[.p (iV 0),.p (sV []),.p (iV 0),.p (iV p1),.p (iV (wr (p1+1)))]],[]⟩⟩
def Qow (p0:(List UInt8)) (p1:Int) (v12:Int):St:=⟨[(0,.p (sV p0)),(1,.p (iV p1)),(4,.ptr 0 0),(12,.p (iV v12))],⟨[[.p (iV 0),.p (sV []),.p (iV 0),.p (iV 0),.p (iV 0)],[.p (iV 0),.p (sV []),.p (iV 0),.p (iV p1),.p (iV (wr (p1+1)))]],[]⟩⟩
def Qu8 (p0:(List UInt8)) (p1:Int) (o10:Int):St:=⟨[(0,.p (sV p0)),(1,.p (iV p1)),(4,.ptr 0 0),(12,.p (iV o10))],⟨[[.p (iV 0),.p (sV []),.p (iV 0),.p (iV 0),.p (iV 0)],[.p (iV 0),.p (sV []),.p (iV 0),.p (iV p1),.p (iV (wr (p1+1)))]],[]⟩⟩
def Q7a:Code:=((Qbc (Tryz.f41.body.getD .skip)).getD 1 .skip)
def Q7b (p0:(List UInt8)) (p1:Int) (o20:Bool):St:=⟨[(0,.p (sV p0)),(1,.p (iV p1)),(4,.ptr 0 0),(6,.ptr 1 0),(12,.p (iV (wr (p1+1)))),(106,.p (bV o20))],⟨[[.p (iV 0),.p (sV []),.p (iV 0),.p (iV 0),.p (iV 0)],[.p (iV 0),.p (sV []),.p (iV 0),.p (iV p1),.p (iV (wr (p1+1)))]],[]⟩⟩
def Q7c (p0:(List UInt8)) (p1:Int) (v12:Int) (o23:Bool):St:=⟨[(0,.p (sV p0)),(1,.p (iV p1)),(4,.ptr 0 0),(12,.p (iV v12)),(116,.p (bV o23))],⟨[[.p (iV 0),.p (sV []),.p (iV 0),.p (iV 0),.p (iV 0)],[.p (iV 0),.p (sV []),.p (iV 0),.p (iV p1),.p (iV (wr (p1+1)))]],[]⟩⟩
def Qox (p0:(List UInt8)) (p1:Int) (v12:Int):St:=⟨[(0,.p (sV p0)),(1,.p (iV p1)),(4,.ptr 0 0),(12,.p (iV v12))],⟨[[.p (iV 0),.p (sV []),.p (iV 0),.p (iV 0),.p (iV 0)],[.p (iV 0),.p (sV []),.p (iV 0),.p (iV p1),.p (iV (wr (p1+1)))]],[]⟩⟩
def Qu9 (p0:(List UInt8)) (p1:Int) (o22:Int):St:=⟨[(0,.p (sV p0)),(1,.p (iV p1)),(4,.ptr 0 0),(12,.p (iV o22))],⟨[[.p (iV 0),.p (sV []),.p (iV 0),.p (iV 0),.p (iV 0)],[.p (iV 0),.p (sV []),.p (iV 0),.p (iV p1),.p (iV (wr (p1+1)))]],[]⟩⟩
def Q7d:Code:=((Qbc (Tryz.f41.body.getD .skip)).getD 2 .skip)
def Qm0 (y:(List UInt8)×Int):D :=.tup [.p (sV y.1),.p (iV y.2)]
def Qva:List (Nat×List Nat):=[(0,[0,1]),(1,[0,1,6]),(2,[0,1,6]),(3,[0,1,6,15]),(4,[0,1,6,19]),(5,[4,5]),(6,[0,1,6,26]),(7,[0,1,6,31]),(8,[4,5]),(9,[0,1,6,7]),(10,[0,1,6,7,37]),(11,[0,1,6]),(12,[0,1,6,7,41]),(13,[0,1,6]),(14,[0,1,6,49]),(15,[0,1,6]),(16,[4,5]),(17,[0,1,6]),(18,[0,1,6,8,9]),(19,[0,1,6,9,79]),(20,[4,5]),(21,[0,1,6,9]),(22,[0,1,6]),(23,[4,5]),(1000003,[0,1,6]),(3000009,[]),(3000014,[]),(3000019,[])]
def Qzk (p0:(List UInt8)) (v1:Int) (v6:(List UInt8)) (o6:Int):St:=⟨[(0,.p (sV p0)),(1,.p (iV v1)),(6,.p (sV v6)),(7,.p (nV .u8 o6))],⟨[],[]⟩⟩
def Qzl (p0:(List UInt8)) (v1:Int) (v6:(List UInt8)) (o8:Bool):St:=⟨[(0,.p (sV p0)),(1,.p (iV v1)),(6,.p (sV v6)),(49,.p (bV o8))],⟨[],[]⟩⟩
def Qzm (p0:(List UInt8)) (v1:Int) (v6:(List UInt8)) (x10:Int×Int) (o11:Bool):St:=⟨[(0,.p (sV p0)),(1,.p (iV v1)),(6,.p (sV v6)),(9,.p (iV x10.2)),(79,.p (bV o11))],⟨[],[]⟩⟩
def Qd4 (p0:(List UInt8)) (v1:Int) (v6:(List UInt8)):St:=⟨[(0,.p (sV p0)),(1,.p (iV v1)),(6,.p (sV v6))],⟨[],[]⟩⟩
def Qpl (p0:(List UInt8)) (y2:Unit):St:=⟨[],⟨[],[]⟩⟩
def Qpm (p0:(List UInt8)) (y3:(List UInt8)×Int):St:=⟨[(4,.p (sV y3.1)),(5,.p (iV y3.2))],⟨[],[]⟩⟩
def Qzn:Code:=((Qbc (Tryz.f61.body.getD .skip)).getD 0 .skip)
def Qjs (y:Bool):D :=.p (bV y)
def Q7e:List (Nat×List Nat):=[(0,[0]),(1,[2]),(3000001,[])]
def Q1e  (o1:Bool):St:=⟨[(2,.p (bV o1))],⟨[],[]⟩⟩
def Qf6 (y:Int):D :=.p (iV y)
def Qxb:List (Nat×List Nat):=[(0,[0]),(1,[0,3]),(2,[0,3,4]),(3,[0,3,4,8]),(4,[0,3,4]),(5,[0,3,4]),(6,[2]),(1000003,[0,3,4])]
def Ql0 (p0:(List Qab)) (v3:Int) (v4:Int):St:=⟨[(0,.p (.sl false (p0.map Qae))),(3,.p (iV v3)),(4,.p (iV v4))],⟨[],[]⟩⟩
def Qqq (p0:(List Qab)) (o1:Int):St:=⟨[(3,.p (iV o1))],⟨[],[]⟩⟩
def Q1f:Code:=((Qbc (Tryz.f22.body.getD .skip)).getD 0 .skip)
def Qh5 (y:Int):D :=.p (iV y)
def Qzo:List (Nat×List Nat):=[(0,[0]),(1,[0,3]),(2,[0,3,4]),(3,[0,3,4,8]),(4,[0,3,4]),(5,[0,3,4]),(6,[2]),(1000003,[0,3,4])]
def Qnm (p0:(List Qab)) (v3:Int) (v4:Int):St:=⟨[(0,.p (.sl false (p0.map Qae))),(3,.p (iV v3)),(4,.p (iV v4))],⟨[],[]⟩⟩
def Qtj (p0:(List Qab)) (o1:Int):St:=⟨[(3,.p (iV o1))],⟨[],[]⟩⟩
def Q3v:Code:=((Qbc (Tryz.f23.body.getD .skip)).getD 0 .skip)
def Qcq (y:(List UInt8)):D :=.p (sV y)
def Qzp:List (Nat×List Nat):=[(0,[1]),(1,[1,8]),(2,[1,8,9]),(3,[3]),(4,[2]),(5,[1,8,18]),(6,[2]),(7,[1,8,23]),(8,[27]),(9,[2]),(10,[2]),(11,[1,8,28]),(12,[2]),(13,[1,8,32]),(14,[2]),(15,[1,43]),(16,[2]),(17,[1,5]),(18,[1,5,6]),(19,[1,5,6,54]),(20,[1,5,6]),(21,[1,5,6]),(22,[2]),(1000019,[1,5,6])]
def Qnn (p0:Qab) (v5:(List (List UInt8))) (v6:Int):St:=⟨[(1,.ptr 0 0),(5,.own 0 9 1 (v5.map cStr)),(6,.p (iV v6))],⟨[[.p (iV p0.Kind),.p (sV p0.Name),.p (sV p0.Text),.p (iV p0.N),.p (.sl false (p0.L.map Qae)),.p (.sl false (p0.Then.map Qae)),.p (.sl false (p0.Else.map Qae))]],[(v5.map cStr).length]⟩⟩
def Qtk (p0:Qab) (o5:(List (List UInt8))):St:=⟨[(1,.ptr 0 0),(5,.own 0 9 1 (o5.map cStr))],⟨[[.p (iV p0.Kind),.p (sV p0.Name),.p (sV p0.Text),.p (iV p0.N),.p (.sl false (p0.L.map Qae)),.p (.sl false (p0.Then.map Qae)),.p (.sl false (p0.Else.map Qae))]],[(o5.map cStr).length]⟩⟩
def Q3w:Code:=((Qbc (Tryz.f47.body.getD .skip)).getD 0 .skip)
def Q3x (y:Bool):D :=.p (bV y)
def Qafh:List (Nat×List Nat):=[(0,[0]),(1,[2]),(3000001,[])]
def Q9u  (o1:Bool):St:=⟨[(2,.p (bV o1))],⟨[],[]⟩⟩
def Qh6 (y:Bool):D :=.p (bV y)
def Qzq:List (Nat×List Nat):=[(0,[0]),(1,[0,3]),(2,[0,3,4]),(3,[0,3,4,9]),(4,[0,3,4]),(5,[0,3,4,17]),(6,[2]),(7,[2]),(1000003,[0,3,4])]
def Qno (p0:(List UInt8)) (x1:(List (List UInt8))) (v4:Int):St:=⟨[(0,.p (sV p0)),(3,.p (.sl false (x1.map cStr))),(4,.p (iV v4))],⟨[],[]⟩⟩
def Qtl (p0:(List UInt8)) (x1:(List (List UInt8))) (y3:Unit):St:=⟨[(0,.p (sV p0))],⟨[],[]⟩⟩
def Qtm (p0:(List UInt8)) (x1:(List (List UInt8))) (y4:Unit):St:=⟨[(2,.p (bV false))],⟨[],[]⟩⟩
def Q3y:Code:=((Qbc (Tryz.f96.body.getD .skip)).getD 0 .skip)
def Ql1 (y:(List UInt8)×Bool):D :=.tup [.p (sV y.1),.p (bV y.2)]
def Q7f:List (Nat×List Nat):=[(0,[0]),(1,[0,7]),(2,[2,3]),(3,[4]),(4,[4,12]),(5,[2,3]),(6,[2,3])]
def Qfo (y:Bool):D :=.p (bV y)
def Qzr:List (Nat×List Nat):=[(0,[0,1]),(1,[0,1,12]),(2,[4]),(3,[0,1,5]),(4,[0,1,5,16]),(5,[0,1,5]),(6,[0,1,5,6,7]),(7,[0,1,5,76]),(8,[4]),(9,[4]),(1000004,[0,1,5]),(3000006,[]),(3000007,[]),(6000006,[8,9])]
def Q3z (p0:(List Qab)) (p1:(List Qab)) (v5:Int) (o4:Int×(List UInt8)×(List UInt8)×Int×(List Qab)×(List Qab)×(List Qab)×Int×(List UInt8)×(List UInt8)×Int×(List Qab)×(List Qab)×(List Qab)):St:=⟨[(0,.p (.sl false (p0.map Qae))),(1,.p (.sl false (p1.map Qae))),(5,.p (iV v5)),(6,.ptr 0 0),(7,.ptr 1 0)],⟨[[.p (iV o4.1),.p (sV o4.2.1),.p (sV o4.2.2.1),.p (iV o4.2.2.2.1),.p (.sl false (o4.2.2.2.2.1.map Qae)),.p (.sl false (o4.2.2.2.2.2.1.map Qae)),.p (.sl false (o4.2.2.2.2.2.2.1.map Qae))],[.p (iV o4.2.2.2.2.2.2.2.1),.p (sV o4.2.2.2.2.2.2.2.2.1),.p (sV o4.2.2.2.2.2.2.2.2.2.1),.p (iV o4.2.2.2.2.2.2.2.2.2.2.1),.p (.sl false (o4.2.2.2.2.2.2.2.2.2.2.2.1.map Qae)),.p (.sl false (o4.2.2.2.2.2.2.2.2.2.2.2.2.1.map Qae)),.p (.sl false (o4.2.2.2.2.2.2.2.2.2.2.2.2.2.map Qae))]],[]⟩⟩
def Q30 (p0:(List Qab)) (p1:(List Qab)) (v5:Int) (o4:Int×(List UInt8)×(List UInt8)×Int×(List Qab)×(List Qab)×(List Qab)×Int×(List UInt8)×(List UInt8)×Int×(List Qab)×(List Qab)×(List Qab)) (o7:Bool):St:=⟨[(0,.p (.sl false (p0.map Qae))),(1,.p (.sl false (p1.map Qae))),(5,.p (iV v5)),(76,.p (bV o7))],⟨[[.p (iV o4.1),.p (sV o4.2.1),.p (sV o4.2.2.1),.p (iV o4.2.2.2.1),.p (.sl false (o4.2.2.2.2.1.map Qae)),.p (.sl false (o4.2.2.2.2.2.1.map Qae)),.p (.sl false (o4.2.2.2.2.2.2.1.map Qae))],[.p (iV o4.2.2.2.2.2.2.2.1),.p (sV o4.2.2.2.2.2.2.2.2.1),.p (sV o4.2.2.2.2.2.2.2.2.2.1),.p (iV o4.2.2.2.2.2.2.2.2.2.2.1),.p (.sl false (o4.2.2.2.2.2.2.2.2.2.2.2.1.map Qae)),.p (.sl false (o4.2.2.2.2.2.2.2.2.2.2.2.2.1.map Qae)),.p (.sl false (o4.2.2.2.2.2.2.2.2.2.2.2.2.2.map Qae))]],[]⟩⟩
def Qnp (p0:(List Qab)) (p1:(List Qab)) (v5:Int):St:=⟨[(0,.p (.sl false (p0.map Qae))),(1,.p (.sl false (p1.map Qae))),(5,.p (iV v5))],⟨[],[]⟩⟩
def Qtn (p0:(List Qab)) (p1:(List Qab)) (y2:Unit):St:=⟨[],⟨[],[]⟩⟩
def Qto (p0:(List Qab)) (p1:(List Qab)) (y3:Unit):St:=⟨[(4,.p (bV false))],⟨[],[]⟩⟩
def Q31:Code:=((Qbc (Tryz.f9.body.getD .skip)).getD 0 .skip)
def Qt8 (y:(List (List UInt8))):D :=.p (.sl false (y.map cStr))
def Q7g:List (Nat×List Nat):=[(0,[]),(1,[0])]
def Qf7 (y:(List UInt8)):D :=.p (sV y)
def Qxc:List (Nat×List Nat):=[(0,[0]),(1,[0,3]),(2,[0,3,4]),(3,[0,3,4,9]),(4,[0,3,4]),(5,[0,3,4,5]),(6,[0,3,4,5,17]),(7,[0,3,4]),(8,[0,3,4,5,17,36]),(9,[0,3,4]),(10,[0,3,4,5,17,42]),(11,[0,3,4]),(12,[0,3,4,5,17,53]),(13,[0,3,4]),(14,[0,3,4,5,17,68]),(15,[0,3,4,5]),(16,[0,3,4,5,86]),(17,[0,3,4]),(18,[0,3,4]),(19,[0,3,4,5,95]),(20,[0,3,4]),(21,[2]),(1000003,[0,3,4])]
def Qcw (p0:(List Qab)) (v3:(List UInt8)) (v4:Int):St:=⟨[(0,.p (.sl false (p0.map Qae))),(3,.p (sV v3)),(4,.p (iV v4))],⟨[],[]⟩⟩
def Qqr (p0:(List Qab)) (o1:(List UInt8)):St:=⟨[(3,.p (sV o1))],⟨[],[]⟩⟩
def Q1g:Code:=((Qbc (Tryz.f25.body.getD .skip)).getD 0 .skip)
def Qc8 (y:Bool):D :=.p (bV y)
def Q9v:List (Nat×List Nat):=[(0,[1,2,3,4,5,6]),(1,[12]),(3000001,[])]
def Q32 (p0:Qab) (o1:Bool):St:=⟨[(12,.p (bV o1))],⟨[[.p (iV p0.Kind),.p (sV p0.Name),.p (sV p0.Text),.p (iV p0.N),.p (.sl false (p0.L.map Qae)),.p (.sl false (p0.Then.map Qae)),.p (.sl false (p0.Else.map Qae))]],[]⟩⟩
def Qf8 (y:Bool):D :=.p (bV y)
def Qxd:List (Nat×List Nat):=[(0,[0,1]),(1,[0,1,5]),(2,[0,1,5,11]),(3,[0,1,5]),(4,[0,1,5,19]),(5,[4]),(6,[0,1,5,25]),(7,[0,1,5,6]),(8,[0,1,5,6,7]),(9,[0,1,5,61]),(10,[4]),(11,[4]),(1000002,[0,1,5]),(3000009,[])]
def Q1h (p0:(List Qab)) (p1:Bool) (v5:Int) (o8:Bool):St:=⟨[(0,.p (.sl false (p0.map Qae))),(1,.p (bV p1)),(5,.p (iV v5)),(61,.p (bV o8))],⟨[],[]⟩⟩
def Qio (p0:(List Qab)) (p1:Bool) (v5:Int):St:=⟨[(0,.p (.sl false (p0.map Qae))),(1,.p (bV p1)),(5,.p (iV v5))],⟨[],[]⟩⟩
def Qqs (p0:(List Qab)) (p1:Bool) (y2:Unit):St:=⟨[],⟨[],[]⟩⟩
def Qqt (p0:(List Qab)) (p1:Bool) (y3:Unit):St:=⟨[(4,.p (bV false))],⟨[],[]⟩⟩
def Q1i:Code:=((Qbc (Tryz.f46.body.getD .skip)).getD 0 .skip)
def Qfp (y:Bool):D :=.p (bV y)
def Q9w:List (Nat×List Nat):=[(0,[1]),(1,[1,6]),(2,[1,6,7]),(3,[1,4]),(4,[2]),(5,[1,6,20]),(6,[2]),(7,[1,6,24]),(8,[2]),(9,[1,6,38]),(10,[2]),(11,[1,6,47]),(12,[2]),(13,[1,6,67]),(14,[2]),(15,[1,87]),(16,[2]),(17,[2]),(3000004,[]),(3000008,[]),(3000010,[]),(3000012,[]),(3000014,[]),(3000016,[])]
def Q33 (p0:Qab) (o2:Bool):St:=⟨[(2,.p (bV o2))],⟨[[.p (iV p0.Kind),.p (sV p0.Name),.p (sV p0.Text),.p (iV p0.N),.p (.sl false (p0.L.map Qae)),.p (.sl false (p0.Then.map Qae)),.p (.sl false (p0.Else.map Qae))]],[]⟩⟩
def Q34 (p0:Qab) (o5:Bool):St:=⟨[(2,.p (bV o5))],⟨[[.p (iV p0.Kind),.p (sV p0.Name),.p (sV p0.Text),.p (iV p0.N),.p (.sl false (p0.L.map Qae)),.p (.sl false (p0.Then.map Qae)),.p (.sl false (p0.Else.map Qae))]],[]⟩⟩
def Q35 (p0:Qab) (o8:Bool):St:=⟨[(2,.p (bV o8))],⟨[[.p (iV p0.Kind),.p (sV p0.Name),.p (sV p0.Text),.p (iV p0.N),.p (.sl false (p0.L.map Qae)),.p (.sl false (p0.Then.map Qae)),.p (.sl false (p0.Else.map Qae))]],[]⟩⟩
def Q36 (p0:Qab) (o11:Bool):St:=⟨[(2,.p (bV o11))],⟨[[.p (iV p0.Kind),.p (sV p0.Name),.p (sV p0.Text),.p (iV p0.N),.p (.sl false (p0.L.map Qae)),.p (.sl false (p0.Then.map Qae)),.p (.sl false (p0.Else.map Qae))]],[]⟩⟩
def Q37 (p0:Qab) (o15:Bool):St:=⟨[(2,.p (bV o15))],⟨[[.p (iV p0.Kind),.p (sV p0.Name),.p (sV p0.Text),.p (iV p0.N),.p (.sl false (p0.L.map Qae)),.p (.sl false (p0.Then.map Qae)),.p (.sl false (p0.Else.map Qae))]],[]⟩⟩
def Q38 (p0:Qab) (o19:Bool):St:=⟨[(2,.p (bV o19))],⟨[[.p (iV p0.Kind),.p (sV p0.Name),.p (sV p0.Text),.p (iV p0.N),.p (.sl false (p0.L.map Qae)),.p (.sl false (p0.Then.map Qae)),.p (.sl false (p0.Else.map Qae))]],[]⟩⟩
def Qhj (y:Bool):D :=.p (bV y)
def Qxe:List (Nat×List Nat):=[(0,[0]),(1,[0,3]),(2,[0,3,7]),(3,[0,3]),(4,[0,3,15]),(5,[2]),(6,[2]),(1000002,[0,3])]
def Ql2 (p0:(List Qab)) (v3:Int):St:=⟨[(0,.p (.sl false (p0.map Qae))),(3,.p (iV v3))],⟨[],[]⟩⟩
def Qqu (p0:(List Qab)) (y2:Unit):St:=⟨[],⟨[],[]⟩⟩
def Qqv (p0:(List Qab)) (y3:Unit):St:=⟨[(2,.p (bV false))],⟨[],[]⟩⟩
def Q1j:Code:=((Qbc (Tryz.f97.body.getD .skip)).getD 0 .skip)
def Qm1 (y:Bool):D :=.p (bV y)
def Qvb:List (Nat×List Nat):=[(0,[0,1]),(1,[0,1,5]),(2,[0,1,5,9]),(3,[0,1,5]),(4,[0,1,5,15]),(5,[4]),(6,[4]),(1000002,[0,1,5])]
def Qkz (p0:(List UInt8)) (p1:(List UInt8)) (v5:Int):St:=⟨[(0,.p (sV p0)),(1,.p (sV p1)),(5,.p (iV v5))],⟨[],[]⟩⟩
def Qpn (p0:(List UInt8)) (p1:(List UInt8)) (y2:Unit):St:=⟨[],⟨[],[]⟩⟩
def Qpo (p0:(List UInt8)) (p1:(List UInt8)) (y3:Unit):St:=⟨[(4,.p (bV true))],⟨[],[]⟩⟩
def Qzs:Code:=((Qbc (Tryz.f98.body.getD .skip)).getD 0 .skip)
def Qh7 (y:Bool):D :=.p (bV y)
def Q9x:List (Nat×List Nat):=[(0,[1]),(1,[1,3]),(2,[1,3,14]),(3,[1,3,14,15]),(4,[2]),(5,[1,3,14,30]),(6,[2]),(7,[1,3,14,37]),(8,[2]),(9,[1,3,14,54]),(10,[1,3,14,54]),(11,[2]),(12,[1,3,72]),(13,[2]),(14,[2]),(2009005,[]),(3000001,[]),(3000004,[]),(3000006,[]),(3000008,[]),(3000011,[]),(3000013,[])]
def Q39 (p0:Qab) (o1:Bool):St:=⟨[(1,.ptr 0 0),(3,.p (bV o1))],⟨[[.p (iV p0.Kind),.p (sV p0.Name),.p (sV p0.Text),.p (iV p0.N),.p (.sl false (p0.L.map Qae)),.p (.sl false (p0.Then.map Qae)),.p (.sl false (p0.Else.map Qae))]],[]⟩⟩
def Q4a (p0:Qab) (o3:Bool):St:=⟨[(2,.p (bV o3))],⟨[[.p (iV p0.Kind),.p (sV p0.Name),.p (sV p0.Text),.p (iV p0.N),.p (.sl false (p0.L.map Qae)),.p (.sl false (p0.Then.map Qae)),.p (.sl false (p0.Else.map Qae))]],[]⟩⟩
def Q4b (p0:Qab) (o6:Bool):St:=⟨[(2,.p (bV o6))],⟨[[.p (iV p0.Kind),.p (sV p0.Name),.p (sV p0.Text),.p (iV p0.N),.p (.sl false (p0.L.map Qae)),.p (.sl false (p0.Then.map Qae)),.p (.sl false (p0.Else.map Qae))]],[]⟩⟩
def Q4c (p0:Qab) (o8:Bool):St:=⟨[(2,.p (bV o8))],⟨[[.p (iV p0.Kind),.p (sV p0.Name),.p (sV p0.Text),.p (iV p0.N),.p (.sl false (p0.L.map Qae)),.p (.sl false (p0.Then.map Qae)),.p (.sl false (p0.Else.map Qae))]],[]⟩⟩
def Q4d (p0:Qab) (o1:Bool) (o12:Bool):St:=⟨[(1,.ptr 0 0),(3,.p (bV o1)),(14,.p (iV p0.Kind)),(54,.p (bV o12))],⟨[[.p (iV p0.Kind),.p (sV p0.Name),.p (sV p0.Text),.p (iV p0.N),.p (.sl false (p0.L.map Qae)),.p (.sl false (p0.Then.map Qae)),.p (.sl false (p0.Else.map Qae))]],[]⟩⟩
def Q4e (p0:Qab) (o13:Bool):St:=⟨[(2,.p (bV o13))],⟨[[.p (iV p0.Kind),.p (sV p0.Name),.p (sV p0.Text),.p (iV p0.N),.p (.sl false (p0.L.map Qae)),.p (.sl false (p0.Then.map Qae)),.p (.sl false (p0.Else.map Qae))]],[]⟩⟩
def Q4f (p0:Qab) (o17:Bool):St:=⟨[(2,.p (bV o17))],⟨[[.p (iV p0.Kind),.p (sV p0.Name),.p (sV p0.Text),.p (iV p0.N),.p (.sl false (p0.L.map Qae)),.p (.sl false (p0.Then.map Qae)),.p (.sl false (p0.Else.map Qae))]],[]⟩⟩
def Qf9 (y:(List Qab)×Int×Int):D :=.tup [.p (.sl false (y.1.map Qae)),.p (iV y.2.1),.p (iV y.2.2)]
def Q7h:List (Nat×List Nat):=[(0,[0]),(1,[0,5,6,7]),(2,[0,5,6,7,17]),(3,[2,3,4]),(4,[0,5,8]),(5,[0,5,8,9]),(6,[0,5,8,9,28]),(7,[0,5,8,35]),(8,[2,3,4]),(9,[2,3,4]),(10,[9,48]),(11,[2,3,4]),(12,[9,51]),(13,[2,3,4]),(14,[2,3,4])]
def Qm2 (y:Bool):D :=.p (bV y)
def Qt9:List (Nat×List Nat):=[(0,[0,1]),(1,[4]),(3000001,[])]
def Qqw (h0_0:(List Qaa)) (h0_1:Int) (h0_2:Bool) (o1:Bool):St:=⟨[(4,.p (bV o1))],⟨[[.p (.sl false (h0_0.map Qad)),.p (iV h0_1),.p (bV h0_2)]],[]⟩⟩
def Qfv (y:(List Qab)×Int×Bool):D :=.p (.sl false (y.1.map Qae))
def Ql3:List (Nat×List Nat):=[(0,[0,1,2]),(1,[0,1,2,7]),(2,[0,1,2,7,27]),(3,[0,1,2,7,29]),(4,[0,1,2,7,8]),(5,[0,1,2,7,8,9]),(6,[0,1,2,7,8,9,45]),(7,[0,1,2,7]),(8,[0,1,2,7]),(9,[0,1,2,7,73]),(10,[6]),(11,[0,1,2,7]),(12,[0,1,2,7,80]),(13,[0,1,2,7]),(14,[0,1,2,7]),(15,[6]),(1000002,[0,1,2,7]),(3000002,[]),(3000006,[]),(3000009,[]),(9000005,[1,0,0,0]),(9000006,[5,0,0,0,6,0,0,0,7,0,0,0]),(9000007,[4,0,0,0,5,0,0,0,6,0,0,0,9,0,0,0,10,0,0,0,11,1,7,0]),(9000008,[4,0,0,0]),(9000014,[4,0,0,0]),(9500010,[]),(9500015,[])]
def Qqx (p1:Bool) (p2:Bool) (h0_0:(List Qaa)) (v7:(List Qab)) (h0_1_:Int) (h0_2_:Bool) (o4:Bool):St:=⟨[(0,.ptr 0 0),(1,.p (bV p1)),(2,.p (bV p2)),(7,.x 0 1 (.sl 37 7 (v7.map Qae))),(27,.p (bV o4))],⟨[[.p (.sl false (h0_0.map Qad)),.p (iV h0_1_),.p (bV h0_2_)]],[1]⟩⟩
def Qqy (p1:Bool) (p2:Bool) (h0_0:(List Qaa)) (v7:(List Qab)) (x6:Qaa×Int×Bool) (o7:Bool):St:=⟨[(0,.ptr 0 0),(1,.p (bV p1)),(2,.p (bV p2)),(7,.x 0 1 (.sl 37 7 (v7.map Qae))),(8,.p (sV x6.1.Text)),(9,.p (iV (wr ((v7.length:Int)-1)))),(45,.p (bV o7))],⟨[[.p (.sl false (h0_0.map Qad)),.p (iV x6.2.1),.p (bV x6.2.2)]],[1]⟩⟩
def Qqz (p1:Bool) (p2:Bool) (h0_0:(List Qaa)) (v7:(List Qab)) (h0_1_:Int) (h0_2_:Bool) (o12:Bool):St:=⟨[(0,.ptr 0 0),(1,.p (bV p1)),(2,.p (bV p2)),(7,.x 0 1 (.sl 37 7 (v7.map Qae))),(73,.p (bV o12))],⟨[[.p (.sl false (h0_0.map Qad)),.p (iV h0_1_),.p (bV h0_2_)]],[1]⟩⟩
def Qci (p1:Bool) (p2:Bool) (h0_0:(List Qaa)) (v7:(List Qab)) (h0_1_:Int) (h0_2_:Bool):St:=⟨[(0,.ptr 0 0),(1,.p (bV p1)),(2,.p (bV p2)),(7,.x 0 1 (.sl 37 7 (v7.map Qae)))],⟨[[.p (.sl false (h0_0.map Qad)),.p (iV h0_1_),.p (bV h0_2_)]],[1]⟩⟩
def Qjc (p1:Bool) (p2:Bool) (h0_0:(List Qaa)) (y2:(List Qab)×Int×Bool):St:=⟨[(7,.x 0 1 (.sl 37 7 (y2.1.map Qae)))],⟨[[.p (.sl false (h0_0.map Qad)),.p (iV y2.2.1),.p (bV y2.2.2)]],[1]⟩⟩
def Qjd (p1:Bool) (p2:Bool) (h0_0:(List Qaa)) (y3:(List Qab)×Int×Bool):St:=⟨[(6,.p (.sl false (y3.1.map Qae)))],⟨[[.p (.sl false (h0_0.map Qad)),.p (iV y3.2.1),.p (bV y3.2.2)]],[1]⟩⟩
def Qq0:Code:=((Qbc (Tryz.f21.body.getD .skip)).getD 0 .skip)
def Qjt (y:Qab×Int×Bool):D :=.p (.agg [iV y.1.Kind,sV y.1.Name,sV y.1.Text,iV y.1.N,.sl false (y.1.L.map Qae),.sl false (y.1.Then.map Qae),.sl false (y.1.Else.map Qae)])
def Qm3:List (Nat×List Nat):=[(0,[0,2]),(1,[0,2,3]),(2,[0,2,3,7]),(3,[0,2,3]),(4,[0,2,3]),(5,[2]),(1000002,[0,2,3]),(5000004,[3,1005,1008]),(8000004,[2])]
def Qga (h0_0:(List Qaa)) (h0_1_:Int) (h0_2_:Bool) (h2_0:Int) (h2_1:(List UInt8)) (h2_2:(List UInt8)) (h2_3:Int) (h2_4:(List Qab)) (h2_5:(List Qab)) (h2_6:(List Qab)):St:=⟨[(0,.ptr 0 0),(2,.ptr 1 0),(3,.ptr 2 0)],⟨[[.p (.sl false (h0_0.map Qad)),.p (iV h0_1_),.p (bV h0_2_)],[.p (iV 0),.p (sV []),.p (sV []),.p (iV 0),.p (.sl true []),.p (.sl true []),.p (.sl true [])],[.p (iV h2_0),.p (sV h2_1),.p (sV h2_2),.p (iV h2_3),.p (.sl false (h2_4.map Qae)),.p (.sl false (h2_5.map Qae)),.p (.sl false (h2_6.map Qae))]],[]⟩⟩
def Qkh (h0_0:(List Qaa)) (o2:Int×Bool×Int×(List UInt8)×(List UInt8)×Int×(List Qab)×(List Qab)×(List Qab)):St:=⟨[(2,.ptr 1 0),(3,.ptr 2 0)],⟨[[.p (.sl false (h0_0.map Qad)),.p (iV o2.1),.p (bV o2.2.1)],[.p (iV 0),.p (sV []),.p (sV []),.p (iV 0),.p (.sl true []),.p (.sl true []),.p (.sl true [])],[.p (iV o2.2.2.1),.p (sV o2.2.2.2.1),.p (sV o2.2.2.2.2.1),.p (iV o2.2.2.2.2.2.1),.p (.sl false (o2.2.2.2.2.2.2.1.map Qae)),.p (.sl false (o2.2.2.2.2.2.2.2.1.map Qae)),.p (.sl false (o2.2.2.2.2.2.2.2.2.map Qae))]],[]⟩⟩
def Qsp:Code:=((Qbc (Tryz.f67.body.getD .skip)).getD 0 .skip)
def Qe1 (y:Qab×Int×Bool):D :=.p (.agg [iV y.1.Kind,sV y.1.Name,sV y.1.Text,iV y.1.N,.sl false (y.1.L.map Qae),.sl false (y.1.Then.map Qae),.sl false (y.1.Else.map Qae)])
def Qsq:List (Nat×List Nat):=[(0,[0,2]),(1,[0,2,7]),(2,[0,2]),(3,[0,2,3]),(4,[0,2,3]),(5,[0,2,3]),(6,[0,2,3,20]),(7,[0,2,3]),(8,[0,2,3]),(9,[2,3]),(10,[2]),(11,[0,2,34]),(12,[0,2,4]),(13,[0,2,4,37]),(14,[0,2,4]),(15,[0,2,4]),(16,[0,2,4]),(17,[0,2,4,46]),(18,[0,2,4]),(19,[0,2,4]),(20,[0,2,4]),(21,[0,2,4]),(22,[0,2,4]),(23,[2,4]),(24,[2]),(25,[0,2,5]),(26,[0,2,5,69]),(27,[0,2,5]),(28,[0,2,5]),(29,[0,2,5]),(30,[0,2,5]),(31,[2,5]),(32,[2]),(2006007,[]),(2013005,[]),(2017005,[]),(2026009,[]),(3000011,[])]
def Qpx (h0_0:(List Qaa)) (x3:Qab×Int×Bool) (x5:(List Qab)×Int×Bool) (o6:Int×Bool×(List Qab)):St:=⟨[(0,.ptr 0 0),(2,.ptr 1 0),(3,.ptr 2 0)],⟨[[.p (.sl false (h0_0.map Qad)),.p (iV o6.1),.p (bV o6.2.1)],[.p (iV 0),.p (sV []),.p (sV []),.p (iV 0),.p (.sl true []),.p (.sl true []),.p (.sl true [])],[.p (iV 10),.p (sV []),.p (sV []),.p (iV 0),.p (.sl true ([x3.1].map Qae)),.p (.sl false (x5.1.map Qae)),.p (.sl false (o6.2.2.map Qae))]],[]⟩⟩
def Qpy (h0_0:(List Qaa)) (h0_1:Int) (h0_2:Bool) (o11:Bool):St:=⟨[(0,.ptr 0 0),(2,.ptr 1 0),(34,.p (bV o11))],⟨[[.p (.sl false (h0_0.map Qad)),.p (iV h0_1),.p (bV h0_2)],[.p (iV 0),.p (sV []),.p (sV []),.p (iV 0),.p (.sl true []),.p (.sl true []),.p (.sl true [])]],[]⟩⟩
def Qpz (h0_0:(List Qaa)) (h0_1:Int) (h0_2:Bool) (o14:Int):St:=⟨[(0,.ptr 0 0),(2,.ptr 1 0),(4,.ptr 2 0)],⟨[[.p (.sl false (h0_0.map Qad)),.p (iV h0_1),.p (bV h0_2)],[.p (iV 0),.p (sV []),.p (sV []),.p (iV 0),.p (.sl true []),.p (.sl true []),.p (.sl true [])],[.p (iV o14),.p (sV []),.p (sV []),.p (iV 0),.p (.sl true []),.p (.sl true []),.p (.sl true [])]],[]⟩⟩
def Qp0 (h0_0:(List Qaa)) (o14:Int) (x17:(List UInt8)×Int×Bool) (o18:Int×Bool):St:=⟨[(0,.ptr 0 0),(2,.ptr 1 0),(4,.ptr 2 0)],⟨[[.p (.sl false (h0_0.map Qad)),.p (iV o18.1),.p (bV o18.2)],[.p (iV 0),.p (sV []),.p (sV []),.p (iV 0),.p (.sl true []),.p (.sl true []),.p (.sl true [])],[.p (iV o14),.p (sV x17.1),.p (sV []),.p (iV 0),.p (.sl true []),.p (.sl true []),.p (.sl true [])]],[]⟩⟩
def Qp1 (h0_0:(List Qaa)) (o27:Int×Bool×Int×(List UInt8)):St:=⟨[(0,.ptr 0 0),(2,.ptr 1 0),(5,.ptr 2 0)],⟨[[.p (.sl false (h0_0.map Qad)),.p (iV o27.1),.p (bV o27.2.1)],[.p (iV 0),.p (sV []),.p (sV []),.p (iV 0),.p (.sl true []),.p (.sl true []),.p (.sl true [])],[.p (iV o27.2.2.1),.p (sV o27.2.2.2),.p (sV []),.p (iV 0),.p (.sl true []),.p (.sl true []),.p (.sl true [])]],[]⟩⟩
def Qm4 (_:Int×Bool):D :=.tup []
def Qua:List (Nat×List Nat):=[(0,[])]
def Qpp (_:Int×Bool):D :=.tup []
def Qwk:List (Nat×List Nat):=[(0,[0,1]),(1,[0]),(2,[])]
def Qb5 (y:Qab×Int×Bool):D :=.p (.agg [iV y.1.Kind,sV y.1.Name,sV y.1.Text,iV y.1.N,.sl false (y.1.L.map Qae),.sl false (y.1.Then.map Qae),.sl false (y.1.Else.map Qae)])
def Ql4:List (Nat×List Nat):=[(0,[0,2]),(1,[0,2,7]),(2,[2]),(3,[0,2,13]),(4,[2]),(5,[0,2,19]),(6,[2]),(7,[2]),(8,[0,2,24]),(9,[2]),(10,[2]),(11,[0,2,29]),(12,[0,2]),(13,[0,2]),(14,[0,2,3]),(15,[2,3]),(16,[2]),(17,[0,2,4]),(18,[0,2,4,66]),(19,[2]),(20,[0,2,4]),(21,[0,2,4]),(22,[0,2,4,72]),(23,[2,4]),(24,[2]),(25,[0,2,4,5]),(26,[0,2,4,5,84]),(27,[0,2,4,5]),(28,[0,2,4,5]),(29,[0,2,4,5,95]),(30,[0,2,4,5,97]),(31,[0,2,4,5]),(32,[2,4]),(33,[2]),(1000026,[0,2,4,5]),(3000014,[]),(3000026,[]),(5000014,[17]),(5000028,[3,1001,1007]),(8000028,[2])]
def Qq1 (h0_0:(List Qaa)) (o13:Int×Bool×Int×(List UInt8)×Int×Int×Int):St:=⟨[(0,.ptr 0 0),(2,.ptr 1 0),(3,.ptr 2 0)],⟨[[.p (.sl false (h0_0.map Qad)),.p (iV o13.1),.p (bV o13.2.1)],[.p (iV 0),.p (sV []),.p (sV []),.p (iV 0),.p (.sl true []),.p (.sl true []),.p (.sl true [])],[.p (iV o13.2.2.1),.p (sV o13.2.2.2.1),.p (iV o13.2.2.2.2.1),.p (iV o13.2.2.2.2.2.1),.p (iV o13.2.2.2.2.2.2)]],[]⟩⟩
def Qq2 (h0_0:(List Qaa)) (x21:(List UInt8)×Int×Bool) (v5:Int) (h0_1_:Int) (h0_2_:Bool) (h2_4:(List Qab)) (o27:Bool):St:=⟨[(0,.ptr 0 0),(2,.ptr 1 0),(4,.ptr 2 0),(5,.p (iV v5)),(84,.p (bV o27))],⟨[[.p (.sl false (h0_0.map Qad)),.p (iV h0_1_),.p (bV h0_2_)],[.p (iV 0),.p (sV []),.p (sV []),.p (iV 0),.p (.sl true []),.p (.sl true []),.p (.sl true [])],[.p (iV 6),.p (sV x21.1),.p (sV []),.p (iV 0),.own 0 37 7 (h2_4.map Qae),.p (.sl true []),.p (.sl true [])]],[(h2_4.map Qae).length]⟩⟩
def Qdx (h0_0:(List Qaa)) (x21:(List UInt8)×Int×Bool) (v5:Int) (h0_1_:Int) (h0_2_:Bool) (h2_4:(List Qab)):St:=⟨[(0,.ptr 0 0),(2,.ptr 1 0),(4,.ptr 2 0),(5,.p (iV v5))],⟨[[.p (.sl false (h0_0.map Qad)),.p (iV h0_1_),.p (bV h0_2_)],[.p (iV 0),.p (sV []),.p (sV []),.p (iV 0),.p (.sl true []),.p (.sl true []),.p (.sl true [])],[.p (iV 6),.p (sV x21.1),.p (sV []),.p (iV 0),.own 0 37 7 (h2_4.map Qae),.p (.sl true []),.p (.sl true [])]],[(h2_4.map Qae).length]⟩⟩
def Qje (h0_0:(List Qaa)) (x21:(List UInt8)×Int×Bool) (o26:Int×Bool×(List Qab)):St:=⟨[(0,.ptr 0 0),(2,.ptr 1 0),(4,.ptr 2 0)],⟨[[.p (.sl false (h0_0.map Qad)),.p (iV o26.1),.p (bV o26.2.1)],[.p (iV 0),.p (sV []),.p (sV []),.p (iV 0),.p (.sl true []),.p (.sl true []),.p (.sl true [])],[.p (iV 6),.p (sV x21.1),.p (sV []),.p (iV 0),.own 0 37 7 (o26.2.2.map Qae),.p (.sl true []),.p (.sl true [])]],[(o26.2.2.map Qae).length]⟩⟩
def Qq3:Code:=((Qbc (Tryz.f95.body.getD .skip)).getD 0 .skip)
def Qds (y:Bool):D :=.p (bV y)
def Qxr:List (Nat×List Nat):=[(0,[0,1]),(1,[4]),(3000001,[])]
def Qvc (h0_0:(List Qaa)) (h0_1:Int) (h0_2:Bool) (o1:Bool):St:=⟨[(4,.p (bV o1))],⟨[[.p (.sl false (h0_0.map Qad)),.p (iV h0_1),.p (bV h0_2)]],[]⟩⟩
def Qn4 (y:(List UInt8)×Int×Bool):D :=.p (sV y.1)
def Qvd:List (Nat×List Nat):=[(0,[0]),(1,[2]),(3000001,[]),(5000001,[17])]
def Qsr (h0_0:(List Qaa)) (o1:(List UInt8)×Int×Bool):St:=⟨[(2,.p (sV o1.1))],⟨[[.p (.sl false (h0_0.map Qad)),.p (iV o1.2.1),.p (bV o1.2.2)]],[]⟩⟩
def Qju (y:Qaa×Int×Bool):D :=.p (.agg [iV y.1.Kind,sV y.1.Text,iV y.1.N,iV y.1.From,iV y.1.To])
def Qve:List (Nat×List Nat):=[(0,[0,1,4]),(1,[0,4,12]),(2,[4]),(3,[4]),(4,[0,4]),(5,[4]),(3000001,[])]
def Qss (h0_0:(List Qaa)) (h0_1:Int) (h0_2:Bool) (o1:Bool):St:=⟨[(0,.ptr 0 0),(4,.ptr 1 0),(12,.p (bV o1))],⟨[[.p (.sl false (h0_0.map Qad)),.p (iV h0_1),.p (bV h0_2)],[.p (iV 0),.p (sV []),.p (iV 0),.p (iV 0),.p (iV 0)]],[]⟩⟩
def Qn5 (y:Bool):D :=.p (bV y)
def Qvf:List (Nat×List Nat):=[(0,[0,1]),(1,[4]),(3000001,[])]
def Qst (h0_0:(List Qaa)) (h0_1:Int) (h0_2:Bool) (o1:Bool):St:=⟨[(4,.p (bV o1))],⟨[[.p (.sl false (h0_0.map Qad)),.p (iV h0_1),.p (bV h0_2)]],[]⟩⟩
def Qc3 (y:Bool):D :=.p (bV y)
def Qip:List (Nat×List Nat):=[(0,[0,1]),(1,[4]),(3000001,[])]
def Qhk  (o1:Bool):St:=⟨[(4,.p (bV o1))],⟨[],[]⟩⟩
def Qfw (y:Int):D :=.p (iV y)
def Qq4 (y:(List Qaa)×Int×Int):D :=.tup [.p (.sl false (y.1.map Qad)),.p (iV y.2.1),.p (iV y.2.2)]
def Qbs:List (Nat×List Nat):=[(0,[0]),(1,[0,9]),(2,[2,3,4]),(3,[0,5]),(4,[0,5]),(5,[0,5,6]),(6,[0,5,6,21]),(7,[0,5,6]),(8,[0,5,6,30]),(9,[0,5]),(10,[0,5,52]),(11,[2,3,4]),(12,[0,5]),(13,[0,5]),(14,[0,5,66]),(15,[0,5,6]),(16,[0,5,6,75]),(17,[2,3,4]),(18,[0,5]),(19,[0,5]),(20,[0,5,93]),(21,[0,5]),(22,[0,5,107]),(23,[2,3,4]),(2006005,[]),(2008005,[]),(2014015,[]),(3000022,[]),(5000009,[14])]
def Qzt (p0:(List UInt8)) (w0:Int×(List Qaa)) (o4:Int):St:=⟨[(0,.p (sV p0)),(5,.ptr 0 0),(6,.p (iV o4))],⟨[[.p (sV p0),.p (iV w0.1),.own 0 59 5 (w0.2.map Qad)]],[(w0.2.map Qad).length]⟩⟩
def Qzu (p0:(List UInt8)) (o5:Int×(List Qaa)):St:=⟨[(0,.p (sV p0)),(5,.ptr 0 0)],⟨[[.p (sV p0),.p (iV o5.1),.own 0 59 5 (o5.2.map Qad)]],[(o5.2.map Qad).length]⟩⟩
def Qzv (p0:(List UInt8)) (x8:Int×(List Qaa)) (x9:Int) (y11:Int):St:=⟨[(0,.p (sV p0)),(5,.ptr 0 0)],⟨[[.p (sV p0),.p (iV y11),.own 0 59 5 (x8.2.map Qad)]],[(x8.2.map Qad).length]⟩⟩
def Qzw (p0:(List UInt8)) (x8:Int×(List Qaa)) (x9:Int) (y12:Unit):St:=⟨[(2,.p (.sl true [])),(3,.p (iV (p0.length:Int))),(4,.p (iV 7))],⟨[[.p (sV p0),.p (iV x9),.own 0 59 5 (x8.2.map Qad)]],[(x8.2.map Qad).length]⟩⟩
def Qzx (p0:(List UInt8)) (o19:Bool×Int×(List Qaa)):St:=⟨[(0,.p (sV p0)),(5,.ptr 0 0),(107,.p (bV o19.1))],⟨[[.p (sV p0),.p (iV o19.2.1),.own 0 59 5 (o19.2.2.map Qad)]],[(o19.2.2.map Qad).length]⟩⟩
def Qfx (p0:(List UInt8)) (w0:Int×(List Qaa)):St:=⟨[(0,.p (sV p0)),(5,.ptr 0 0)],⟨[[.p (sV p0),.p (iV w0.1),.own 0 59 5 (w0.2.map Qad)]],[(w0.2.map Qad).length]⟩⟩
def Qiq (p0:(List UInt8)) (w1:Int×(List Qaa)):St:=⟨[(0,.p (sV p0)),(5,.ptr 0 0)],⟨[[.p (sV p0),.p (iV w1.1),.own 0 59 5 (w1.2.map Qad)]],[(w1.2.map Qad).length]⟩⟩
def Qg8 (p0:(List UInt8)) (o1:(List Qaa)×Int×Int):St:=⟨[(2,.p (.sl false (o1.1.map Qad))),(3,.p (iV o1.2.1)),(4,.p (iV o1.2.2))],⟨[],[]⟩⟩
def Qen:Code:=((Qim (Tryz.f14.body.getD .skip)).getD 0 .skip)
def Qlq (y:Bool):D :=.p (bV y)
def Qzy:List (Nat×List Nat):=[(0,[0]),(1,[0,5,6]),(2,[0,5,6,7]),(3,[0,3,5,6]),(4,[0,5,6,13]),(5,[2]),(6,[0,5,6]),(7,[2]),(1000002,[0,5,6]),(3000007,[])]
def Qnq (p0:(List UInt8)) (v6:Int):St:=⟨[(0,.p (sV p0)),(5,.p (iV (p0.length:Int))),(6,.p (iV v6))],⟨[],[]⟩⟩
def Qtp (p0:(List UInt8)) (y2:Unit):St:=⟨[(0,.p (sV p0))],⟨[],[]⟩⟩
def Qtq (p0:(List UInt8)) (y3:Unit):St:=⟨[(2,.p (bV false))],⟨[],[]⟩⟩
def Q4g:Code:=((Qbc (Tryz.f91.body.getD .skip)).getD 0 .skip)
def Q4h  (o6:Bool):St:=⟨[(2,.p (bV o6))],⟨[],[]⟩⟩
def Qjv (y:Bool):D :=.p (bV y)
def Q7i:List (Nat×List Nat):=[(0,[0]),(1,[2]),(3000001,[])]
def Q1k  (o1:Bool):St:=⟨[(2,.p (bV o1))],⟨[],[]⟩⟩
def Qir (y:Int×Bool):D :=.tup [.p (nV .u8 y.1),.p (bV y.2)]
def Q1l:List (Nat×List Nat):=[(0,[0]),(1,[0,4]),(2,[0,4,5]),(3,[2,3]),(4,[0,7]),(5,[2,3]),(6,[2,3]),(3000006,[])]
def Qxs (p0:Int) (o1:Bool):St:=⟨[(2,.p (nV .u8 p0)),(3,.p (bV o1))],⟨[],[]⟩⟩
def Qki (y:Bool):D :=.p (bV y)
def Q4i:List (Nat×List Nat):=[(0,[0]),(1,[2]),(3000001,[])]
def Qzz  (o1:Bool):St:=⟨[(2,.p (bV o1))],⟨[],[]⟩⟩
def Qjf (_:Int):D :=.tup []
def Qoy:List (Nat×List Nat):=[(0,[])]
def Qgv (y:Bool×Int×(List Qaa)):D :=.p (bV y.1)
def Qq5:List (Nat×List Nat):=[(0,[0]),(1,[0,3]),(2,[0,3,4,5]),(3,[0,3,4,5,18]),(4,[5]),(5,[2])]
def Ql5 (_:Int×(List Qaa)):D :=.tup []
def Qsu:List (Nat×List Nat):=[(0,[0,4]),(1,[])]
def Qgb (y:(List UInt8)):D :=.p (sV y)
def Qfy:List (Nat×List Nat):=[(0,[0,1,2]),(1,[0,2,7]),(2,[0,2,7,25]),(3,[0,2,7]),(4,[6]),(1000002,[0,2,7]),(3000002,[])]
def Qkj (h0_0:(List UInt8)) (h0_1:Int) (h0_2:(List Qaa)) (v7:Int) (o2:Bool):St:=⟨[(0,.ptr 0 0),(2,.fn (.func 52) [] []),(7,.p (iV v7)),(25,.p (bV o2))],⟨[[.p (sV h0_0),.p (iV h0_1),.own 0 59 5 (h0_2.map Qad)]],[(h0_2.map Qad).length]⟩⟩
def Qc9 (h0_0:(List UInt8)) (h0_1:Int) (h0_2:(List Qaa)) (v7:Int):St:=⟨[(0,.ptr 0 0),(2,.fn (.func 52) [] []),(7,.p (iV v7))],⟨[[.p (sV h0_0),.p (iV h0_1),.own 0 59 5 (h0_2.map Qad)]],[(h0_2.map Qad).length]⟩⟩
def Qeo (h0_0:(List UInt8)) (h0_1:Int) (h0_2:(List Qaa)) (o1:Int):St:=⟨[(0,.ptr 0 0),(7,.p (iV o1))],⟨[[.p (sV h0_0),.p (iV h0_1),.own 0 59 5 (h0_2.map Qad)]],[(h0_2.map Qad).length]⟩⟩
def Qkk:Code:=((Qbc (Tryz.f89.body.getD .skip)).getD 0 .skip)
def Qfz (y:(List UInt8)):D :=.p (sV y)
def Qfg:List (Nat×List Nat):=[(0,[0,1,2]),(1,[0,2,7]),(2,[0,2,7,25]),(3,[0,2,7]),(4,[6]),(1000002,[0,2,7]),(3000002,[])]
def Qjw (h0_0:(List UInt8)) (h0_1:Int) (h0_2:(List Qaa)) (v7:Int) (o2:Bool):St:=⟨[(0,.ptr 0 0),(2,.fn (.func 54) [] []),(7,.p (iV v7)),(25,.p (bV o2))],⟨[[.p (sV h0_0),.p (iV h0_1),.own 0 59 5 (h0_2.map Qad)]],[(h0_2.map Qad).length]⟩⟩
def Qc4 (h0_0:(List UInt8)) (h0_1:Int) (h0_2:(List Qaa)) (v7:Int):St:=⟨[(0,.ptr 0 0),(2,.fn (.func 54) [] []),(7,.p (iV v7))],⟨[[.p (sV h0_0),.p (iV h0_1),.own 0 59 5 (h0_2.map Qad)]],[(h0_2.map Qad).length]⟩⟩
def Qeh (h0_0:(List UInt8)) (h0_1:Int) (h0_2:(List Qaa)) (o1:Int):St:=⟨[(0,.ptr 0 0),(7,.p (iV o1))],⟨[[.p (sV h0_0),.p (iV h0_1),.own 0 59 5 (h0_2.map Qad)]],[(h0_2.map Qad).length]⟩⟩
def Qjx:Code:=((Qbc (Tryz.f89.body.getD .skip)).getD 0 .skip)
def Qis (y:Bool×Int×(List Qaa)):D :=.p (bV y.1)
def Ql6:List (Nat×List Nat):=[(0,[0]),(1,[0,3]),(2,[0,12,13]),(3,[0,12,13,14]),(4,[0,5,12,13]),(5,[0,5,12,13,27]),(6,[]),(7,[2]),(8,[0,12,13]),(9,[2]),(1000003,[0,12,13])]
def Qft (h0_0:(List UInt8)) (h0_1:Int) (h0_2:(List Qaa)) (v13:Int):St:=⟨[(0,.ptr 0 0),(12,.p (.agg [nV .u8 46,iV 7,nV .u8 40,iV 8,nV .u8 41,iV 9,nV .u8 44,iV 10,nV .u8 61,iV 11])),(13,.p (iV v13))],⟨[[.p (sV h0_0),.p (iV h0_1),.own 0 59 5 (h0_2.map Qad)],[.p (nV .u8 46),.p (iV 7),.p (nV .u8 40),.p (iV 8),.p (nV .u8 41),.p (iV 9),.p (nV .u8 44),.p (iV 10),.p (nV .u8 61),.p (iV 11)]],[(h0_2.map Qad).length]⟩⟩
def Qjg (h0_0:(List UInt8)) (h0_1:Int) (h0_2:(List Qaa)) (y2:Unit):St:=⟨[],⟨[[.p (sV h0_0),.p (iV h0_1),.own 0 59 5 (h0_2.map Qad)],[.p (nV .u8 46),.p (iV 7),.p (nV .u8 40),.p (iV 8),.p (nV .u8 41),.p (iV 9),.p (nV .u8 44),.p (iV 10),.p (nV .u8 61),.p (iV 11)]],[(h0_2.map Qad).length]⟩⟩
def Qjh (h0_0:(List UInt8)) (h0_1:Int) (h0_2:(List Qaa)) (y3:Int×(List Qaa)):St:=⟨[(2,.p (bV true))],⟨[[.p (sV h0_0),.p (iV y3.1),.own 0 59 5 (y3.2.map Qad)],[.p (nV .u8 46),.p (iV 7),.p (nV .u8 40),.p (iV 8),.p (nV .u8 41),.p (iV 9),.p (nV .u8 44),.p (iV 10),.p (nV .u8 61),.p (iV 11)]],[(y3.2.map Qad).length]⟩⟩
def Qq6:Code:=((Qbc (Tryz.f56.body.getD .skip)).getD 0 .skip)
def Qf0 (y:Bool×Int×(List Qaa)):D :=.p (bV y.1)
def Ql7:List (Nat×List Nat):=[(0,[0]),(1,[0,3]),(2,[0,3,4]),(3,[0,3,4,29]),(4,[0,3,4,5,6]),(5,[0,3,4,5,6,39]),(6,[0,3,4,49]),(7,[2]),(8,[0,3,4,7,8]),(9,[0,3,4,7,62]),(10,[2]),(11,[0,3,4]),(12,[0,3,4]),(13,[0,3,4,6,67]),(14,[2]),(15,[0,3,4,6]),(16,[0,3,4]),(17,[0,3,4,101]),(18,[2]),(19,[]),(20,[2]),(1000003,[0,3,4]),(3000003,[]),(3000013,[]),(5000019,[1,9,1001]),(8000019,[1])]
def Qq7 (h0_0:(List UInt8)) (h0_1:Int) (h0_2:(List Qaa)) (v4:Int) (h1_0:Bool) (h1_1:(List Int)) (o4:Bool):St:=⟨[(0,.ptr 0 0),(3,.ptr 1 0),(4,.p (iV v4)),(29,.p (bV o4))],⟨[[.p (sV h0_0),.p (iV h0_1),.own 0 59 5 (h0_2.map Qad)],[.sp Tryz.prog 113 h1_0 1 0,.own 1 5 1 (h1_1.map (cNum .u8))]],[(h0_2.map Qad).length,(h1_1.map (cNum .u8)).length]⟩⟩
def Qq8 (h0_0:(List UInt8)) (h0_1:Int) (h0_2:(List Qaa)) (v4:Int) (h1_0:Bool) (h1_1:(List Int)) (x6:Int×Int) (o10:Bool):St:=⟨[(0,.ptr 0 0),(3,.ptr 1 0),(4,.p (iV v4)),(6,.p (iV x6.2)),(67,.p (bV o10))],⟨[[.p (sV h0_0),.p (iV h0_1),.own 0 59 5 (h0_2.map Qad)],[.sp Tryz.prog 113 h1_0 1 0,.own 1 5 1 (h1_1.map (cNum .u8))]],[(h0_2.map Qad).length,(h1_1.map (cNum .u8)).length]⟩⟩
def Qdy (h0_0:(List UInt8)) (h0_1:Int) (h0_2:(List Qaa)) (v4:Int) (h1_0:Bool) (h1_1:(List Int)):St:=⟨[(0,.ptr 0 0),(3,.ptr 1 0),(4,.p (iV v4))],⟨[[.p (sV h0_0),.p (iV h0_1),.own 0 59 5 (h0_2.map Qad)],[.sp Tryz.prog 113 h1_0 1 0,.own 1 5 1 (h1_1.map (cNum .u8))]],[(h0_2.map Qad).length,(h1_1.map (cNum .u8)).length]⟩⟩
def Qji (h0_0:(List UInt8)) (h0_1:Int) (h0_2:(List Qaa)) (y2:Int×Bool×(List Int)):St:=⟨[(0,.ptr 0 0),(3,.ptr 1 0),(4,.p (iV y2.1))],⟨[[.p (sV h0_0),.p (iV h0_1),.own 0 59 5 (h0_2.map Qad)],[.sp Tryz.prog 113 y2.2.1 1 0,.own 1 5 1 (y2.2.2.map (cNum .u8))]],[(h0_2.map Qad).length,(y2.2.2.map (cNum .u8)).length]⟩⟩
def Qjj (h0_0:(List UInt8)) (h0_1:Int) (h0_2:(List Qaa)) (y3:Bool×(List Int)):St:=⟨[(2,.p (bV false))],⟨[[.p (sV h0_0),.p (iV h0_1),.own 0 59 5 (h0_2.map Qad)],[.sp Tryz.prog 113 y3.1 1 0,.own 1 5 1 (y3.2.map (cNum .u8))]],[(h0_2.map Qad).length,(y3.2.map (cNum .u8)).length]⟩⟩
def Qq9:Code:=((Qbc (Tryz.f51.body.getD .skip)).getD 0 .skip)
def Qdg (y:Bool×Int×(List Qaa)):D :=.p (bV y.1)
def Qp2:List (Nat×List Nat):=[(0,[0]),(1,[0,3]),(2,[0,3,13]),(3,[2]),(4,[0,3,18]),(5,[2]),(6,[0,27]),(7,[2]),(8,[2]),(3000004,[])]
def Qn6 (h0_0:(List UInt8)) (h0_1:Int) (h0_2:(List Qaa)) (x1:UInt8) (o3:Bool):St:=⟨[(0,.ptr 0 0),(3,.p (nV .u8 (x1.toNat:Int))),(18,.p (bV o3))],⟨[[.p (sV h0_0),.p (iV h0_1),.own 0 59 5 (h0_2.map Qad)]],[(h0_2.map Qad).length]⟩⟩
def Qit (y:Bool×Int×(List Qaa)):D :=.p (bV y.1)
def Qub:List (Nat×List Nat):=[(0,[0]),(1,[0,3]),(2,[0,3,12]),(3,[2]),(4,[]),(5,[2])]
def Qdk (y:Bool):D :=.p (bV y)
def Qnr:List (Nat×List Nat):=[(0,[0]),(1,[0]),(2,[0,3,4,5]),(3,[3,4,5,6,7,8]),(4,[3,5,6,41]),(5,[2]),(6,[3,6,43]),(7,[2]),(8,[6,9,10]),(9,[6,10,11,13]),(10,[2]),(3000004,[]),(3000007,[]),(3000010,[])]
def Ql8 (x2:(List Qab)×Int×Int) (x3:(List Qab)×Int×Int) (o4:Bool):St:=⟨[(3,.p (.sl false (x2.1.map Qae))),(5,.p (iV x2.2.2)),(6,.p (.sl false (x3.1.map Qae))),(41,.p (bV o4))],⟨[],[]⟩⟩
def Ql9  (o6:Bool):St:=⟨[(2,.p (bV o6))],⟨[],[]⟩⟩
def Qma  (o10:Bool):St:=⟨[(2,.p (bV o10))],⟨[],[]⟩⟩
def Qe2 (y:Bool):D :=.p (bV y)
def Qsv:List (Nat×List Nat):=[(0,[]),(1,[1,3]),(2,[1,3,5,6]),(3,[1,3,5,6,8,9]),(4,[0]),(3000004,[])]
def Qp3  (o4:Bool):St:=⟨[(0,.p (bV o4))],⟨[],[]⟩⟩
def Qjy (y:(List UInt8)):D :=.p (sV y)
def Qvg:List (Nat×List Nat):=[(0,[0]),(1,[2])]
def Qj8 (y:Bool):D :=.p (bV y)
def Qz0:List (Nat×List Nat):=[(0,[0,1,2]),(1,[6]),(3000001,[])]
def Qwl  (o1:Bool):St:=⟨[(6,.p (bV o1))],⟨[],[]⟩⟩
def Qtr (y:Int×Bool):D :=.tup [.p (iV y.1),.p (bV y.2)]
def Qcx (y:(List Qab)×Int×Int):D :=.tup [.p (.sl false (y.1.map Qae)),.p (iV y.2.1),.p (iV y.2.2)]
def Q1m:List (Nat×List Nat):=[(0,[1,2,3,4]),(1,[1,2,3,4,5]),(2,[1,2,3,4,5,14]),(3,[2,3,4]),(4,[1,2,3,4,6]),(5,[2,3,4,6]),(6,[2,3,4]),(7,[2,3,4,26]),(8,[2,3,4]),(9,[2,3,4,30]),(10,[2,3,4]),(11,[2,3,4]),(9400003,[]),(9600006,[1]),(9700006,[2,3,4])]
def Qhl (y:(List Qab)×Int):D :=.p (.sl false (y.1.map Qae))
def Qk8:List (Nat×List Nat):=[(0,[0]),(1,[0,5]),(2,[2]),(3,[0,3]),(4,[0,3,15]),(5,[0,3]),(6,[3]),(7,[2]),(1000004,[0,3]),(3000004,[]),(9600003,[1]),(9600005,[2]),(9600006,[1])]
def Qp4 (h0_0:(List Qaa)) (v3:(List Qab)) (o8:Bool×Int):St:=⟨[(0,.ptr 0 0),(3,.own 0 1000037 7 (v3.map Qae)),(15,.p (bV o8.1))],⟨[[.p (.sl false (h0_0.map Qad)),.p (iV o8.2)]],[(v3.map Qae).length]⟩⟩
def Qe3 (h0_0:(List Qaa)) (v3:(List Qab)) (h0_1_:Int):St:=⟨[(0,.ptr 0 0),(3,.own 0 1000037 7 (v3.map Qae))],⟨[[.p (.sl false (h0_0.map Qad)),.p (iV h0_1_)]],[(v3.map Qae).length]⟩⟩
def Qiu (h0_0:(List Qaa)) (y6:(List Qab)×Int):St:=⟨[(0,.ptr 0 0),(3,.own 0 1000037 7 (y6.1.map Qae))],⟨[[.p (.sl false (h0_0.map Qad)),.p (iV y6.2)]],[(y6.1.map Qae).length]⟩⟩
def Qiv (h0_0:(List Qaa)) (y7:Int):St:=⟨[],⟨[[.p (.sl false (h0_0.map Qad)),.p (iV y7)]],[]⟩⟩
def Qp5:Code:=((Qbc (Tryz.f120.body.getD .skip)).getD 0 .skip)
def Qgw (y:(List Qab)×Int×Int):D :=.tup [.p (.sl false (y.1.map Qae)),.p (iV y.2.1)]
def Qb9:List (Nat×List Nat):=[(0,[0,1,2]),(1,[0,1,2,8]),(2,[0,1,2,8,20]),(3,[0,1,2,8,9]),(4,[0,1,2,8,9,10]),(5,[0,1,2,8,9,10,27]),(6,[0,1,2,8,9,10,37]),(7,[0,1,2,8]),(8,[0,1,2,8]),(9,[0,1,2,8]),(10,[0,1,2,8,56]),(11,[0,1,2,8,59]),(12,[8]),(13,[6,7]),(14,[0,1,2,8,68]),(15,[8]),(16,[6,7]),(17,[0,1,2,8]),(18,[8]),(19,[6,7]),(1000002,[0,1,2,8]),(3000006,[]),(3000011,[]),(3000014,[]),(5000007,[2002,2003,2004]),(9000003,[1,0,0,0]),(9000006,[5,0,0,0,6,0,0,0,7,0,0,0]),(9000007,[8,0,0,0,9,0,0,0,10,1,8,0]),(9000008,[5,0,0,0]),(9000017,[4,0,0,0]),(9500013,[]),(9500016,[]),(9500019,[]),(9600009,[1]),(9600012,[1]),(9600015,[1]),(9600017,[2]),(9600018,[3]),(9800007,[8]),(7000007,[0,1,2,8,38,39,45])]
def Qoz (p1:Bool) (p2:Bool) (h0_0:(List Qaa)) (v8:(List Qab)) (x8:Qaa) (x9:Bool×Int) (o10:Bool):St:=⟨[(0,.ptr 0 0),(1,.p (bV p1)),(2,.p (bV p2)),(8,.x 0 1 (.sl 37 7 (v8.map Qae))),(9,.p (iV (wr ((v8.length:Int)-1)))),(10,.ptr 1 0),(37,.p (bV o10))],⟨[[.p (.sl false (h0_0.map Qad)),.p (iV x9.2)],[.p (iV x8.Kind),.p (sV x8.Text),.p (iV x8.N),.p (iV x8.From),.p (iV x8.To)]],[1]⟩⟩
def Qo0 (p1:Bool) (p2:Bool) (h0_0:(List Qaa)) (v8:(List Qab)) (x8:Qaa) (o19:Bool×Int):St:=⟨[(0,.ptr 0 0),(1,.p (bV p1)),(2,.p (bV p2)),(8,.x 0 1 (.sl 37 7 (v8.map Qae))),(59,.p (bV o19.1))],⟨[[.p (.sl false (h0_0.map Qad)),.p (iV o19.2)],[.p (iV x8.Kind),.p (sV x8.Text),.p (iV x8.N),.p (iV x8.From),.p (iV x8.To)]],[1]⟩⟩
def Qo1 (p1:Bool) (p2:Bool) (h0_0:(List Qaa)) (v8:(List Qab)) (x8:Qaa) (o24:Bool×Int):St:=⟨[(0,.ptr 0 0),(1,.p (bV p1)),(2,.p (bV p2)),(8,.x 0 1 (.sl 37 7 (v8.map Qae))),(68,.p (bV o24.1))],⟨[[.p (.sl false (h0_0.map Qad)),.p (iV o24.2)],[.p (iV x8.Kind),.p (sV x8.Text),.p (iV x8.N),.p (iV x8.From),.p (iV x8.To)]],[1]⟩⟩
def Qb8 (p1:Bool) (p2:Bool) (h0_0:(List Qaa)) (v8:(List Qab)) (h0_1_:Int):St:=⟨[(0,.ptr 0 0),(1,.p (bV p1)),(2,.p (bV p2)),(8,.x 0 1 (.sl 37 7 (v8.map Qae)))],⟨[[.p (.sl false (h0_0.map Qad)),.p (iV h0_1_)]],[1]⟩⟩
def Qh8 (p1:Bool) (p2:Bool) (h0_0:(List Qaa)) (y5:(List Qab)×Int):St:=⟨[(0,.ptr 0 0),(1,.p (bV p1)),(8,.x 0 1 (.sl 37 7 (y5.1.map Qae)))],⟨[[.p (.sl false (h0_0.map Qad)),.p (iV y5.2)]],[1]⟩⟩
def Qh9 (p1:Bool) (p2:Bool) (h0_0:(List Qaa)) (y6:(List Qab)×Int×Int):St:=⟨[(6,.p (.sl false (y6.1.map Qae))),(7,.p (iV y6.2.1))],⟨[[.p (.sl false (h0_0.map Qad)),.p (iV y6.2.2)]],[1]⟩⟩
def Qia (p1:Bool) (p2:Bool) (h0_0:(List Qaa)) (y7:Int):St:=⟨[],⟨[[.p (.sl false (h0_0.map Qad)),.p (iV y7)]],[1]⟩⟩
def Qo2:Code:=((Qbc (Tryz.f17.body.getD .skip)).getD 0 .skip)
def Qgu (p1:Bool) (p2:Bool) (h0_0:(List Qaa)) (h0_1:Int) (w0:Unit):St:=⟨[(0,.ptr 0 0),(1,.p (bV p1)),(2,.p (bV p2)),(8,.p (.sl true []))],⟨[[.p (.sl false (h0_0.map Qad)),.p (iV h0_1)]],[]⟩⟩
def Qib (p1:Bool) (p2:Bool) (h0_0:(List Qaa)) (h0_1:Int) (y2:(List Qab)×Int×Int):St:=⟨[(6,.p (.sl false (y2.1.map Qae))),(7,.p (iV y2.2.1))],⟨[[.p (.sl false (h0_0.map Qad)),.p (iV y2.2.2)]],[1]⟩⟩
def Qic (p1:Bool) (p2:Bool) (h0_0:(List Qaa)) (h0_1:Int) (y3:Int):St:=⟨[],⟨[[.p (.sl false (h0_0.map Qad)),.p (iV y3)]],[1]⟩⟩
def Qiw:Code:=((Qim (Tryz.f17.body.getD .skip)).getD 0 .skip)
def Qkl (y:(List Qab)×Int):D :=.p (.sl false (y.1.map Qae))
def Qp6:List (Nat×List Nat):=[(0,[0]),(1,[0,3]),(2,[3]),(3,[2]),(9600001,[1]),(9600002,[1])]
def Qhm (y:Qab×Int):D :=.p (.agg [iV y.1.Kind,sV y.1.Name,sV y.1.Text,iV y.1.N,.sl false (y.1.L.map Qae),.sl false (y.1.Then.map Qae),.sl false (y.1.Else.map Qae)])
def Qk9:List (Nat×List Nat):=[(0,[0,2]),(1,[0,2,3]),(2,[0,2,3,7]),(3,[0,2,3]),(4,[2]),(1000002,[0,2,3]),(5000003,[1,1003,1006]),(8000003,[2]),(9600001,[1]),(9600003,[1])]
def Qe4 (h0_0:(List Qaa)) (h0_1_:Int) (h2_0:Int) (h2_1:(List UInt8)) (h2_2:(List UInt8)) (h2_3:Int) (h2_4:(List Qab)) (h2_5:(List Qab)) (h2_6:(List Qab)):St:=⟨[(0,.ptr 0 0),(2,.ptr 1 0),(3,.ptr 2 0)],⟨[[.p (.sl false (h0_0.map Qad)),.p (iV h0_1_)],[.p (iV 0),.p (sV []),.p (sV []),.p (iV 0),.p (.sl true []),.p (.sl true []),.p (.sl true [])],[.p (iV h2_0),.p (sV h2_1),.p (sV h2_2),.p (iV h2_3),.p (.sl false (h2_4.map Qae)),.p (.sl false (h2_5.map Qae)),.p (.sl false (h2_6.map Qae))]],[]⟩⟩
def Qix (h0_0:(List Qaa)) (y5:Int×Int×(List UInt8)×(List UInt8)×Int×(List Qab)×(List Qab)×(List Qab)):St:=⟨[(2,.ptr 1 0),(3,.ptr 2 0)],⟨[[.p (.sl false (h0_0.map Qad)),.p (iV y5.1)],[.p (iV 0),.p (sV []),.p (sV []),.p (iV 0),.p (.sl true []),.p (.sl true []),.p (.sl true [])],[.p (iV y5.2.1),.p (sV y5.2.2.1),.p (sV y5.2.2.2.1),.p (iV y5.2.2.2.2.1),.p (.sl false (y5.2.2.2.2.2.1.map Qae)),.p (.sl false (y5.2.2.2.2.2.2.1.map Qae)),.p (.sl false (y5.2.2.2.2.2.2.2.map Qae))]],[]⟩⟩
def Qiy (h0_0:(List Qaa)) (y6:Int×Int×(List UInt8)×(List UInt8)×Int×(List Qab)×(List Qab)×(List Qab)):St:=⟨[],⟨[[.p (.sl false (h0_0.map Qad)),.p (iV y6.1)],[.p (iV 0),.p (sV []),.p (sV []),.p (iV 0),.p (.sl true []),.p (.sl true []),.p (.sl true [])],[.p (iV y6.2.1),.p (sV y6.2.2.1),.p (sV y6.2.2.2.1),.p (iV y6.2.2.2.2.1),.p (.sl false (y6.2.2.2.2.2.1.map Qae)),.p (.sl false (y6.2.2.2.2.2.2.1.map Qae)),.p (.sl false (y6.2.2.2.2.2.2.2.map Qae))]],[]⟩⟩
def Qp7:Code:=((Qbc (Tryz.f92.body.getD .skip)).getD 0 .skip)
def Qb0 (y:Qab×Int):D :=.p (.agg [iV y.1.Kind,sV y.1.Name,sV y.1.Text,iV y.1.N,.sl false (y.1.L.map Qae),.sl false (y.1.Then.map Qae),.sl false (y.1.Else.map Qae)])
def Qra:List (Nat×List Nat):=[(0,[0,2]),(1,[0,2,3]),(2,[0,2,3,8]),(3,[2,3]),(4,[2]),(5,[0,2,3,22]),(6,[2,3]),(7,[2]),(8,[0,2,36]),(9,[2]),(10,[0,2,40]),(11,[2]),(12,[0,2,44]),(13,[0,2]),(14,[0,2]),(15,[0,2,4]),(16,[2,4]),(17,[2]),(18,[0,2,5]),(19,[0,2,5,66]),(20,[2,5]),(21,[2]),(9600013,[1]),(9600014,[5]),(9600015,[1]),(9600016,[1]),(9600018,[1]),(9600020,[1])]
def Quc (_:Unit):D :=.tup []
def Qmb (y:(List UInt8)×Int):D :=.p (sV y.1)
def Qsw:List (Nat×List Nat):=[(0,[0]),(1,[0]),(2,[2]),(9600001,[5]),(9600002,[1])]
def Qhn (y:Qaa):D :=.p (.agg [iV y.Kind,sV y.Text,iV y.N,iV y.From,iV y.To])
def Qsx:List (Nat×List Nat):=[(0,[0,2]),(1,[0,2,12]),(2,[2]),(3,[2])]
def Qgx (y:Int):D :=.p (iV y)
def Qrb:List (Nat×List Nat):=[(0,[0,1]),(1,[0,1,14]),(2,[4]),(3,[4])]
def Qho (y:Bool×Int):D :=.p (bV y.1)
def Qsy:List (Nat×List Nat):=[(0,[0,1]),(1,[0,9]),(2,[4]),(3,[]),(4,[4])]
def Qcp (y:Qab×Int):D :=.p (.agg [iV y.1.Kind,sV y.1.Name,sV y.1.Text,iV y.1.N,.sl false (y.1.L.map Qae),.sl false (y.1.Then.map Qae),.sl false (y.1.Else.map Qae)])
def Qsz:List (Nat×List Nat):=[(0,[0,2]),(1,[0,2,3]),(2,[2,3]),(3,[0,2,3,8]),(4,[0,2,3]),(5,[0,2,3]),(6,[0,2,3,4]),(7,[0,2,3,21]),(8,[2,3]),(9,[0,2,3,28]),(10,[0,2,3]),(11,[0,2,3]),(12,[0,2,3]),(13,[2,3]),(14,[0,2,3,47]),(15,[0,2,3]),(16,[0,2,3]),(17,[0,2,3]),(18,[2,3]),(19,[0,2,3,64]),(20,[0,2,3]),(21,[2,3]),(22,[2]),(9600002,[1]),(9600004,[1]),(9600006,[1]),(9600008,[1]),(9600010,[1]),(9600011,[3]),(9600012,[1]),(9600013,[1]),(9600015,[1]),(9600016,[1]),(9600017,[1]),(9600018,[1]),(9600020,[1]),(9600021,[1])]
def Qmc (y:Qaa×Int):D :=.p (.agg [iV y.1.Kind,sV y.1.Text,iV y.1.N,iV y.1.From,iV y.1.To])
def Qs0:List (Nat×List Nat):=[(0,[0,1,4]),(1,[0,1,4,5]),(2,[0,4,5]),(3,[4,5]),(4,[4]),(9600002,[5])]
def Qhp (y:Bool×Int):D :=.p (bV y.1)
def Qs1:List (Nat×List Nat):=[(0,[0,1]),(1,[0,1,5]),(2,[0,16]),(3,[4]),(4,[]),(5,[4]),(3000002,[])]
def Qp8 (h0_0:(List Qaa)) (h0_1:Int) (x1:Qaa) (o2:Bool):St:=⟨[(0,.ptr 0 0),(16,.p (bV o2))],⟨[[.p (.sl false (h0_0.map Qad)),.p (iV h0_1)],[.p (iV x1.Kind),.p (sV x1.Text),.p (iV x1.N),.p (iV x1.From),.p (iV x1.To)]],[]⟩⟩
def Qmr (y:(List UInt8)):D :=.p (sV y)
def Qfh (y:Unit×Bool×(List Int)):D :=.p (.v .nilIface)
def Qkm:List (Nat×List Nat):=[(0,[0,1]),(1,[0,1]),(2,[]),(3,[4])]
def Qep (y:Int×Unit×Bool×(List Int)):D :=.tup [.p (iV y.1),.p (.v .nilIface)]
def Qja:List (Nat×List Nat):=[(0,[0,1]),(1,[0,1]),(2,[1]),(3,[4,5])]
def Qk0 (_:Bool):D :=.tup []
def Qhq (y:Bool):D :=.p (bV y)
def Qs2:List (Nat×List Nat):=[(0,[0,1]),(1,[4])]
def Qiz (y:Int):D :=.p (iV y)
def Qxt:List (Nat×List Nat):=[(0,[0,1]),(1,[4])]
def Qm5 (y:(List UInt8)):D :=.p (sV y)
def Qrc (y:Int):D :=.p (iV y)
def Qo3:List (Nat×List Nat):=[(0,[0]),(1,[0,3]),(2,[3,5]),(3,[3,5]),(4,[2]),(4000003,[3,5])]
def Qg9 (x1:(List Qab)×Int) (h0_0:Int):St:=⟨[(3,.ptr 0 0),(5,.fn (.func 59) [] [.p (.ep [.sl false (x1.1.map Qae)]),.p (.ep [iV x1.2])])],⟨[[.p (iV h0_0)]],[]⟩⟩
def Qpq (x1:(List Qab)×Int) (o6:Int):St:=⟨[(3,.ptr 0 0),(5,.fn (.func 59) [] [.p (.ep [.sl false (x1.1.map Qae)]),.p (.ep [iV x1.2])])],⟨[[.p (iV o6)]],[]⟩⟩
def Qmd:Code:=((Qbc (Tryz.f18.body.getD .skip)).getD 0 .skip)
def Qud (y:Int):D :=.p (iV y)
def Qrd:List (Nat×List Nat):=[(0,[0,5]),(1,[0,3,5]),(2,[3,5,7]),(3,[3,5,7]),(4,[3,5,7]),(5,[2]),(4000003,[3,5,7])]
def Qi0 (x1:(List Qab)×Int) (h0_0:Int):St:=⟨[(3,.ptr 0 0),(7,.fn (.func 59) [] [.p (.ep [.sl false (x1.1.map Qae)]),.p (.ep [iV x1.2])])],⟨[[.p (iV h0_0)]],[]⟩⟩
def Qre (x1:(List Qab)×Int) (o6:Int):St:=⟨[(3,.ptr 0 0),(7,.fn (.func 59) [] [.p (.ep [.sl false (x1.1.map Qae)]),.p (.ep [iV x1.2])])],⟨[[.p (iV o6)]],[]⟩⟩
def Qns:Code:=((Qbc (Tryz.f19.body.getD .skip)).getD 0 .skip)
def Qo4 (y:Bool):D :=.p (bV y)
def Q7j:List (Nat×List Nat):=[(0,[0]),(1,[0,3]),(2,[0,3,4]),(3,[0,3,4]),(4,[0,3,4]),(5,[0,3,4]),(6,[0,3,4]),(7,[0,3,4]),(8,[0,3,4]),(9,[0,3,4]),(10,[0,3,4]),(11,[0,4]),(12,[2]),(13,[2]),(2002037,[])]
def Q1n (p0:(List UInt8)) (o1:Bool):St:=⟨[(0,.p (sV p0)),(4,.p (bV o1))],⟨[],[]⟩⟩
def Qn7 (y:(List Qab)×Int):D :=.fn (.func 59) [] [.p (.ep [.sl false (y.1.map Qae)]),.p (.ep [iV y.2])]
def Q9y:List (Nat×List Nat):=[(0,[2,3]),(1,[4])]
def Qcr (y:(Qab×Int)):List V:=[.agg [iV y.1.Kind,sV y.1.Name,sV y.1.Text,iV y.1.N,.sl false (y.1.L.map Qae),.sl false (y.1.Then.map Qae),.sl false (y.1.Else.map Qae)],iV y.2]
def Qi1:List (Nat×List Nat):=[(0,[1,2,3,8,9]),(1,[2,3,8,9,10,11,12]),(2,[2,3,8,9,10,11,12,13]),(3,[2,3,5,8,9,10,11,12]),(4,[2,3,5,8,9,10,11,12,20]),(5,[2,3,8,9,10,11,12,27,28]),(6,[2,3,8,9,10,11,12,27,28,29]),(7,[2,3,7,8,9,10,11,12,27,28]),(8,[2,3,8,9,10,11,12,27,28,34]),(9,[2,3,8,10,11,12,27,28,34,36]),(10,[2,3,8,9,10,11,12,27,28,34]),(11,[2,3,8,9,10,11,12,27,28,34,41]),(12,[2,3,8,9,10,11,12,27,28]),(13,[2,3,8,9,10,11,12]),(1000002,[2,3,8,9,10,11,12]),(1000006,[2,3,8,9,10,11,12,27,28]),(4000009,[2,3,8,9,10,11,12,27,28,34])]
def Qha (p0:(List Qab)) (p1:Int) (v12:Int) (x3:Qab) (v28:Int) (x7:(List Qab)×Int) (gxs gp:List (List V)):St:=⟨[(2,.p (.ep [iV p1])),(3,.ptr 0 0),(10,.p (.sl false (p0.map Qae))),(11,.p (iV (p0.length:Int))),(12,.p (iV v12)),(27,.p (.agg [.sl false (x3.L.map Qae),.sl false (x3.Then.map Qae),.sl false (x3.Else.map Qae)])),(28,.p (iV v28)),(34,.fn (.func 59) [] [.p (.ep [.sl false (x7.1.map Qae)]),.p (.ep [iV x7.2])])],⟨[[.yld Tryz.prog 0 gxs],[.p (iV x3.Kind),.p (sV x3.Name),.p (sV x3.Text),.p (iV x3.N),.p (.sl false (x3.L.map Qae)),.p (.sl false (x3.Then.map Qae)),.p (.sl false (x3.Else.map Qae))]],[gp.length]⟩⟩
def Qpr (p0:(List Qab)) (p1:Int) (v12:Int) (x3:Qab) (v28:Int) (x7:(List Qab)×Int) (gxs:List (List V)) (gq12:List (List V)) (oy:Unit):St:=⟨[(2,.p (.ep [iV p1])),(3,.ptr 0 0),(10,.p (.sl false (p0.map Qae))),(11,.p (iV (p0.length:Int))),(12,.p (iV v12)),(27,.p (.agg [.sl false (x3.L.map Qae),.sl false (x3.Then.map Qae),.sl false (x3.Else.map Qae)])),(28,.p (iV v28)),(34,.fn (.func 59) [] [.p (.ep [.sl false (x7.1.map Qae)]),.p (.ep [iV x7.2])])],⟨[[.yld Tryz.prog 0 gxs],[.p (iV x3.Kind),.p (sV x3.Name),.p (sV x3.Text),.p (iV x3.N),.p (.sl false (x3.L.map Qae)),.p (.sl false (x3.Then.map Qae)),.p (.sl false (x3.Else.map Qae))]],[gq12.length]⟩⟩
def Qme:Code:=((Qbc (Tryz.f59.body.getD .skip)).getD 2 .skip)
def Qk1 (p0:(List Qab)) (p1:Int) (v12:Int) (x3:Qab) (v28:Int) (gxs gp:List (List V)):St:=⟨[(2,.p (.ep [iV p1])),(3,.ptr 0 0),(10,.p (.sl false (p0.map Qae))),(11,.p (iV (p0.length:Int))),(12,.p (iV v12)),(27,.p (.agg [.sl false (x3.L.map Qae),.sl false (x3.Then.map Qae),.sl false (x3.Else.map Qae)])),(28,.p (iV v28))],⟨[[.yld Tryz.prog 0 gxs],[.p (iV x3.Kind),.p (sV x3.Name),.p (sV x3.Text),.p (iV x3.N),.p (.sl false (x3.L.map Qae)),.p (.sl false (x3.Then.map Qae)),.p (.sl false (x3.Else.map Qae))]],[gp.length]⟩⟩
def Qps (p0:(List Qab)) (p1:Int) (v12:Int) (x3:Qab) (gxs:List (List V)) (gq4:List (List V)) (oy:Unit):St:=⟨[(2,.p (.ep [iV p1])),(3,.ptr 0 0),(10,.p (.sl false (p0.map Qae))),(11,.p (iV (p0.length:Int))),(12,.p (iV v12))],⟨[[.yld Tryz.prog 0 gxs],[.p (iV x3.Kind),.p (sV x3.Name),.p (sV x3.Text),.p (iV x3.N),.p (.sl false (x3.L.map Qae)),.p (.sl false (x3.Then.map Qae)),.p (.sl false (x3.Else.map Qae))]],[gq4.length]⟩⟩
def Qz1:Code:=((Qbc (Tryz.f59.body.getD .skip)).getD 1 .skip)
def Qk2 (p0:(List Qab)) (p1:Int) (v12:Int) (gxs gp:List (List V)):St:=⟨[(2,.p (.ep [iV p1])),(3,.ptr 0 0),(10,.p (.sl false (p0.map Qae))),(11,.p (iV (p0.length:Int))),(12,.p (iV v12))],⟨[[.yld Tryz.prog 0 gxs]],[gp.length]⟩⟩
def Qpt (p0:(List Qab)) (p1:Int) (gxs:List (List V)) (gq1:List (List V)) (oy:Unit):St:=⟨[],⟨[[.yld Tryz.prog 0 gxs]],[gq1.length]⟩⟩
def Qz2:Code:=((Qbc (Tryz.f59.body.getD .skip)).getD 0 .skip)
def Qlr (y:Int×Int):D :=.tup [.p (nV .i32 y.1),.p (iV y.2)]
def Q9z:List (Nat×List Nat):=[(0,[0,1]),(1,[0,1,17]),(2,[4,5]),(3,[0,1,6]),(4,[4,5]),(5,[0,1,6,21]),(6,[4,5]),(7,[0,1,6,26]),(8,[0,1,4,7,8]),(9,[0,1,6,36]),(10,[0,1,4,7,8]),(11,[0,1,6,46]),(12,[0,1,4,7,8]),(13,[4,7,8,9]),(14,[4,8,77]),(15,[4,5]),(16,[4,5]),(2004022,[]),(3000001,[]),(3000007,[]),(3000009,[]),(3000011,[]),(3000014,[])]
def Q4j (p0:(List UInt8)) (p1:Int) (o1:Bool):St:=⟨[(0,.p (sV p0)),(1,.p (iV p1)),(17,.p (bV o1))],⟨[],[]⟩⟩
def Q4k (p0:(List UInt8)) (p1:Int) (y4:Int×Int×Int):St:=⟨[(0,.p (sV p0)),(1,.p (iV p1)),(4,.p (nV .i32 y4.1)),(7,.p (nV .i32 y4.2.1)),(8,.p (iV y4.2.2))],⟨[],[]⟩⟩
def Q4l (p0:(List UInt8)) (p1:Int) (y5:Int):St:=⟨[(4,.p (nV .i32 y5)),(5,.p (iV 1))],⟨[],[]⟩⟩
def Q4m (p0:(List UInt8)) (p1:Int) (x2:UInt8) (o6:Bool):St:=⟨[(0,.p (sV p0)),(1,.p (iV p1)),(6,.p (nV .u8 (x2.toNat:Int))),(26,.p (bV o6))],⟨[],[]⟩⟩
def Q4n (p0:(List UInt8)) (p1:Int) (x2:UInt8) (o7:Bool):St:=⟨[(0,.p (sV p0)),(1,.p (iV p1)),(6,.p (nV .u8 (x2.toNat:Int))),(36,.p (bV o7))],⟨[],[]⟩⟩
def Q4o (p0:(List UInt8)) (p1:Int) (x2:UInt8) (o8:Bool):St:=⟨[(0,.p (sV p0)),(1,.p (iV p1)),(6,.p (nV .u8 (x2.toNat:Int))),(46,.p (bV o8))],⟨[],[]⟩⟩
def Q4p (y4:Int×Int×Int) (x10:Int×Bool) (o11:Bool):St:=⟨[(4,.p (nV .i32 x10.1)),(8,.p (iV y4.2.2)),(77,.p (bV o11))],⟨[],[]⟩⟩
def Q4q (y:Bool):D :=.p (bV y)
def Qafi:List (Nat×List Nat):=[(0,[0]),(1,[2]),(3000001,[])]
def Q90  (o1:Bool):St:=⟨[(2,.p (bV o1))],⟨[],[]⟩⟩
def Qn8 (y:Int×Bool):D :=.tup [.p (nV .i32 y.1),.p (bV y.2)]
def Qz3:List (Nat×List Nat):=[(0,[0,1,2]),(1,[0,1,2,12]),(2,[6,7]),(3,[0,1,13,14]),(4,[0,1,13,14,15]),(5,[0,1,8,13,14]),(6,[0,1,8,13,14,21]),(7,[6,7]),(8,[0,1,13,14]),(9,[0,1,13,14]),(10,[6,7]),(1000004,[0,1,13,14])]
def Qnt (p0:(List UInt8)) (p2:Int) (v1:Int) (v14:Int):St:=⟨[(0,.p (sV p0)),(1,.p (nV .i32 v1)),(13,.p (iV p2)),(14,.p (iV v14))],⟨[],[]⟩⟩
def Qts (p0:(List UInt8)) (p2:Int) (y2:Int):St:=⟨[(1,.p (nV .i32 y2))],⟨[],[]⟩⟩
def Qtt (p0:(List UInt8)) (p2:Int) (y3:Unit):St:=⟨[(6,.p (nV .i32 0)),(7,.p (bV false))],⟨[],[]⟩⟩
def Q4r:Code:=((Qbc (Tryz.f107.body.getD .skip)).getD 0 .skip)
def Qcs (p0:(List UInt8)) (p1:(List UInt8)) (p2:Int):Option (Bool) :=
 ( if(decide (p2 ≥ 0)) then
   if(decide (p2≤(p0.length:Int))) then
    if(decide ((p1.length:Int)≤(wr ((p0.length:Int)-p2)))) then
     cutL p0 p2 (wr (p2+(p1.length:Int)))>>=fun x2 =>
     some (x2==p1)
    else
     some false
   else
    some false
  else
   some false:Option (Bool))>>=fun o1 =>
 some o1
theorem Qlg:∀ (p0:(List UInt8)) (p1:(List UInt8)) (p2:Int) (o:Bool),Qcs p0 p1 p2=some o→PCall Tryz.prog 40 [sV p0,sV p1,iV p2] (Qh4 o):=by
 intro p0 p1 p2 o h;unfold Qcs at h;refine PCall.ofB mixed tbOk Q3i Tryz.func40 rfl (by kernel_rfl) (Nat.le_of_ble_eq_true rfl) ?_;refine Qag h (fun o1 ho hk=>?_);refine Exists.intro (JP1 _ _ o1 .normal (Qza )) (And.intro ?_ (Qa5 ?_))
 ·have h:=ho;refine Qaf h (fun hb h=>?_) (fun hb h=>?_)
  ·refine vrfl ?_;refine Qaf h (fun hb h=>?_) (fun hb h=>?_)
   ·refine vrfl ?_;refine vrfl ?_;refine Qaf h (fun hb h=>?_) (fun hb h=>?_)
    ·refine vrfl ?_;refine Qel (some p2) (some (wr (p2+(p1.length:Int)))) h (fun x2 hi h=>?_);refine JP1.a h ?_;exact Le.tz 0 0 rfl rfl rfl
    ·refine JP1.a h ?_;exact Le.tz 0 0 rfl rfl rfl
   ·refine bF ?_;refine JP1.a h ?_;exact Le.tz 0 0 rfl rfl rfl
  ·refine bF ?_;refine bF ?_;refine JP1.a h ?_;exact Le.tz 0 0 rfl rfl rfl
 ·have h:=hk;refine Qao (t:=Qh4) h ?_;exact .refl _
def Qgc (p0:(List (List UInt8))) (p1:(List UInt8)) (v5:(List UInt8)) (v6:Int):Option ((List UInt8)) :=
 if(decide (v6<(p0.length:Int))) then
  if(decide (v6>0)) then
   need (v5.length+p1.length≤9223372036854775807)>>=fun _ =>
   idx p0 v6>>=fun x2 =>
   need ((v5++p1).length+x2.length≤9223372036854775807)>>=fun _ =>
   Qgc p0 p1 ((v5++p1)++x2) (wr (v6+1))
  else
   idx p0 v6>>=fun x3 =>
   need (v5.length+x3.length≤9223372036854775807)>>=fun _ =>
   Qgc p0 p1 (v5++x3) (wr (v6+1))
 else
  some v5
 partial_fixpoint
theorem Qafj:∀ (p0:(List (List UInt8))) (p1:(List UInt8)),(∀ (v5:(List UInt8)) (v6:Int) (o1:(List UInt8)),Qgc p0 p1 v5 v6=some o1→TL (0,0) Tryz.prog 25 Q3j (JP1 (0,0) 25 o1 (.exit 0) (Qtc p0 p1)) (Qj7 p0 p1 v5 v6)):=by
 intro p0 p1;refine Qgc.partial_correctness p0 p1 _ ?_;intro Qgc' iQgc v5 v6 o1 h;refine TL.round (Qan mixed tbOk (lv:=Qzb) _ _ _ ?_);refine view (Qaw _ _) rfl ?_;refine Qaf h (fun hb h=>?_) (fun hb h=>?_)
 ·refine Qaf h (fun hb h=>?_) (fun hb h=>?_)
  ·refine Qbb h (fun h=>?_);refine Qcv (l:=p0) (c:=cStr) (c' := cStr) h (fun _=>rfl) (fun _=>rfl) (by decide) (fun x2 hi h=>?_);refine Qbb h (fun h=>?_);refine TL.le (τ := Qj7 p0 p1 ((v5++p1)++x2) (wr (v6+1))) ?_ ((iQgc ((v5++p1)++x2) (wr (v6+1)) _ h));exact Le.tz 0 0 rfl rfl rfl
  ·refine Qcv (l:=p0) (c:=cStr) (c' := cStr) h (fun _=>rfl) (fun _=>rfl) (by decide) (fun x3 hi h=>?_);refine Qbb h (fun h=>?_);refine TL.le (τ := Qj7 p0 p1 (v5++x3) (wr (v6+1))) ?_ ((iQgc (v5++x3) (wr (v6+1)) _ h));exact Le.tz 0 0 rfl rfl rfl
 ·exact JP1.a h (Le.tz 0 0 rfl rfl rfl)
def Qvh (p0:(List (List UInt8))) (p1:(List UInt8)):Option ((List UInt8)) :=
 (Qgc p0 p1 [] 0)>>=fun o1 =>
 some o1
theorem Q91:∀ (p0:(List (List UInt8))) (p1:(List UInt8)) (o:(List UInt8)),Qvh p0 p1=some o→PCall Tryz.prog 74 [.sl false (p0.map cStr),sV p1] (Qwj o):=by
 intro p0 p1 o h;unfold Qvh at h;refine PCall.ofB mixed tbOk Qzb Tryz.func74 rfl (by kernel_rfl) (Nat.le_of_ble_eq_true rfl) ?_;refine Qag h (fun o1 ho hk=>?_);refine Exists.intro (JP1 _ _ o1 (.exit 0) (Qtc p0 p1)) (And.intro (Qnx (τ := Qj7 p0 p1 [] 0) ?_ (TL.loop (Qafj p0 p1 [] 0 o1 ho))) (Qa5 ?_))
 ·exact Le.tz 0 0 rfl rfl rfl
 have h:=hk;refine Qao (t:=Qwj) h ?_;exact .refl _
def Qsb (p0:(List UInt8)):Option (Int×Bool) :=
 need (p0.length≤9223372036854775807)>>=fun _ =>
 some (Qu3 p0)
theorem Q4s:∀ (p0:(List UInt8)) (o:Int×Bool),Qsb p0=some o→PCall Tryz.prog 65 [sV p0] (Qw7 o):=by
 intro p0 o h;unfold Qsb at h;obtain⟨h1,h⟩:=Qly h;cases h;exact Qac4 _ h1
def Qya (p0:Int):Option ((List UInt8)) :=
 need (-9223372036854775808≤p0)>>=fun _ =>
 need (p0≤9223372036854775807)>>=fun _ =>
 some (Qd1 p0)
theorem Q92:∀ (p0:Int) (o:(List UInt8)),Qya p0=some o→PCall Tryz.prog 73 [iV p0] (Q2b o):=by
 intro p0 o h;unfold Qya at h;obtain⟨h1,h⟩:=Qly h;obtain⟨h2,h⟩:=Qly h;cases h;exact Qaic _ h1 h2
def Qo5 (p0:Int):Option (Bool) :=
 ( if(decide (p0 ≥ 0)) then
   if(decide (p0≤1114111)) then
    if(decide (p0 ≥ 55296)) then
     some (!(decide (p0≤57343)))
    else
     some true
   else
    some false
  else
   some false:Option (Bool))>>=fun o1 =>
 some o1
theorem Qz4:∀ (p0:Int) (o:Bool),Qo5 p0=some o→PCall Tryz.prog 112 [iV p0] (Qr8 o):=by
 intro p0 o h;unfold Qo5 at h;refine PCall.ofB mixed tbOk Q9t Tryz.func112 rfl (by kernel_rfl) (Nat.le_of_ble_eq_true rfl) ?_;refine Qag h (fun o1 ho hk=>?_);refine Exists.intro (JP1 _ _ o1 .normal (Q3p )) (And.intro ?_ (Qa5 ?_))
 ·have h:=ho;refine Qaf h (fun hb h=>?_) (fun hb h=>?_)
  ·refine Qaf h (fun hb h=>?_) (fun hb h=>?_)
   ·refine Qaf h (fun hb h=>?_) (fun hb h=>?_)
    ·refine JP1.a h ?_;exact Le.tz 0 0 rfl rfl rfl
    ·refine JP1.a h ?_;exact Le.tz 0 0 rfl rfl rfl
   ·refine JP1.a h ?_;exact Le.tz 0 0 rfl rfl rfl
  ·refine bF ?_;refine JP1.a h ?_;exact Le.tz 0 0 rfl rfl rfl
 ·have h:=hk;refine Qao (t:=Qr8) h ?_;exact .refl _
def Qn9 (p0:Int):Option ((List UInt8)) :=
 ( Qo5 p0>>=fun x2 =>
  if(!x2) then
   some 65533
  else
   some p0:Option (Int))>>=fun o1 =>
 if(decide (o1<128)) then
  b2s [(IntKind.u8.wrap o1)]>>=fun x3 =>
  some x3
 else
  if(decide (o1<2048)) then
   b2s [(IntKind.u8.wrap (wr (192+(wr (o1.tdiv 64))))),(IntKind.u8.wrap (wr (128+(o1.tmod 64))))]>>=fun x4 =>
   some x4
  else
   if(decide (o1<65536)) then
    b2s [(IntKind.u8.wrap (wr (224+(wr (o1.tdiv 4096))))),(IntKind.u8.wrap (wr (128+((wr (o1.tdiv 64)).tmod 64)))),(IntKind.u8.wrap (wr (128+(o1.tmod 64))))]>>=fun x5 =>
    some x5
   else
    b2s [(IntKind.u8.wrap (wr (240+(wr (o1.tdiv 262144))))),(IntKind.u8.wrap (wr (128+((wr (o1.tdiv 4096)).tmod 64)))),(IntKind.u8.wrap (wr (128+((wr (o1.tdiv 64)).tmod 64)))),(IntKind.u8.wrap (wr (128+(o1.tmod 64))))]>>=fun x6 =>
    some x6
theorem Q7k:∀ (p0:Int) (o:(List UInt8)),Qn9 p0=some o→PCall Tryz.prog 113 [iV p0] (Qjp o):=by
 intro p0 o h;unfold Qn9 at h;refine PCall.ofB mixed tbOk Q64 Tryz.func113 rfl (by kernel_rfl) (Nat.le_of_ble_eq_true rfl) ?_;refine Qag h (fun o1 ho hk=>?_);refine Exists.intro (JP1 _ _ o1 .normal (Q08 )) (And.intro ?_ (Qa5 ?_))
 ·have h:=ho;refine Qak [iV p0] Qr8 h (fun x2 hy=>(Qz4 p0 x2 hy)) (fun x2 hy h=>?_);refine Qaf h (fun hb h=>?_) (fun hb h=>?_)
  ·refine JP1.a h ?_;exact Le.tz 0 0 rfl rfl rfl
  ·refine JP1.a h ?_;exact Le.tz 0 0 rfl rfl rfl
 ·have h:=hk;refine Qaf h (fun hb h=>?_) (fun hb h=>?_)
  ·refine vrfl ?_;refine Qabg (l:=[(IntKind.u8.wrap o1)]) h (fun x3 hi h=>?_);refine Qao (t:=Qjp) h ?_;exact .refl _
  ·refine Qaf h (fun hb h=>?_) (fun hb h=>?_)
   ·refine And.intro (by decide) ?_;refine vrfl ?_;refine And.intro (by decide) ?_;refine vrfl ?_;refine Qabg (l:=[(IntKind.u8.wrap (wr (192+(wr (o1.tdiv 64))))),(IntKind.u8.wrap (wr (128+(o1.tmod 64))))]) h (fun x4 hi h=>?_);refine Qao (t:=Qjp) h ?_;exact .refl _
   ·refine Qaf h (fun hb h=>?_) (fun hb h=>?_)
    ·refine And.intro (by decide) ?_;refine vrfl ?_;refine And.intro (by decide) ?_;refine And.intro (by decide) ?_;refine vrfl ?_;refine And.intro (by decide) ?_;refine vrfl ?_;refine Qabg (l:=[(IntKind.u8.wrap (wr (224+(wr (o1.tdiv 4096))))),(IntKind.u8.wrap (wr (128+((wr (o1.tdiv 64)).tmod 64)))),(IntKind.u8.wrap (wr (128+(o1.tmod 64))))]) h (fun x5 hi h=>?_);refine Qao (t:=Qjp) h ?_;exact .refl _
    ·refine And.intro (by decide) ?_;refine vrfl ?_;refine And.intro (by decide) ?_;refine And.intro (by decide) ?_;refine vrfl ?_;refine And.intro (by decide) ?_;refine And.intro (by decide) ?_;refine vrfl ?_;refine And.intro (by decide) ?_;refine vrfl ?_;refine Qabg (l:=[(IntKind.u8.wrap (wr (240+(wr (o1.tdiv 262144))))),(IntKind.u8.wrap (wr (128+((wr (o1.tdiv 4096)).tmod 64)))),(IntKind.u8.wrap (wr (128+((wr (o1.tdiv 64)).tmod 64)))),(IntKind.u8.wrap (wr (128+(o1.tmod 64))))]) h (fun x6 hi h=>?_);refine Qao (t:=Qjp) h ?_;exact .refl _
def Qhr (p0:(List UInt8)) (p1:Int) (v6:(List Int)) (v7:Int) (v8:Int) (v9:Int):Option (Int) :=
 if(decide (v9<v7)) then
  idx p0 (wr (p1+v9))>>=fun x9 =>
  Qhr p0 p1 v6 v7 (wr ((wr ((wr (64*v8))+(wr (x9.toNat:Int))))-128)) (wr (v9+1))
 else
  some v8
 partial_fixpoint
theorem Qafk:∀ (p0:(List UInt8)) (p1:Int) (v6:(List Int)) (v7:Int),(∀ (v8:Int) (v9:Int) (o8:Int),Qhr p0 p1 v6 v7 v8 v9=some o8→TL (0,0) Tryz.prog 74 Q3m (JP1 (0,0) 74 o8 (.exit 2) (Qtd p0 p1 v6 v7)) (Qni p0 p1 v6 v7 v8 v9)):=by
 intro p0 p1 v6 v7;refine Qhr.partial_correctness p0 p1 v6 v7 _ ?_;intro Qhr' iQhr v8 v9 o8 h;refine TL.round (Qan mixed tbOk (lv:=Qt6) _ _ _ ?_);refine Qaf h (fun hb h=>?_) (fun hb h=>?_)
 ·refine Qcn h (fun x9 hi h=>?_);refine vrfl ?_;refine TL.le (τ := Qni p0 p1 v6 v7 (wr ((wr ((wr (64*v8))+(wr (x9.toNat:Int))))-128)) (wr (v9+1))) ?_ ((iQhr (wr ((wr ((wr (64*v8))+(wr (x9.toNat:Int))))-128)) (wr (v9+1)) _ h));exact Le.tz 0 0 rfl rfl rfl
 ·exact JP1.a h (Le.tz 0 0 rfl rfl rfl)
def Qee (p0:(List UInt8)) (p1:Int) (v6:(List Int)) (v7:Int):Option (Unit⊕(Int×Int)) :=
 ( if(decide (v7≤4)) then
   some (decide (v7≤(wr ((p0.length:Int)-p1))))
  else
   some false:Option (Bool))>>=fun o5 =>
 if o5 then
  idx p0 p1>>=fun x6 =>
  idx v6 v7>>=fun x7 =>
  (Qhr p0 p1 v6 v7 (wr ((wr (x6.toNat:Int))-x7)) 1)>>=fun o8 =>
  ( if(decide (o8 ≥ 0)) then
    Qo5 o8>>=fun x11 =>
    if x11 then
     Qn9 o8>>=fun x12 =>
     cutL p0 p1 (wr (p1+v7))>>=fun x13 =>
     some (x12==x13)
    else
     some false
   else
    some false:Option (Bool))>>=fun o10 =>
  if o10 then
   some (.inr (o8,v7))
  else
   Qee p0 p1 v6 (wr (v7+1))
 else
  some (.inl ())
 partial_fixpoint
theorem Qafl:∀ (p0:(List UInt8)) (p1:Int) (v6:(List Int)),(∀ (v7:Int) (o2:Unit⊕(Int×Int)),Qee p0 p1 v6 v7=some o2→TL (0,0) Tryz.prog 74 Q3o (JP2 (0,0) 74 o2 (.exit 0) (Qte p0 p1) .ret (Qtf p0 p1)) (Qnj p0 p1 v6 v7)):=by
 intro p0 p1 v6;refine Qee.partial_correctness p0 p1 v6 _ ?_;intro Qee' iQee v7 o2 h;refine TL.round (Qan mixed tbOk (lv:=Qt6) _ _ _ ?_);refine Qag h (fun o5 ho hk=>?_);refine Exists.intro (JP1 _ _ o5 .normal (Q3l p0 p1 v6 v7)) (And.intro ?_ (Qa5 ?_))
 ·have h:=ho;refine Qaf h (fun hb h=>?_) (fun hb h=>?_)
  ·refine vrfl ?_;refine JP1.a h ?_;exact Le.tz 0 0 rfl rfl rfl
  ·refine JP1.a h ?_;exact Le.tz 0 0 rfl rfl rfl
 ·have h:=hk;refine Qaf h (fun hb h=>?_) (fun hb h=>?_)
  ·refine And.intro (by decide +kernel) (And.intro rfl ?_);refine Qcn h (fun x6 hi h=>?_);refine vrfl ?_;refine Qcv (l:=v6) (c:=cInt) (c' := cInt) h (fun _=>rfl) (fun _=>rfl) (by decide) (fun x7 hi h=>?_);refine Qag h (fun o8 ho hk=>?_);refine Exists.intro (JP1 _ _ o8 (.exit 2) (Qtd p0 p1 v6 v7)) (And.intro (Qnx (τ := Qni p0 p1 v6 v7 (wr ((wr (x6.toNat:Int))-x7)) 1) ?_ (TL.loop (Qafk p0 p1 v6 v7 (wr ((wr (x6.toNat:Int))-x7)) 1 o8 ho))) (Qa5 ?_))
   ·exact Le.tz 0 0 rfl rfl rfl
   have h:=hk;refine Qag h (fun o10 ho hk=>?_);refine Exists.intro (JP1 _ _ o10 .normal (Q3n p0 p1 v6 v7 o8)) (And.intro ?_ (Qa5 ?_))
   ·have h:=ho;refine And.intro (by decide +kernel) (And.intro rfl ?_);refine Qaf h (fun hb h=>?_) (fun hb h=>?_)
    ·refine Qdc [iV o8] Qr8 h (fun x11 hy=>(Qz4 o8 x11 hy)) (fun x11 hy h=>?_);refine Qaf h (fun hb h=>?_) (fun hb h=>?_)
     ·refine Qdc [iV o8] Qjp h (fun x12 hy=>(Q7k o8 x12 hy)) (fun x12 hy h=>?_);refine Qel (some p1) (some (wr (p1+v7))) h (fun x13 hi h=>?_);refine JP1.a h ?_;exact Le.tz 0 0 rfl rfl rfl
     ·refine JP1.a h ?_;exact Le.tz 0 0 rfl rfl rfl
    ·refine bF ?_;refine JP1.a h ?_;exact Le.tz 0 0 rfl rfl rfl
   ·have h:=hk;refine Qaf h (fun hb h=>?_) (fun hb h=>?_)
    ·exact JP2.b h (Le.tz 0 0 rfl rfl rfl)
    ·refine TL.le (τ := Qnj p0 p1 v6 (wr (v7+1))) ?_ ((iQee (wr (v7+1)) _ h));exact Le.tz 0 0 rfl rfl rfl
  ·exact JP2.a h (Le.tz 0 0 rfl rfl rfl)
def Qsc (p0:(List UInt8)) (p1:Int):Option (Int×Int) :=
 ( if(decide (p1<0)) then
   some true
  else
   some (decide (p1 ≥ (p0.length:Int))):Option (Bool))>>=fun o1 =>
 if o1 then
  some (0,0)
 else
  (Qee p0 p1 [0,0,192,224,240] 1)>>=fun o2 =>
  match o2 with
  | .inl y3 =>
   some (65533,1)
  | .inr y4 =>
   some (y4.1,y4.2)
theorem Qz5:∀ (p0:(List UInt8)) (p1:Int) (o:Int×Int),Qsc p0 p1=some o→PCall Tryz.prog 94 [sV p0,iV p1] (Qlp o):=by
 intro p0 p1 o h;unfold Qsc at h;refine PCall.ofB mixed tbOk Qt6 Tryz.func94 rfl (by kernel_rfl) (Nat.le_of_ble_eq_true rfl) ?_;refine Qag h (fun o1 ho hk=>?_);refine Exists.intro (JP1 _ _ o1 .normal (Q3k p0 p1)) (And.intro ?_ (Qa5 ?_))
 ·have h:=ho;refine Qaf h (fun hb h=>?_) (fun hb h=>?_)
  ·refine JP1.a h ?_;exact Le.tz 0 0 rfl rfl rfl
  ·refine vrfl ?_;refine JP1.a h ?_;exact Le.tz 0 0 rfl rfl rfl
 ·have h:=hk;refine Qaf h (fun hb h=>?_) (fun hb h=>?_)
  ·refine Qao (t:=Qlp) h ?_;exact .refl _
  ·refine Qag h (fun o2 ho hk=>?_);refine Exists.intro (JP2 _ _ o2 (.exit 0) (Qte p0 p1) .ret (Qtf p0 p1)) (And.intro (Qnx (τ := Qnj p0 p1 [0,0,192,224,240] 1) ?_ (TL.loop (Qafl p0 p1 [0,0,192,224,240] 1 o2 ho))) (Qlx (fun y3 hy=>?_) (fun y4 hy=>?_)))
   ·exact Le.tz 0 0 rfl rfl rfl
   ·have h:=(by rw[hy] at hk; exact hk);refine Qao (t:=Qlp) h ?_;exact .refl _
   ·have h:=(by rw[hy] at hk; exact hk);refine Qao (t:=Qlp) h ?_;exact .refl _
def Qkn (p0:(List UInt8)) (v3:Int):Option (Unit⊕Unit) :=
 if(decide (v3<(p0.length:Int))) then
  Qsc p0 v3>>=fun x4 =>
  ( if(x4.1==65533) then
    some (x4.2==1)
   else
    some false:Option (Bool))>>=fun o5 =>
  if o5 then
   some (.inr ())
  else
   Qkn p0 (wr (v3+x4.2))
 else
  some (.inl ())
 partial_fixpoint
theorem Qaie:∀ (p0:(List UInt8)),(∀ (v3:Int) (o1:Unit⊕Unit),Qkn p0 v3=some o1→TL (0,0) Tryz.prog 25 Q9s (JP2 (0,0) 25 o1 (.exit 0) (Qw8 p0) .ret (Qw9 p0)) (Qqn p0 v3)):=by
 intro p0;refine Qkn.partial_correctness p0 _ ?_;intro Qkn' iQkn v3 o1 h;refine TL.round (Qan mixed tbOk (lv:=Q65) _ _ _ ?_);refine vrfl ?_;refine Qaf h (fun hb h=>?_) (fun hb h=>?_)
 ·refine Qak [sV p0,iV v3] Qlp h (fun x4 hy=>(Qz5 p0 v3 x4 hy)) (fun x4 hy h=>?_);refine Qag h (fun o5 ho hk=>?_);refine Exists.intro (JP1 _ _ o5 .normal (Q9r p0 v3 x4)) (And.intro ?_ (Qa5 ?_))
  ·have h:=ho;refine Qaf h (fun hb h=>?_) (fun hb h=>?_)
   ·refine JP1.a h ?_;exact Le.tz 0 0 rfl rfl rfl
   ·refine JP1.a h ?_;exact Le.tz 0 0 rfl rfl rfl
  ·have h:=hk;refine Qaf h (fun hb h=>?_) (fun hb h=>?_)
   ·exact JP2.b h (Le.tz 0 0 rfl rfl rfl)
   ·refine TL.le (τ := Qqn p0 (wr (v3+x4.2))) ?_ ((iQkn (wr (v3+x4.2)) _ h));exact Le.tz 0 0 rfl rfl rfl
 ·exact JP2.a h (Le.tz 0 0 rfl rfl rfl)
def Q7l (p0:(List UInt8)):Option (Bool) :=
 (Qkn p0 0)>>=fun o1 =>
 match o1 with
 | .inl y2 =>
  some true
 | .inr y3 =>
  some false
theorem Qafm:∀ (p0:(List UInt8)) (o:Bool),Q7l p0=some o→PCall Tryz.prog 100 [sV p0] (Qx9 o):=by
 intro p0 o h;unfold Q7l at h;refine PCall.ofB mixed tbOk Q65 Tryz.func100 rfl (by kernel_rfl) (Nat.le_of_ble_eq_true rfl) ?_;refine Qag h (fun o1 ho hk=>?_);refine Exists.intro (JP2 _ _ o1 (.exit 0) (Qw8 p0) .ret (Qw9 p0)) (And.intro (Qnx (τ := Qqn p0 0) ?_ (TL.loop (Qaie p0 0 o1 ho))) (Qlx (fun y2 hy=>?_) (fun y3 hy=>?_)))
 ·exact Le.tz 0 0 rfl rfl rfl
 ·have h:=(by rw[hy] at hk; exact hk);refine Qao (t:=Qx9) h ?_;exact .refl _
 ·have h:=(by rw[hy] at hk; exact hk);refine Qao (t:=Qx9) h ?_;exact .refl _
def Qev (p0:(List UInt8)) (v4:(List UInt8)) (v5:Int):Option ((List UInt8)⊕Unit) :=
 if(decide (v5<(p0.length:Int))) then
  cutL p0 v5 (wr (v5+1))>>=fun x5 =>
  if(x5==[13]) then
   some (.inr ())
  else
   ( if(x5==[10]) then
     some [92,110]
    else
     if(x5==[9]) then
      some [92,116]
     else
      ( if(x5==[34]) then
        some true
       else
        some (x5==[92]):Option (Bool))>>=fun o7 =>
      if o7 then
       need ([92].length+x5.length≤9223372036854775807)>>=fun _ =>
       some ([92]++x5)
      else
       some x5:Option ((List UInt8)))>>=fun o6 =>
   need (v4.length+o6.length≤9223372036854775807)>>=fun _ =>
   Qev p0 (v4++o6) (wr (v5+1))
 else
  some (.inl v4)
 partial_fixpoint
theorem Qadw:∀ (p0:(List UInt8)),(∀ (v4:(List UInt8)) (v5:Int) (o2:(List UInt8)⊕Unit),Qev p0 v4 v5=some o2→TL (0,0) Tryz.prog 40 Q1b (JP2 (0,0) 40 o2 (.exit 0) (Qqo p0) .ret (Qqp p0)) (Qlz p0 v4 v5)):=by
 intro p0;refine Qev.partial_correctness p0 _ ?_;intro Qev' iQev v4 v5 o2 h;refine TL.round (Qan mixed tbOk (lv:=Qxa) _ _ _ ?_);refine vrfl ?_;refine Qaf h (fun hb h=>?_) (fun hb h=>?_)
 ·refine Qel (some v5) (some (wr (v5+1))) h (fun x5 hi h=>?_);refine Qaf h (fun hb h=>?_) (fun hb h=>?_)
  ·exact JP2.b h (Le.tz 0 0 rfl rfl rfl)
  ·refine Qag h (fun o6 ho hk=>?_);refine Exists.intro (JP1 _ _ o6 .normal (Q09 p0 v4 v5)) (And.intro ?_ (Qa5 ?_))
   ·have h:=ho;refine Qaf h (fun hb h=>?_) (fun hb h=>?_)
    ·refine JP1.a h ?_;exact Le.tz 0 0 rfl rfl rfl
    ·refine Qaf h (fun hb h=>?_) (fun hb h=>?_)
     ·refine JP1.a h ?_;exact Le.tz 0 0 rfl rfl rfl
     ·refine Qag h (fun o7 ho hk=>?_);refine Exists.intro (JP1 _ _ o7 .normal (Q1a p0 v4 v5 x5)) (And.intro ?_ (Qa5 ?_))
      ·have h:=ho;refine Qaf h (fun hb h=>?_) (fun hb h=>?_)
       ·refine JP1.a h ?_;exact Le.tz 0 0 rfl rfl rfl
       ·refine JP1.a h ?_;exact Le.tz 0 0 rfl rfl rfl
      ·have h:=hk;refine Qaf h (fun hb h=>?_) (fun hb h=>?_)
       ·refine Qbb h (fun h=>?_);refine JP1.a h ?_;exact Le.tz 0 0 rfl rfl rfl
       ·refine JP1.a h ?_;exact Le.tz 0 0 rfl rfl rfl
   ·have h:=hk;refine Qbb h (fun h=>?_);refine TL.le (τ := Qlz p0 (v4++o6) (wr (v5+1))) ?_ ((iQev (v4++o6) (wr (v5+1)) _ h));exact Le.tz 0 0 rfl rfl rfl
 ·exact JP2.a h (Le.tz 0 0 rfl rfl rfl)
def Qi2 (p0:(List UInt8)):Option ((List UInt8)×Bool) :=
 Q7l p0>>=fun x1 =>
 if(!x1) then
  some ([],false)
 else
  (Qev p0 [34] 0)>>=fun o2 =>
  match o2 with
  | .inl y3 =>
   need (y3.length+[34].length≤9223372036854775807)>>=fun _ =>
   some ((y3++[34]),true)
  | .inr y4 =>
   some ([],false)
theorem Qxf:∀ (p0:(List UInt8)) (o:(List UInt8)×Bool),Qi2 p0=some o→PCall Tryz.prog 72 [sV p0] (Qjq o):=by
 intro p0 o h;unfold Qi2 at h;refine PCall.ofB mixed tbOk Qxa Tryz.func72 rfl (by kernel_rfl) (Nat.le_of_ble_eq_true rfl) ?_;refine Qak [sV p0] Qx9 h (fun x1 hy=>(Qafm p0 x1 hy)) (fun x1 hy h=>?_);refine Qaf h (fun hb h=>?_) (fun hb h=>?_)
 ·refine Qao (t:=Qjq) h ?_;exact .refl _
 ·refine Qag h (fun o2 ho hk=>?_);refine Exists.intro (JP2 _ _ o2 (.exit 0) (Qqo p0) .ret (Qqp p0)) (And.intro (Qnx (τ := Qlz p0 [34] 0) ?_ (TL.loop (Qadw p0 [34] 0 o2 ho))) (Qlx (fun y3 hy=>?_) (fun y4 hy=>?_)))
  ·exact Le.tz 0 0 rfl rfl rfl
  ·have h:=(by rw[hy] at hk; exact hk);refine Qbb h (fun h=>?_);refine Qao (t:=Qjq) h ?_;exact .refl _
  ·have h:=(by rw[hy] at hk; exact hk);refine Qao (t:=Qjq) h ?_;exact .refl _
def Qrf (p0:Int):Option (Bool) :=
 ( if(p0==32) then
   some true
  else
   if(p0==9) then
    some true
   else
    if(p0==10) then
     some true
    else
     some (p0==13):Option (Bool))>>=fun o1 =>
 some o1
theorem Q7m:∀ (p0:Int) (o:Bool),Qrf p0=some o→PCall Tryz.prog 60 [nV .u8 p0] (Qt7 o):=by
 intro p0 o h;unfold Qrf at h;refine PCall.ofB mixed tbOk Q66 Tryz.func60 rfl (by kernel_rfl) (Nat.le_of_ble_eq_true rfl) ?_;refine Qag h (fun o1 ho hk=>?_);refine Exists.intro (JP1 _ _ o1 .normal (Q1c )) (And.intro ?_ (Qa5 ?_))
 ·have h:=ho;refine Qaf h (fun hb h=>?_) (fun hb h=>?_)
  ·refine bT ?_;refine bT ?_;refine JP1.a h ?_;exact Le.tz 0 0 rfl rfl rfl
  ·refine Qaf h (fun hb h=>?_) (fun hb h=>?_)
   ·refine bT ?_;refine JP1.a h ?_;exact Le.tz 0 0 rfl rfl rfl
   ·refine Qaf h (fun hb h=>?_) (fun hb h=>?_)
    ·refine JP1.a h ?_;exact Le.tz 0 0 rfl rfl rfl
    ·refine JP1.a h ?_;exact Le.tz 0 0 rfl rfl rfl
 ·have h:=hk;refine Qao (t:=Qt7) h ?_;exact .refl _
def Qe5 (p0:(List UInt8)) (v1:Int):Option (Int) :=
 ( if(decide (v1<(p0.length:Int))) then
   idx p0 v1>>=fun x3 =>
   Qrf (x3.toNat:Int)>>=fun x4 =>
   some x4
  else
   some false:Option (Bool))>>=fun o2 =>
 if o2 then
  Qe5 p0 (wr (v1+1))
 else
  some v1
 partial_fixpoint
theorem Qac9:∀ (p0:(List UInt8)),(∀ (v1:Int) (o1:Int),Qe5 p0 v1=some o1→TL (0,0) Tryz.prog 18 Qzi (JP1 (0,0) 18 o1 (.exit 0) (Qpk p0)) (Qky p0 v1)):=by
 intro p0;refine Qe5.partial_correctness p0 _ ?_;intro Qe5' iQe5 v1 o1 h;refine TL.round (Qan mixed tbOk (lv:=Qu5) _ _ _ ?_);refine Qag h (fun o2 ho hk=>?_);refine Exists.intro (JP1 _ _ o2 .normal (Qzh p0 v1)) (And.intro ?_ (Qa5 ?_))
 ·have h:=ho;refine vrfl ?_;refine Qaf h (fun hb h=>?_) (fun hb h=>?_)
  ·refine Qcn h (fun x3 hi h=>?_);refine Qak [nV .u8 (x3.toNat:Int)] Qt7 h (fun x4 hy=>(Q7m (x3.toNat:Int) x4 hy)) (fun x4 hy h=>?_);refine JP1.a h ?_;exact Le.tz 0 0 rfl rfl rfl
  ·refine JP1.a h ?_;exact Le.tz 0 0 rfl rfl rfl
 ·have h:=hk;refine Qaf h (fun hb h=>?_) (fun hb h=>?_)
  ·refine TL.le (τ := Qky p0 (wr (v1+1))) ?_ ((iQe5 (wr (v1+1)) _ h));exact Le.tz 0 0 rfl rfl rfl
  ·exact JP1.a h (Le.tz 0 0 rfl rfl rfl)
def Qd5 (p0:(List UInt8)) (p1:Int):Option (Int) :=
 (Qe5 p0 p1)>>=fun o1 =>
 some o1
theorem Qvi:∀ (p0:(List UInt8)) (p1:Int) (o:Int),Qd5 p0 p1=some o→PCall Tryz.prog 39 [sV p0,iV p1] (Qmz o):=by
 intro p0 p1 o h;unfold Qd5 at h;refine PCall.ofB mixed tbOk Qu5 Tryz.func39 rfl (by kernel_rfl) (Nat.le_of_ble_eq_true rfl) ?_;refine Qag h (fun o1 ho hk=>?_);refine Exists.intro (JP1 _ _ o1 (.exit 0) (Qpk p0)) (And.intro (Qnx (τ := Qky p0 p1) ?_ (TL.loop (Qac9 p0 p1 o1 ho))) (Qa5 ?_))
 ·exact Le.tz 0 0 rfl rfl rfl
 have h:=hk;refine Qao (t:=Qmz) h ?_;exact .refl _
def Qg0 (p0:Int):Option (Bool) :=
 ( if(decide (p0 ≥ 48)) then
   some (decide (p0≤57))
  else
   some false:Option (Bool))>>=fun o1 =>
 some o1
theorem Qm6:∀ (p0:Int) (o:Bool),Qg0 p0=some o→PCall Tryz.prog 63 [nV .u8 p0] (Qjr o):=by
 intro p0 o h;unfold Qg0 at h;refine PCall.ofB mixed tbOk Q67 Tryz.func63 rfl (by kernel_rfl) (Nat.le_of_ble_eq_true rfl) ?_;refine Qag h (fun o1 ho hk=>?_);refine Exists.intro (JP1 _ _ o1 .normal (Q1d )) (And.intro ?_ (Qa5 ?_))
 ·have h:=ho;refine Qaf h (fun hb h=>?_) (fun hb h=>?_)
  ·refine JP1.a h ?_;exact Le.tz 0 0 rfl rfl rfl
  ·refine JP1.a h ?_;exact Le.tz 0 0 rfl rfl rfl
 ·have h:=hk;refine Qao (t:=Qjr) h ?_;exact .refl _
def Qg1 (p0:Int):Option (Bool) :=
 ( if(decide (p0 ≥ 97)) then
   some (decide (p0≤122))
  else
   some false:Option (Bool))>>=fun o1 =>
 some o1
theorem Qm7:∀ (p0:Int) (o:Bool),Qg1 p0=some o→PCall Tryz.prog 62 [nV .u8 p0] (Qjs o):=by
 intro p0 o h;unfold Qg1 at h;refine PCall.ofB mixed tbOk Q7e Tryz.func62 rfl (by kernel_rfl) (Nat.le_of_ble_eq_true rfl) ?_;refine Qag h (fun o1 ho hk=>?_);refine Exists.intro (JP1 _ _ o1 .normal (Q1e )) (And.intro ?_ (Qa5 ?_))
 ·have h:=ho;refine Qaf h (fun hb h=>?_) (fun hb h=>?_)
  ·refine JP1.a h ?_;exact Le.tz 0 0 rfl rfl rfl
  ·refine JP1.a h ?_;exact Le.tz 0 0 rfl rfl rfl
 ·have h:=hk;refine Qao (t:=Qjs) h ?_;exact .refl _
def Qhs (p0:(List UInt8)) (v3:Int):Option (Unit⊕Unit) :=
 if(decide (v3<(p0.length:Int))) then
  ( idx p0 v3>>=fun x8 =>
   Qg1 (x8.toNat:Int)>>=fun x9 =>
   if(!x9) then
    idx p0 v3>>=fun x10 =>
    Qg0 (x10.toNat:Int)>>=fun x11 =>
    if(!x11) then
     idx p0 v3>>=fun x12 =>
     some ((x12.toNat:Int) != 95)
    else
     some false
   else
    some false:Option (Bool))>>=fun o7 =>
  if o7 then
   some (.inr ())
  else
   Qhs p0 (wr (v3+1))
 else
  some (.inl ())
 partial_fixpoint
theorem Qafn:∀ (p0:(List UInt8)),(∀ (v3:Int) (o4:Unit⊕Unit),Qhs p0 v3=some o4→TL (0,0) Tryz.prog 42 Q3s (JP2 (0,0) 42 o4 (.exit 0) (Qtg p0) .ret (Qth p0)) (Qnk p0 v3)):=by
 intro p0;refine Qhs.partial_correctness p0 _ ?_;intro Qhs' iQhs v3 o4 h;refine TL.round (Qan mixed tbOk (lv:=Qzg) _ _ _ ?_);refine vrfl ?_;refine Qaf h (fun hb h=>?_) (fun hb h=>?_)
 ·refine Qag h (fun o7 ho hk=>?_);refine Exists.intro (JP1 _ _ o7 .normal (Q3r p0 v3)) (And.intro ?_ (Qa5 ?_))
  ·have h:=ho;refine Qcn h (fun x8 hi h=>?_);refine Qak [nV .u8 (x8.toNat:Int)] Qjs h (fun x9 hy=>(Qm7 (x8.toNat:Int) x9 hy)) (fun x9 hy h=>?_);refine Qaf h (fun hb h=>?_) (fun hb h=>?_)
   ·refine Qcn h (fun x10 hi h=>?_);refine Qak [nV .u8 (x10.toNat:Int)] Qjr h (fun x11 hy=>(Qm6 (x10.toNat:Int) x11 hy)) (fun x11 hy h=>?_);refine Qaf h (fun hb h=>?_) (fun hb h=>?_)
    ·refine Qcn h (fun x12 hi h=>?_);refine JP1.a h ?_;exact Le.tz 0 0 rfl rfl rfl
    ·refine JP1.a h ?_;exact Le.tz 0 0 rfl rfl rfl
   ·refine bF ?_;refine JP1.a h ?_;exact Le.tz 0 0 rfl rfl rfl
  ·have h:=hk;refine Qaf h (fun hb h=>?_) (fun hb h=>?_)
   ·exact JP2.b h (Le.tz 0 0 rfl rfl rfl)
   ·refine TL.le (τ := Qnk p0 (wr (v3+1))) ?_ ((iQhs (wr (v3+1)) _ h));exact Le.tz 0 0 rfl rfl rfl
 ·exact JP2.a h (Le.tz 0 0 rfl rfl rfl)
def Qj9 (p0:(List UInt8)):Option (Bool) :=
 ( if(decide ((p0.length:Int)<1)) then
   some true
  else
   if(decide ((p0.length:Int)>32)) then
    some true
   else
    idx p0 0>>=fun x2 =>
    Qg1 (x2.toNat:Int)>>=fun x3 =>
    some (!x3):Option (Bool))>>=fun o1 =>
 if o1 then
  some false
 else
  (Qhs p0 0)>>=fun o4 =>
  match o4 with
  | .inl y5 =>
   some true
  | .inr y6 =>
   some false
theorem Qmf:∀ (p0:(List UInt8)) (o:Bool),Qj9 p0=some o→PCall Tryz.prog 64 [sV p0] (Qgo o):=by
 intro p0 o h;unfold Qj9 at h;refine PCall.ofB mixed tbOk Qzg Tryz.func64 rfl (by kernel_rfl) (Nat.le_of_ble_eq_true rfl) ?_;refine Qag h (fun o1 ho hk=>?_);refine Exists.intro (JP1 _ _ o1 .normal (Q3q p0)) (And.intro ?_ (Qa5 ?_))
 ·have h:=ho;refine vrfl ?_;refine Qaf h (fun hb h=>?_) (fun hb h=>?_)
  ·refine bT ?_;refine JP1.a h ?_;exact Le.tz 0 0 rfl rfl rfl
  ·refine vrfl ?_;refine Qaf h (fun hb h=>?_) (fun hb h=>?_)
   ·refine JP1.a h ?_;exact Le.tz 0 0 rfl rfl rfl
   ·refine Qcn h (fun x2 hi h=>?_);refine Qak [nV .u8 (x2.toNat:Int)] Qjs h (fun x3 hy=>(Qm7 (x2.toNat:Int) x3 hy)) (fun x3 hy h=>?_);refine JP1.a h ?_;exact Le.tz 0 0 rfl rfl rfl
 ·have h:=hk;refine Qaf h (fun hb h=>?_) (fun hb h=>?_)
  ·refine Qao (t:=Qgo) h ?_;exact .refl _
  ·refine Qag h (fun o4 ho hk=>?_);refine Exists.intro (JP2 _ _ o4 (.exit 0) (Qtg p0) .ret (Qth p0)) (And.intro (Qnx (τ := Qnk p0 0) ?_ (TL.loop (Qafn p0 0 o4 ho))) (Qlx (fun y5 hy=>?_) (fun y6 hy=>?_)))
   ·exact Le.tz 0 0 rfl rfl rfl
   ·have h:=(by rw[hy] at hk; exact hk);refine Qao (t:=Qgo) h ?_;exact .refl _
   ·have h:=(by rw[hy] at hk; exact hk);refine Qao (t:=Qgo) h ?_;exact .refl _
def Qfq (p0:(List UInt8)) (p1:Int) (x1:UInt8) (v9:Int):Option (Unit⊕(Int×Int)) :=
 if(decide (v9<([46,40,41,44,61].length:Int))) then
  idx ([46,40,41,44,61]:List UInt8) v9>>=fun x6 =>
  if((x6.toNat:Int)==(x1.toNat:Int)) then
   idx ([7,8,9,10,11]:List Int) v9>>=fun x7 =>
   some (.inr (x7,x7))
  else
   Qfq p0 p1 x1 (wr (v9+1))
 else
  some (.inl ())
 partial_fixpoint
theorem Qag7:∀ (p0:(List UInt8)) (p1:Int) (x1:UInt8),(∀ (v9:Int) (o3:Unit⊕(Int×Int)),Qfq p0 p1 x1 v9=some o3→TL (0,0) Tryz.prog 133 Q68 (JP2 (0,0) 133 o3 (.exit 0) (Qu6 p0 p1 x1) .ret (Qu7 p0 p1 x1)) (Qov p0 p1 x1 v9)):=by
 intro p0 p1 x1;refine Qfq.partial_correctness p0 p1 x1 _ ?_;intro Qfq' iQfq v9 o3 h;refine TL.round (Qan mixed tbOk (lv:=Qsa) _ _ _ ?_);refine vrfl ?_;refine Qaf h (fun hb h=>?_) (fun hb h=>?_)
 ·refine Qcn h (fun x6 hi h=>?_);refine Qaf h (fun hb h=>?_) (fun hb h=>?_)
  ·refine Qcv (l:=[7,8,9,10,11]) (c:=cInt) (c' := cInt) h (fun _=>rfl) (fun _=>rfl) (by decide) (fun x7 hi h=>?_);exact JP2.b h (Le.tz 2 0 rfl rfl rfl)
  ·refine TL.le (τ := Qov p0 p1 x1 (wr (v9+1))) ?_ ((iQfq (wr (v9+1)) _ h));exact Le.tz 2 0 rfl rfl rfl
 ·exact JP2.a h (Le.tz 2 0 rfl rfl rfl)
def Qjz (p0:(List UInt8)) (p1:Int) (v12:Int):Option (Int) :=
 ( if(decide (v12<(p0.length:Int))) then
   idx p0 v12>>=fun x12 =>
   Qg1 (x12.toNat:Int)>>=fun x13 =>
   if x13 then
    some true
   else
    idx p0 v12>>=fun x14 =>
    Qg0 (x14.toNat:Int)>>=fun x15 =>
    if x15 then
     some true
    else
     idx p0 v12>>=fun x16 =>
     some ((x16.toNat:Int)==95)
  else
   some false:Option (Bool))>>=fun o11 =>
 if o11 then
  Qjz p0 p1 (wr (v12+1))
 else
  some v12
 partial_fixpoint
theorem Qag8:∀ (p0:(List UInt8)) (p1:Int),(∀ (v12:Int) (o10:Int),Qjz p0 p1 v12=some o10→TL (0,0) Tryz.prog 133 Q7a (JP1 (0,0) 133 o10 (.exit 2) (Qu8 p0 p1)) (Qow p0 p1 v12)):=by
 intro p0 p1;refine Qjz.partial_correctness p0 p1 _ ?_;intro Qjz' iQjz v12 o10 h;refine TL.round (Qan mixed tbOk (lv:=Qsa) _ _ _ ?_);refine Qag h (fun o11 ho hk=>?_);refine Exists.intro (JP1 _ _ o11 .normal (Q69 p0 p1 v12)) (And.intro ?_ (Qa5 ?_))
 ·have h:=ho;refine vrfl ?_;refine Qaf h (fun hb h=>?_) (fun hb h=>?_)
  ·refine Qcn h (fun x12 hi h=>?_);refine Qak [nV .u8 (x12.toNat:Int)] Qjs h (fun x13 hy=>(Qm7 (x12.toNat:Int) x13 hy)) (fun x13 hy h=>?_);refine Qaf h (fun hb h=>?_) (fun hb h=>?_)
   ·refine bT ?_;refine JP1.a h ?_;exact Le.tz 2 0 rfl rfl rfl
   ·refine Qcn h (fun x14 hi h=>?_);refine Qak [nV .u8 (x14.toNat:Int)] Qjr h (fun x15 hy=>(Qm6 (x14.toNat:Int) x15 hy)) (fun x15 hy h=>?_);refine Qaf h (fun hb h=>?_) (fun hb h=>?_)
    ·refine JP1.a h ?_;exact Le.tz 2 0 rfl rfl rfl
    ·refine Qcn h (fun x16 hi h=>?_);refine JP1.a h ?_;exact Le.tz 2 0 rfl rfl rfl
  ·refine JP1.a h ?_;exact Le.tz 2 0 rfl rfl rfl
 ·have h:=hk;refine Qaf h (fun hb h=>?_) (fun hb h=>?_)
  ·refine TL.le (τ := Qow p0 p1 (wr (v12+1))) ?_ ((iQjz (wr (v12+1)) _ h));exact Le.tz 2 0 rfl rfl rfl
  ·exact JP1.a h (Le.tz 2 0 rfl rfl rfl)
def Qj0 (p0:(List UInt8)) (p1:Int) (v12:Int):Option (Int) :=
 ( if(decide (v12<(p0.length:Int))) then
   idx p0 v12>>=fun x24 =>
   Qg0 (x24.toNat:Int)>>=fun x25 =>
   some x25
  else
   some false:Option (Bool))>>=fun o23 =>
 if o23 then
  Qj0 p0 p1 (wr (v12+1))
 else
  some v12
 partial_fixpoint
theorem Qag9:∀ (p0:(List UInt8)) (p1:Int),(∀ (v12:Int) (o22:Int),Qj0 p0 p1 v12=some o22→TL (0,0) Tryz.prog 133 Q7d (JP1 (0,0) 133 o22 (.exit 4) (Qu9 p0 p1)) (Qox p0 p1 v12)):=by
 intro p0 p1;refine Qj0.partial_correctness p0 p1 _ ?_;intro Qj0' iQj0 v12 o22 h;refine TL.round (Qan mixed tbOk (lv:=Qsa) _ _ _ ?_);refine Qag h (fun o23 ho hk=>?_);refine Exists.intro (JP1 _ _ o23 .normal (Q7c p0 p1 v12)) (And.intro ?_ (Qa5 ?_))
 ·have h:=ho;refine vrfl ?_;refine Qaf h (fun hb h=>?_) (fun hb h=>?_)
  ·refine Qcn h (fun x24 hi h=>?_);refine Qak [nV .u8 (x24.toNat:Int)] Qjr h (fun x25 hy=>(Qm6 (x24.toNat:Int) x25 hy)) (fun x25 hy h=>?_);refine JP1.a h ?_;exact Le.tz 2 0 rfl rfl rfl
  ·refine JP1.a h ?_;exact Le.tz 2 0 rfl rfl rfl
 ·have h:=hk;refine Qaf h (fun hb h=>?_) (fun hb h=>?_)
  ·refine TL.le (τ := Qox p0 p1 (wr (v12+1))) ?_ ((iQj0 (wr (v12+1)) _ h));exact Le.tz 2 0 rfl rfl rfl
  ·exact JP1.a h (Le.tz 2 0 rfl rfl rfl)
def Qcy (p0:(List UInt8)) (v1:Int) (v6:(List UInt8)):Option (Unit⊕((List UInt8)×Int)) :=
 if(decide (v1<(p0.length:Int))) then
  idx p0 v1>>=fun x4 =>
  if((x4.toNat:Int)==34) then
   some (.inr (v6,(wr (v1+1))))
  else
   idx p0 v1>>=fun x5 =>
   if((x5.toNat:Int)==92) then
    if((wr (v1+1))==(p0.length:Int)) then
     some (.inr ([],(-1)))
    else
     ( idx p0 (wr (v1+1))>>=fun x7 =>
      some (x7.toNat:Int):Option (Int))>>=fun o6 =>
     if(o6==110) then
      need (v6.length+[10].length≤9223372036854775807)>>=fun _ =>
      Qcy p0 (wr (v1+2)) (v6++[10])
     else
      if(o6==116) then
       need (v6.length+[9].length≤9223372036854775807)>>=fun _ =>
       Qcy p0 (wr (v1+2)) (v6++[9])
      else
       ( if(o6==34) then
         some true
        else
         some (o6==92):Option (Bool))>>=fun o8 =>
       if o8 then
        cutL p0 (wr (v1+1)) (wr (v1+2))>>=fun x9 =>
        need (v6.length+x9.length≤9223372036854775807)>>=fun _ =>
        Qcy p0 (wr (v1+2)) (v6++x9)
       else
        some (.inr ([],(-1)))
   else
    Qsc p0 v1>>=fun x10 =>
    ( if(x10.1==10) then
      some true
     else
      if(x10.1==13) then
       some true
      else
       if(x10.1==65533) then
        some (x10.2==1)
       else
        some false:Option (Bool))>>=fun o11 =>
    if o11 then
     some (.inr ([],(-1)))
    else
     cutL p0 v1 (wr (v1+x10.2))>>=fun x12 =>
     need (v6.length+x12.length≤9223372036854775807)>>=fun _ =>
     Qcy p0 (wr (v1+x10.2)) (v6++x12)
 else
  some (.inl ())
 partial_fixpoint
theorem Qada:∀ (p0:(List UInt8)),(∀ (v1:Int) (v6:(List UInt8)) (o1:Unit⊕((List UInt8)×Int)),Qcy p0 v1 v6=some o1→TL (0,0) Tryz.prog 91 Qzn (JP2 (0,0) 91 o1 (.exit 0) (Qpl p0) .ret (Qpm p0)) (Qd4 p0 v1 v6)):=by
 intro p0;refine Qcy.partial_correctness p0 _ ?_;intro Qcy' iQcy v1 v6 o1 h;refine TL.round (Qan mixed tbOk (lv:=Qva) _ _ _ ?_);refine vrfl ?_;refine Qaf h (fun hb h=>?_) (fun hb h=>?_)
 ·refine Qcn h (fun x4 hi h=>?_);refine Qaf h (fun hb h=>?_) (fun hb h=>?_)
  ·exact JP2.b h (Le.tz 0 0 rfl rfl rfl)
  ·refine Qcn h (fun x5 hi h=>?_);refine Qaf h (fun hb h=>?_) (fun hb h=>?_)
   ·refine vrfl ?_;refine Qaf h (fun hb h=>?_) (fun hb h=>?_)
    ·exact JP2.b h (Le.tz 0 0 rfl rfl rfl)
    ·refine Qag h (fun o6 ho hk=>?_);refine Exists.intro (JP1 _ _ o6 .normal (Qzk p0 v1 v6)) (And.intro ?_ (Qa5 ?_))
     ·have h:=ho;refine Qcn h (fun x7 hi h=>?_);refine JP1.a h ?_;exact Le.tz 0 0 rfl rfl rfl
     ·have h:=hk;refine Qaf h (fun hb h=>?_) (fun hb h=>?_)
      ·refine Qbb h (fun h=>?_);refine TL.le (τ := Qd4 p0 (wr (v1+2)) (v6++[10])) ?_ ((iQcy (wr (v1+2)) (v6++[10]) _ h));exact Le.tz 0 0 rfl rfl rfl
      ·refine Qaf h (fun hb h=>?_) (fun hb h=>?_)
       ·refine Qbb h (fun h=>?_);refine TL.le (τ := Qd4 p0 (wr (v1+2)) (v6++[9])) ?_ ((iQcy (wr (v1+2)) (v6++[9]) _ h));exact Le.tz 0 0 rfl rfl rfl
       ·refine Qag h (fun o8 ho hk=>?_);refine Exists.intro (JP1 _ _ o8 .normal (Qzl p0 v1 v6)) (And.intro ?_ (Qa5 ?_))
        ·have h:=ho;refine Qaf h (fun hb h=>?_) (fun hb h=>?_)
         ·refine JP1.a h ?_;exact Le.tz 0 0 rfl rfl rfl
         ·refine JP1.a h ?_;exact Le.tz 0 0 rfl rfl rfl
        ·have h:=hk;refine Qaf h (fun hb h=>?_) (fun hb h=>?_)
         ·refine Qel (some (wr (v1+1))) (some (wr (v1+2))) h (fun x9 hi h=>?_);refine Qbb h (fun h=>?_);refine TL.le (τ := Qd4 p0 (wr (v1+2)) (v6++x9)) ?_ ((iQcy (wr (v1+2)) (v6++x9) _ h));exact Le.tz 0 0 rfl rfl rfl
         ·exact JP2.b h (Le.tz 0 0 rfl rfl rfl)
   ·refine Qak [sV p0,iV v1] Qlp h (fun x10 hy=>(Qz5 p0 v1 x10 hy)) (fun x10 hy h=>?_);refine Qag h (fun o11 ho hk=>?_);refine Exists.intro (JP1 _ _ o11 .normal (Qzm p0 v1 v6 x10)) (And.intro ?_ (Qa5 ?_))
    ·have h:=ho;refine Qaf h (fun hb h=>?_) (fun hb h=>?_)
     ·refine bT ?_;refine JP1.a h ?_;exact Le.tz 0 0 rfl rfl rfl
     ·refine Qaf h (fun hb h=>?_) (fun hb h=>?_)
      ·refine JP1.a h ?_;exact Le.tz 0 0 rfl rfl rfl
      ·refine Qaf h (fun hb h=>?_) (fun hb h=>?_)
       ·refine JP1.a h ?_;exact Le.tz 0 0 rfl rfl rfl
       ·refine JP1.a h ?_;exact Le.tz 0 0 rfl rfl rfl
    ·have h:=hk;refine Qaf h (fun hb h=>?_) (fun hb h=>?_)
     ·exact JP2.b h (Le.tz 0 0 rfl rfl rfl)
     ·refine Qel (some v1) (some (wr (v1+x10.2))) h (fun x12 hi h=>?_);refine Qbb h (fun h=>?_);refine TL.le (τ := Qd4 p0 (wr (v1+x10.2)) (v6++x12)) ?_ ((iQcy (wr (v1+x10.2)) (v6++x12) _ h));exact Le.tz 0 0 rfl rfl rfl
 ·exact JP2.a h (Le.tz 0 0 rfl rfl rfl)
def Qsd (p0:(List UInt8)) (p1:Int):Option ((List UInt8)×Int) :=
 (Qcy p0 (wr (p1+1)) [])>>=fun o1 =>
 match o1 with
 | .inl y2 =>
  some ([],(-1))
 | .inr y3 =>
  some (y3.1,y3.2)
theorem Q4t:∀ (p0:(List UInt8)) (p1:Int) (o:(List UInt8)×Int),Qsd p0 p1=some o→PCall Tryz.prog 61 [sV p0,iV p1] (Qm0 o):=by
 intro p0 p1 o h;unfold Qsd at h;refine PCall.ofB mixed tbOk Qva Tryz.func61 rfl (by kernel_rfl) (Nat.le_of_ble_eq_true rfl) ?_;refine Qag h (fun o1 ho hk=>?_);refine Exists.intro (JP2 _ _ o1 (.exit 0) (Qpl p0) .ret (Qpm p0)) (And.intro (Qnx (τ := Qd4 p0 (wr (p1+1)) []) ?_ (TL.loop (Qada p0 (wr (p1+1)) [] o1 ho))) (Qlx (fun y2 hy=>?_) (fun y3 hy=>?_)))
 ·exact Le.tz 0 0 rfl rfl rfl
 ·have h:=(by rw[hy] at hk; exact hk);refine Qao (t:=Qm0) h ?_;exact .refl _
 ·have h:=(by rw[hy] at hk; exact hk);refine Qao (t:=Qm0) h ?_;exact .refl _
def Qo6 (p0:(List UInt8)) (p1:Int):Option (Qaa×Bool) :=
 idx p0 p1>>=fun x1 =>
 Qcs p0 [125,125] p1>>=fun x2 =>
 if x2 then
  some ((Qaa.mk 3 [] 0 p1 (wr (p1+2))),true)
 else
  (Qfq p0 p1 x1 0)>>=fun o3 =>
  match o3 with
  | .inl y4 =>
   if((x1.toNat:Int)==34) then
    Qsd p0 p1>>=fun x8 =>
    some ((Qaa.mk 5 x8.1 0 p1 x8.2),(decide (x8.2>0)))
   else
    Qg1 (x1.toNat:Int)>>=fun x9 =>
    if x9 then
     (Qjz p0 p1 (wr (p1+1)))>>=fun o10 =>
     cutL p0 p1 o10>>=fun x17 =>
     cutL p0 p1 o10>>=fun x18 =>
     Qj9 x18>>=fun x19 =>
     some ((Qaa.mk 4 x17 0 p1 o10),x19)
    else
     ( if((x1.toNat:Int)==45) then
       some true
      else
       Qg0 (x1.toNat:Int)>>=fun x21 =>
       some x21:Option (Bool))>>=fun o20 =>
     if o20 then
      (Qj0 p0 p1 (wr (p1+1)))>>=fun o22 =>
      cutL p0 p1 o22>>=fun x26 =>
      Qsb x26>>=fun x27 =>
      some ((Qaa.mk 6 [] x27.1 p1 o22),x27.2)
     else
      some ((Qaa.mk 0 [] 0 p1 (wr (p1+1))),false)
  | .inr y5 =>
   some ((Qaa.mk y5.1 [] 0 p1 (wr (p1+1))),true)
theorem Qadb:∀ (p0:(List UInt8)) (p1:Int) (o:Qaa×Bool),Qo6 p0 p1=some o→PCall Tryz.prog 41 [sV p0,iV p1] (Qkg o):=by
 intro p0 p1 o h;unfold Qo6 at h;refine PCall.ofB mixed tbOk Qsa Tryz.func41 rfl (by kernel_rfl) (Nat.le_of_ble_eq_true rfl) ?_;refine Qcn h (fun x1 hi h=>?_);refine Qak [sV p0,sV [125,125],iV p1] Qh4 h (fun x2 hy=>(Qlg p0 [125,125] p1 x2 hy)) (fun x2 hy h=>?_);refine Qaf h (fun hb h=>?_) (fun hb h=>?_)
 ·refine Qao (t:=Qkg) h ?_;exact .refl _
 ·refine Qag h (fun o3 ho hk=>?_);refine Exists.intro (JP2 _ _ o3 (.exit 0) (Qu6 p0 p1 x1) .ret (Qu7 p0 p1 x1)) (And.intro (Qnx (τ := Qov p0 p1 x1 0) ?_ (TL.loop (Qag7 p0 p1 x1 0 o3 ho))) (Qlx (fun y4 hy=>?_) (fun y5 hy=>?_)))
  ·exact Le.tz 2 0 rfl rfl rfl
  ·have h:=(by rw[hy] at hk; exact hk);refine Qaf h (fun hb h=>?_) (fun hb h=>?_)
   ·refine Qak [sV p0,iV p1] Qm0 h (fun x8 hy=>(Q4t p0 p1 x8 hy)) (fun x8 hy h=>?_);refine Qao (t:=Qkg) h ?_;exact .refl _
   ·refine Qak [nV .u8 (x1.toNat:Int)] Qjs h (fun x9 hy=>(Qm7 (x1.toNat:Int) x9 hy)) (fun x9 hy h=>?_);refine Qaf h (fun hb h=>?_) (fun hb h=>?_)
    ·refine Qag h (fun o10 ho hk=>?_);refine Exists.intro (JP1 _ _ o10 (.exit 2) (Qu8 p0 p1)) (And.intro (Qnx (τ := Qow p0 p1 (wr (p1+1))) ?_ (TL.loop (Qag8 p0 p1 (wr (p1+1)) o10 ho))) (Qa5 ?_))
     ·exact Le.tz 2 0 rfl rfl rfl
     have h:=hk;refine And.intro (by decide +kernel) (And.intro rfl ?_);refine Qel (some p1) (some o10) h (fun x17 hi h=>?_);refine Qel (some p1) (some o10) h (fun x18 hi h=>?_);refine Qdc [sV x18] Qgo h (fun x19 hy=>(Qmf x18 x19 hy)) (fun x19 hy h=>?_);refine Qao (t:=Qkg) h ?_;exact .refl _
    ·refine Qag h (fun o20 ho hk=>?_);refine Exists.intro (JP1 _ _ o20 .normal (Q7b p0 p1)) (And.intro ?_ (Qa5 ?_))
     ·have h:=ho;refine Qaf h (fun hb h=>?_) (fun hb h=>?_)
      ·refine JP1.a h ?_;exact Le.tz 2 0 rfl rfl rfl
      ·refine Qak [nV .u8 (x1.toNat:Int)] Qjr h (fun x21 hy=>(Qm6 (x1.toNat:Int) x21 hy)) (fun x21 hy h=>?_);refine JP1.a h ?_;exact Le.tz 2 0 rfl rfl rfl
     ·have h:=hk;refine Qaf h (fun hb h=>?_) (fun hb h=>?_)
      ·refine Qag h (fun o22 ho hk=>?_);refine Exists.intro (JP1 _ _ o22 (.exit 4) (Qu9 p0 p1)) (And.intro (Qnx (τ := Qox p0 p1 (wr (p1+1))) ?_ (TL.loop (Qag9 p0 p1 (wr (p1+1)) o22 ho))) (Qa5 ?_))
       ·exact Le.tz 2 0 rfl rfl rfl
       have h:=hk;refine Qel (some p1) (some o22) h (fun x26 hi h=>?_);refine Qak [sV x26] Qw7 h (fun x27 hy=>(Q4s x26 x27 hy)) (fun x27 hy h=>?_);refine Qao (t:=Qkg) h ?_;exact .refl _
      ·refine Qao (t:=Qkg) h ?_;exact .refl _
  ·have h:=(by rw[hy] at hk; exact hk);refine Qao (t:=Qkg) h ?_;exact .refl _
def Qgp (p0:(List UInt8)) (v5_:(List Qaa)) (v6_:Int):Option (((List Qaa)×Int)⊕Int) :=
 Qd5 p0 v6_>>=fun x16 =>
 if(x16==(p0.length:Int)) then
  some (.inr x16)
 else
  Qo6 p0 x16>>=fun x17 =>
  if(!x17.2) then
   some (.inr x16)
  else
   appL 48 v5_ [x17.1]>>=fun x18 =>
   if(x17.1.Kind==3) then
    some (.inl (x18,x17.1.To))
   else
    Qgp p0 x18 x17.1.To
 partial_fixpoint
theorem Qadc:∀ (p0:(List UInt8)),(∀ (v5_:(List Qaa)) (v6_:Int) (o13:((List Qaa)×Int)⊕Int),Qgp p0 v5_ v6_=some o13→TL (0,0) Tryz.prog 83 Qze (JP2 (0,0) 83 o13 (.exit 2) (Qpg p0) .ret (Qph p0)) (Qkw p0 v5_ v6_)):=by
 intro p0;refine Qgp.partial_correctness p0 _ ?_;intro Qgp' iQgp v5_ v6_ o13 h;refine TL.round (Qan mixed tbOk (lv:=Qou) _ _ _ ?_);refine Qak [sV p0,iV v6_] Qmz h (fun x16 hy=>(Qvi p0 v6_ x16 hy)) (fun x16 hy h=>?_);refine vrfl ?_;refine Qaf h (fun hb h=>?_) (fun hb h=>?_)
 ·exact JP2.b h (Le.tz 0 0 rfl rfl rfl)
 ·refine Qak [sV p0,iV x16] Qkg h (fun x17 hy=>(Qadb p0 x16 x17 hy)) (fun x17 hy h=>?_);refine Qaf h (fun hb h=>?_) (fun hb h=>?_)
  ·exact JP2.b h (Le.tz 0 0 rfl rfl rfl)
  ·refine Qqj (a:=v5_) (b:=[x17.1]) (c:=Qad) h (.refl _) (fun _=>rfl) rfl (fun x18 hi h=>?_);refine Qaf h (fun hb h=>?_) (fun hb h=>?_)
   ·exact JP2.a h (Le.tz 0 1 rfl rfl rfl)
   ·refine TL.le (τ := Qkw p0 x18 x17.1.To) ?_ ((iQgp x18 x17.1.To _ h));exact Le.tz 0 1 rfl rfl rfl
def Qht (p0:(List UInt8)) (p1:(List UInt8)) (v2:Int):Option (Int) :=
 ( if(decide (v2<(p0.length:Int))) then
   Qcs p0 p1 v2>>=fun x3 =>
   some (!x3)
  else
   some false:Option (Bool))>>=fun o2 =>
 if o2 then
  Qht p0 p1 (wr (v2+1))
 else
  some v2
 partial_fixpoint
theorem Qafo:∀ (p0:(List UInt8)) (p1:(List UInt8)),(∀ (v2:Int) (o1:Int),Qht p0 p1 v2=some o1→TL (0,0) Tryz.prog 21 Q3u (JP1 (0,0) 21 o1 (.exit 0) (Qti p0 p1)) (Qnl p0 p1 v2)):=by
 intro p0 p1;refine Qht.partial_correctness p0 p1 _ ?_;intro Qht' iQht v2 o1 h;refine TL.round (Qan mixed tbOk (lv:=Qzj) _ _ _ ?_);refine Qag h (fun o2 ho hk=>?_);refine Exists.intro (JP1 _ _ o2 .normal (Q3t p0 p1 v2)) (And.intro ?_ (Qa5 ?_))
 ·have h:=ho;refine vrfl ?_;refine Qaf h (fun hb h=>?_) (fun hb h=>?_)
  ·refine Qak [sV p0,sV p1,iV v2] Qh4 h (fun x3 hy=>(Qlg p0 p1 v2 x3 hy)) (fun x3 hy h=>?_);refine JP1.a h ?_;exact Le.tz 0 0 rfl rfl rfl
  ·refine JP1.a h ?_;exact Le.tz 0 0 rfl rfl rfl
 ·have h:=hk;refine Qaf h (fun hb h=>?_) (fun hb h=>?_)
  ·refine TL.le (τ := Qnl p0 p1 (wr (v2+1))) ?_ ((iQht (wr (v2+1)) _ h));exact Le.tz 0 0 rfl rfl rfl
  ·exact JP1.a h (Le.tz 0 0 rfl rfl rfl)
def Qo7 (p0:(List UInt8)) (p1:(List UInt8)) (p2:Int):Option (Int) :=
 (Qht p0 p1 p2)>>=fun o1 =>
 some o1
theorem Qz6:∀ (p0:(List UInt8)) (p1:(List UInt8)) (p2:Int) (o:Int),Qo7 p0 p1 p2=some o→PCall Tryz.prog 38 [sV p0,sV p1,iV p2] (Qr9 o):=by
 intro p0 p1 p2 o h;unfold Qo7 at h;refine PCall.ofB mixed tbOk Qzj Tryz.func38 rfl (by kernel_rfl) (Nat.le_of_ble_eq_true rfl) ?_;refine Qag h (fun o1 ho hk=>?_);refine Exists.intro (JP1 _ _ o1 (.exit 0) (Qti p0 p1)) (And.intro (Qnx (τ := Qnl p0 p1 p2) ?_ (TL.loop (Qafo p0 p1 p2 o1 ho))) (Qa5 ?_))
 ·exact Le.tz 0 0 rfl rfl rfl
 have h:=hk;refine Qao (t:=Qr9) h ?_;exact .refl _
def Qe6 (p0:(List UInt8)) (v5:(List Qaa)) (v6:Int):Option ((List Qaa)⊕((List Qaa)×Int×Int)) :=
 if(decide (v6<(p0.length:Int))) then
  Qo7 p0 [123,123] v6>>=fun x4 =>
  ( if(decide (x4>v6)) then
    cutL p0 v6 x4>>=fun x6 =>
    appL 48 v5 [(Qaa.mk 1 x6 0 v6 x4)]>>=fun x7 =>
    some x7
   else
    some v5:Option ((List Qaa)))>>=fun o5 =>
  if(x4==(p0.length:Int)) then
   some (.inr (o5,0,0))
  else
   appL 48 o5 ([(Qaa.mk 2 [] 0 x4 (wr (x4+2)))])>>=fun x8 =>
   Qd5 p0 (wr (x4+2))>>=fun x9 =>
   ( Qcs p0 [35] x9>>=fun x11 =>
    if x11 then
     Qo7 p0 [125,125] x9>>=fun x12 =>
     some x12
    else
     some x9:Option (Int))>>=fun o10 =>
   (Qgp p0 x8 o10)>>=fun o13 =>
   match o13 with
   | .inl y14 =>
    Qe6 p0 y14.1 y14.2
   | .inr y15 =>
    some (.inr ([],y15,7))
 else
  some (.inl v5)
 partial_fixpoint
theorem Qadd:∀ (p0:(List UInt8)),(∀ (v5:(List Qaa)) (v6:Int) (o1:(List Qaa)⊕((List Qaa)×Int×Int)),Qe6 p0 v5 v6=some o1→TL (0,0) Tryz.prog 83 Qzf (JP2 (0,0) 83 o1 (.exit 0) (Qpi p0) .ret (Qpj p0)) (Qkx p0 v5 v6)):=by
 intro p0;refine Qe6.partial_correctness p0 _ ?_;intro Qe6' iQe6 v5 v6 o1 h;refine TL.round (Qan mixed tbOk (lv:=Qou) _ _ _ ?_);refine vrfl ?_;refine Qaf h (fun hb h=>?_) (fun hb h=>?_)
 ·refine Qak [sV p0,sV [123,123],iV v6] Qr9 h (fun x4 hy=>(Qz6 p0 [123,123] v6 x4 hy)) (fun x4 hy h=>?_);refine Qag h (fun o5 ho hk=>?_);refine Exists.intro (JP1 _ _ o5 .normal (Qzc p0 x4)) (And.intro ?_ (Qa5 ?_))
  ·have h:=ho;refine Qaf h (fun hb h=>?_) (fun hb h=>?_)
   ·refine Qel (some v6) (some x4) h (fun x6 hi h=>?_);refine Qqj (a:=v5) (b:=[(Qaa.mk 1 x6 0 v6 x4)]) (c:=Qad) h (.refl _) (fun _=>rfl) rfl (fun x7 hi h=>?_);refine JP1.a h ?_;exact Le.tz 0 1 rfl rfl rfl
   ·refine JP1.a h ?_;exact Le.tz 0 1 rfl rfl rfl
  ·have h:=hk;refine vrfl ?_;refine Qaf h (fun hb h=>?_) (fun hb h=>?_)
   ·exact JP2.b h (Le.tz 0 0 rfl rfl rfl)
   ·refine Qqj (a:=o5) (b:=[(Qaa.mk 2 [] 0 x4 (wr (x4+2)))]) (c:=Qad) h (.refl _) (fun _=>rfl) rfl (fun x8 hi h=>?_);refine Qak [sV p0,iV (wr (x4+2))] Qmz h (fun x9 hy=>(Qvi p0 (wr (x4+2)) x9 hy)) (fun x9 hy h=>?_);refine Qag h (fun o10 ho hk=>?_);refine Exists.intro (JP1 _ _ o10 .normal (Qzd p0 x8)) (And.intro ?_ (Qa5 ?_))
    ·have h:=ho;refine Qak [sV p0,sV [35],iV x9] Qh4 h (fun x11 hy=>(Qlg p0 [35] x9 x11 hy)) (fun x11 hy h=>?_);refine Qaf h (fun hb h=>?_) (fun hb h=>?_)
     ·refine Qak [sV p0,sV [125,125],iV x9] Qr9 h (fun x12 hy=>(Qz6 p0 [125,125] x9 x12 hy)) (fun x12 hy h=>?_);refine JP1.a h ?_;exact Le.tz 0 1 rfl rfl rfl
     ·refine JP1.a h ?_;exact Le.tz 0 1 rfl rfl rfl
    ·have h:=hk;refine Qag h (fun o13 ho hk=>?_);refine Exists.intro (JP2 _ _ o13 (.exit 2) (Qpg p0) .ret (Qph p0)) (And.intro (Qnx (τ := Qkw p0 x8 o10) ?_ (TL.loop (Qadc p0 x8 o10 o13 ho))) (Qlx (fun y14 hy=>?_) (fun y15 hy=>?_)))
     ·exact Le.tz 0 1 rfl rfl rfl
     ·have h:=(by rw[hy] at hk; exact hk);refine TL.le (τ := Qkx p0 y14.1 y14.2) ?_ ((iQe6 y14.1 y14.2 _ h));exact Le.tz 0 1 rfl rfl rfl
     ·have h:=(by rw[hy] at hk; exact hk);exact JP2.b h (Le.tow 0 0 rfl (.cons rfl (.p (.not)) (.cons rfl (.refl _) (.cons rfl (.refl _) (.nil)))) (.refl _) rfl)
 ·exact JP2.a h (Le.tz 0 1 rfl rfl rfl)
def Qoa (p0:(List UInt8)):Option ((List Qaa)×Int×Int) :=
 if(decide ((p0.length:Int)>65536)) then
  some ([],0,6)
 else
  (Qe6 p0 [] 0)>>=fun o1 =>
  match o1 with
  | .inl y2 =>
   some (y2,0,0)
  | .inr y3 =>
   some (y3.1,y3.2.1,y3.2.2)
theorem Q4u:∀ (p0:(List UInt8)) (o:(List Qaa)×Int×Int),Qoa p0=some o→PCall Tryz.prog 20 [sV p0] (Qkf o):=by
 intro p0 o h;unfold Qoa at h;refine PCall.ofB mixed tbOk Qou Tryz.func20 rfl (by kernel_rfl) (Nat.le_of_ble_eq_true rfl) ?_;refine vrfl ?_;refine Qaf h (fun hb h=>?_) (fun hb h=>?_)
 ·refine Qao (t:=Qkf) h ?_;exact .tup (xs:=[.sl true [],iV 0,iV 6]) (ys:=[.sl false [],iV 0,iV 6]) (.cons (.not) (.cons (.refl _) (.cons (.refl _) (.nil))))
 ·refine Qag h (fun o1 ho hk=>?_);refine Exists.intro (JP2 _ _ o1 (.exit 0) (Qpi p0) .ret (Qpj p0)) (And.intro (Qnx (τ := Qkx p0 [] 0) ?_ (TL.loop (Qadd p0 [] 0 o1 ho))) (Qlx (fun y2 hy=>?_) (fun y3 hy=>?_)))
  ·exact Le.trans (τ := ⟨[(0,.p (sV p0)),(5,.p (.sl true [])),(6,.p (iV 0))],⟨[],[]⟩⟩) (Le.tz 0 0 rfl rfl rfl) ((Le.own 5 59 5 rfl Qy5).trans (Le.tz 0 1 rfl rfl rfl))
  ·have h:=(by rw[hy] at hk; exact hk);refine Qao (t:=Qkf) h ?_;exact .refl _
  ·have h:=(by rw[hy] at hk; exact hk);refine Qao (t:=Qkf) h ?_;exact .refl _
mutual
def Qfi (p0:(List Qab)):Option (Int) :=
 (Qgd p0 0 0)>>=fun o1 =>
 some o1
 partial_fixpoint
def Qgd (p0:(List Qab)) (v3:Int) (v4:Int):Option (Int) :=
 if(decide (v4<(p0.length:Int))) then
  idx p0 v4>>=fun x2 =>
  Qfi x2.L>>=fun x3 =>
  idx p0 v4>>=fun x4 =>
  Qfi x4.Then>>=fun x5 =>
  idx p0 v4>>=fun x6 =>
  Qfi x6.Else>>=fun x7 =>
  Qgd p0 (wr ((wr ((wr ((wr (v3+1))+x3))+x5))+x7)) (wr (v4+1))
 else
  some v3
 partial_fixpoint
end
theorem Q4v:(∀ (p0:(List Qab)) (o:Int),Qfi p0=some o→PCall Tryz.prog 22 [.sl false (p0.map Qae)] (Qf6 o))∧(∀ (p0:(List Qab)) (v3:Int) (v4:Int) (o1:Int),Qgd p0 v3 v4=some o1→TL (0,0) Tryz.prog 35 Q1f (JP1 (0,0) 35 o1 (.exit 0) (Qqq p0)) (Ql0 p0 v3 v4)):=by
 refine Qfi.mutual_partial_correctness _ _ ?_ ?_
 ·intro Qgd' iQgd p0 o h;refine PCall.ofB mixed tbOk Qxb Tryz.func22 rfl (by kernel_rfl) (Nat.le_of_ble_eq_true rfl) ?_;refine Qag h (fun o1 ho hk=>?_);refine Exists.intro (JP1 _ _ o1 (.exit 0) (Qqq p0)) (And.intro (Qnx (τ := Ql0 p0 0 0) ?_ (TL.loop (iQgd p0 0 0 o1 ho))) (Qa5 ?_))
  ·exact Le.tz 0 0 rfl rfl rfl
  have h:=hk;refine Qao (t:=Qf6) h ?_;exact .refl _
 ·intro Qfi' Qgd' iQfi iQgd p0 v3 v4 o1 h;refine TL.round (Qan mixed tbOk (lv:=Qxb) _ _ _ ?_);refine view (Qaw _ _) rfl ?_;refine Qaf h (fun hb h=>?_) (fun hb h=>?_)
  ·refine And.intro (by decide +kernel) (And.intro rfl ?_);refine Qcv (l:=p0) (c:=Qae) (c' := Qa1) h Qai (fun _=>rfl) (by decide) (fun x2 hi h=>?_);refine Qdc [.sl false (x2.L.map Qae)] Qf6 h (fun x3 hy=>(iQfi x2.L x3 hy)) (fun x3 hy h=>?_);refine Qcv (l:=p0) (c:=Qae) (c' := Qa1) h Qai (fun _=>rfl) (by decide) (fun x4 hi h=>?_);refine Qdc [.sl false (x4.Then.map Qae)] Qf6 h (fun x5 hy=>(iQfi x4.Then x5 hy)) (fun x5 hy h=>?_);refine Qcv (l:=p0) (c:=Qae) (c' := Qa1) h Qai (fun _=>rfl) (by decide) (fun x6 hi h=>?_);refine Qdc [.sl false (x6.Else.map Qae)] Qf6 h (fun x7 hy=>(iQfi x6.Else x7 hy)) (fun x7 hy h=>?_);refine TL.le (τ := Ql0 p0 (wr ((wr ((wr ((wr (v3+1))+x3))+x5))+x7)) (wr (v4+1))) ?_ ((iQgd p0 (wr ((wr ((wr ((wr (v3+1))+x3))+x5))+x7)) (wr (v4+1)) _ h));exact Le.tz 0 0 rfl rfl rfl
  ·exact JP1.a h (Le.tz 0 0 rfl rfl rfl)
theorem Qxg:∀ (p0:(List Qab)) (o:Int),Qfi p0=some o→PCall Tryz.prog 22 [.sl false (p0.map Qae)] (Qf6 o):=fun p0=>Q4v.1 p0
mutual
def Qhb (p0:(List Qab)):Option (Int) :=
 (Qhu p0 0 0)>>=fun o1 =>
 some o1
 partial_fixpoint
def Qhu (p0:(List Qab)) (v3:Int) (v4:Int):Option (Int) :=
 if(decide (v4<(p0.length:Int))) then
  idx p0 v4>>=fun x2 =>
  Qhb x2.L>>=fun x3 =>
  idx p0 v4>>=fun x4 =>
  Qhb x4.Then>>=fun x5 =>
  idx p0 v4>>=fun x6 =>
  Qhb x6.Else>>=fun x7 =>
  Qhu p0 (if(wr (1+(if x7>(if x5>x3 then x5 else x3) then x7 else(if x5>x3 then x5 else x3))))>v3 then(wr (1+(if x7>(if x5>x3 then x5 else x3) then x7 else(if x5>x3 then x5 else x3)))) else v3) (wr (v4+1))
 else
  some v3
 partial_fixpoint
end
theorem Q7n:(∀ (p0:(List Qab)) (o:Int),Qhb p0=some o→PCall Tryz.prog 23 [.sl false (p0.map Qae)] (Qh5 o))∧(∀ (p0:(List Qab)) (v3:Int) (v4:Int) (o1:Int),Qhu p0 v3 v4=some o1→TL (0,0) Tryz.prog 34 Q3v (JP1 (0,0) 34 o1 (.exit 0) (Qtj p0)) (Qnm p0 v3 v4)):=by
 refine Qhb.mutual_partial_correctness _ _ ?_ ?_
 ·intro Qhu' iQhu p0 o h;refine PCall.ofB mixed tbOk Qzo Tryz.func23 rfl (by kernel_rfl) (Nat.le_of_ble_eq_true rfl) ?_;refine Qag h (fun o1 ho hk=>?_);refine Exists.intro (JP1 _ _ o1 (.exit 0) (Qtj p0)) (And.intro (Qnx (τ := Qnm p0 0 0) ?_ (TL.loop (iQhu p0 0 0 o1 ho))) (Qa5 ?_))
  ·exact Le.tz 0 0 rfl rfl rfl
  have h:=hk;refine Qao (t:=Qh5) h ?_;exact .refl _
 ·intro Qhb' Qhu' iQhb iQhu p0 v3 v4 o1 h;refine TL.round (Qan mixed tbOk (lv:=Qzo) _ _ _ ?_);refine view (Qaw _ _) rfl ?_;refine Qaf h (fun hb h=>?_) (fun hb h=>?_)
  ·refine And.intro (by decide +kernel) (And.intro rfl ?_);refine Qcv (l:=p0) (c:=Qae) (c' := Qa1) h Qai (fun _=>rfl) (by decide) (fun x2 hi h=>?_);refine Qdc [.sl false (x2.L.map Qae)] Qh5 h (fun x3 hy=>(iQhb x2.L x3 hy)) (fun x3 hy h=>?_);refine Qcv (l:=p0) (c:=Qae) (c' := Qa1) h Qai (fun _=>rfl) (by decide) (fun x4 hi h=>?_);refine Qdc [.sl false (x4.Then.map Qae)] Qh5 h (fun x5 hy=>(iQhb x4.Then x5 hy)) (fun x5 hy h=>?_);refine Qcv (l:=p0) (c:=Qae) (c' := Qa1) h Qai (fun _=>rfl) (by decide) (fun x6 hi h=>?_);refine Qdc [.sl false (x6.Else.map Qae)] Qh5 h (fun x7 hy=>(iQhb x6.Else x7 hy)) (fun x7 hy h=>?_);refine TL.le (τ := Qnm p0 (if(wr (1+(if x7>(if x5>x3 then x5 else x3) then x7 else(if x5>x3 then x5 else x3))))>v3 then(wr (1+(if x7>(if x5>x3 then x5 else x3) then x7 else(if x5>x3 then x5 else x3)))) else v3) (wr (v4+1))) ?_ ((iQhu p0 (if(wr (1+(if x7>(if x5>x3 then x5 else x3) then x7 else(if x5>x3 then x5 else x3))))>v3 then(wr (1+(if x7>(if x5>x3 then x5 else x3) then x7 else(if x5>x3 then x5 else x3)))) else v3) (wr (v4+1)) _ h));exact Le.tz 0 0 rfl rfl rfl
  ·exact JP1.a h (Le.tz 0 0 rfl rfl rfl)
theorem Qz7:∀ (p0:(List Qab)) (o:Int),Qhb p0=some o→PCall Tryz.prog 23 [.sl false (p0.map Qae)] (Qh5 o):=fun p0=>Q7n.1 p0
mutual
def Qf1 (p0:Qab):Option ((List UInt8)) :=
 if(p0.Kind==1) then
  Qi2 p0.Text>>=fun x1 =>
  some x1.1
 else
  if(p0.Kind==2) then
   Qya p0.N>>=fun x2 =>
   some x2
  else
   if(p0.Kind==3) then
    if(p0.N==1) then
     some [116,114,117,101]
    else
     some [102,97,108,115,101]
   else
    if(p0.Kind==4) then
     some p0.Name
    else
     if(p0.Kind==5) then
      idx p0.L 0>>=fun x3 =>
      Qf1 x3>>=fun x4 =>
      need (x4.length+[46].length≤9223372036854775807)>>=fun _ =>
      need ((x4++[46]).length+p0.Name.length≤9223372036854775807)>>=fun _ =>
      some ((x4++[46])++p0.Name)
     else
      if(p0.Kind==7) then
       need ([115,101,99,114,101,116,40,34].length+p0.Name.length≤9223372036854775807)>>=fun _ =>
       need (([115,101,99,114,101,116,40,34]++p0.Name).length+[34,41].length≤9223372036854775807)>>=fun _ =>
       some (([115,101,99,114,101,116,40,34]++p0.Name)++[34,41])
      else
       (Qj1 p0 [] 0)>>=fun o5 =>
       need (p0.Name.length+[40].length≤9223372036854775807)>>=fun _ =>
       Qvh o5 [44,32]>>=fun x9 =>
       need ((p0.Name++[40]).length+x9.length≤9223372036854775807)>>=fun _ =>
       need (((p0.Name++[40])++x9).length+[41].length≤9223372036854775807)>>=fun _ =>
       some (((p0.Name++[40])++x9)++[41])
 partial_fixpoint
def Qj1 (p0:Qab) (v5:(List (List UInt8))) (v6:Int):Option ((List (List UInt8))) :=
 if(decide (v6<(p0.L.length:Int))) then
  idx p0.L v6>>=fun x6 =>
  Qf1 x6>>=fun x7 =>
  appL 16 v5 [x7]>>=fun x8 =>
  Qj1 p0 x8 (wr (v6+1))
 else
  some v5
 partial_fixpoint
end
theorem Q7o:(∀ (p0:Qab) (o:(List UInt8)),Qf1 p0=some o→PCall Tryz.prog 47 [.agg [iV p0.Kind,sV p0.Name,sV p0.Text,iV p0.N,.sl false (p0.L.map Qae),.sl false (p0.Then.map Qae),.sl false (p0.Else.map Qae)]] (Qcq o))∧(∀ (p0:Qab) (v5:(List (List UInt8))) (v6:Int) (o5:(List (List UInt8))),Qj1 p0 v5 v6=some o5→TL (0,0) Tryz.prog 73 Q3w (JP1 (0,0) 73 o5 (.exit 1) (Qtk p0)) (Qnn p0 v5 v6)):=by
 refine Qf1.mutual_partial_correctness _ _ ?_ ?_
 ·intro Qf1' Qj1' iQf1 iQj1 p0 o h;refine PCall.ofB mixed tbOk Qzp Tryz.func47 rfl (by kernel_rfl) (Nat.le_of_ble_eq_true rfl) ?_;refine Qaf h (fun hb h=>?_) (fun hb h=>?_)
  ·refine Qak [sV p0.Text] Qjq h (fun x1 hy=>(Qxf p0.Text x1 hy)) (fun x1 hy h=>?_);refine Qao (t:=Qcq) h ?_;exact .refl _
  ·refine Qaf h (fun hb h=>?_) (fun hb h=>?_)
   ·refine Qak [iV p0.N] Q2b h (fun x2 hy=>(Q92 p0.N x2 hy)) (fun x2 hy h=>?_);refine Qao (t:=Qcq) h ?_;exact .refl _
   ·refine Qaf h (fun hb h=>?_) (fun hb h=>?_)
    ·refine Qaf h (fun hb h=>?_) (fun hb h=>?_)
     ·refine Qao (t:=Qcq) h ?_;exact .refl _
     ·refine Qao (t:=Qcq) h ?_;exact .refl _
    ·refine Qaf h (fun hb h=>?_) (fun hb h=>?_)
     ·refine Qao (t:=Qcq) h ?_;exact .refl _
     ·refine Qaf h (fun hb h=>?_) (fun hb h=>?_)
      ·refine And.intro (by decide +kernel) (And.intro rfl ?_);refine Qcv (l:=p0.L) (c:=Qae) (c' := Qa1) h Qai (fun _=>rfl) (by decide) (fun x3 hi h=>?_);refine Qdc [.agg [iV x3.Kind,sV x3.Name,sV x3.Text,iV x3.N,.sl false (x3.L.map Qae),.sl false (x3.Then.map Qae),.sl false (x3.Else.map Qae)]] Qcq h (fun x4 hy=>(iQf1 x3 x4 hy)) (fun x4 hy h=>?_);refine Qbb h (fun h=>?_);refine Qbb h (fun h=>?_);refine Qao (t:=Qcq) h ?_;exact .refl _
      ·refine Qaf h (fun hb h=>?_) (fun hb h=>?_)
       ·refine Qbb h (fun h=>?_);refine Qbb h (fun h=>?_);refine Qao (t:=Qcq) h ?_;exact .refl _
       ·refine Qag h (fun o5 ho hk=>?_);refine Exists.intro (JP1 _ _ o5 (.exit 1) (Qtk p0)) (And.intro (Qnx (τ := Qnn p0 [] 0) ?_ (TL.loop (iQj1 p0 [] 0 o5 ho))) (Qa5 ?_))
        ·exact Le.trans (τ := ⟨[(1,.ptr 0 0),(5,.p (.sl true [])),(6,.p (iV 0))],⟨[[.p (iV p0.Kind),.p (sV p0.Name),.p (sV p0.Text),.p (iV p0.N),.p (.sl false (p0.L.map Qae)),.p (.sl false (p0.Then.map Qae)),.p (.sl false (p0.Else.map Qae))]],[]⟩⟩) (Le.tz 1 0 rfl rfl rfl) ((Le.own 5 9 1 rfl Qy5).trans (Le.tz 1 1 rfl rfl rfl))
        have h:=hk;refine And.intro (by decide +kernel) (And.intro rfl ?_);refine Qbb h (fun h=>?_);refine Qdc [.sl false (o5.map cStr),sV [44,32]] Qwj h (fun x9 hy=>(Q91 o5 [44,32] x9 hy)) (fun x9 hy h=>?_);refine Qbb h (fun h=>?_);refine Qbb h (fun h=>?_);refine Qao (t:=Qcq) h ?_;exact .refl _
 ·intro Qf1' Qj1' iQf1 iQj1 p0 v5 v6 o5 h;refine TL.round (Qan mixed tbOk (lv:=Qzp) _ _ _ ?_);refine view (Qaw _ _) rfl ?_;refine Qaf h (fun hb h=>?_) (fun hb h=>?_)
  ·refine Qcv (l:=p0.L) (c:=Qae) (c' := Qa1) h Qai (fun _=>rfl) (by decide) (fun x6 hi h=>?_);refine Qak [.agg [iV x6.Kind,sV x6.Name,sV x6.Text,iV x6.N,.sl false (x6.L.map Qae),.sl false (x6.Then.map Qae),.sl false (x6.Else.map Qae)]] Qcq h (fun x7 hy=>(iQf1 x6 x7 hy)) (fun x7 hy h=>?_);refine Qqj (a:=v5) (b:=[x7]) (c:=cStr) h (.refl _) (fun _=>rfl) rfl (fun x8 hi h=>?_);refine TL.le (τ := Qnn p0 x8 (wr (v6+1))) ?_ ((iQj1 p0 x8 (wr (v6+1)) _ h));exact Le.tz 1 1 rfl rfl rfl
  ·exact JP1.a h (Le.tz 1 1 rfl rfl rfl)
theorem Qmg:∀ (p0:Qab) (o:(List UInt8)),Qf1 p0=some o→PCall Tryz.prog 47 [.agg [iV p0.Kind,sV p0.Name,sV p0.Text,iV p0.N,.sl false (p0.L.map Qae),.sl false (p0.Then.map Qae),.sl false (p0.Else.map Qae)]] (Qcq o):=fun p0=>Q7o.1 p0
def Qge (p0:(List UInt8)) (x1:(List (List UInt8))) (v4:Int):Option (Unit⊕Unit) :=
 if(decide (v4<(x1.length:Int))) then
  idx x1 v4>>=fun x5 =>
  if(x5==p0) then
   some (.inr ())
  else
   Qge p0 x1 (wr (v4+1))
 else
  some (.inl ())
 partial_fixpoint
theorem Qafp:∀ (p0:(List UInt8)) (x1:(List (List UInt8))),(∀ (v4:Int) (o2:Unit⊕Unit),Qge p0 x1 v4=some o2→TL (0,0) Tryz.prog 20 Q3y (JP2 (0,0) 20 o2 (.exit 0) (Qtl p0 x1) .ret (Qtm p0 x1)) (Qno p0 x1 v4)):=by
 intro p0 x1;refine Qge.partial_correctness p0 x1 _ ?_;intro Qge' iQge v4 o2 h;refine TL.round (Qan mixed tbOk (lv:=Qzq) _ _ _ ?_);refine view (Qaw _ _) rfl ?_;refine Qaf h (fun hb h=>?_) (fun hb h=>?_)
 ·refine Qcv (l:=x1) (c:=cStr) (c' := cStr) h (fun _=>rfl) (fun _=>rfl) (by decide) (fun x5 hi h=>?_);refine Qaf h (fun hb h=>?_) (fun hb h=>?_)
  ·exact JP2.b h (Le.tz 0 0 rfl rfl rfl)
  ·refine TL.le (τ := Qno p0 x1 (wr (v4+1))) ?_ ((iQge (wr (v4+1)) _ h));exact Le.tz 0 0 rfl rfl rfl
 ·exact JP2.a h (Le.tz 0 0 rfl rfl rfl)
def Qvj:Option ((List (List UInt8))) :=
 some ([[105,102],[101,108,115,101],[101,110,100],[101,97,99,104],[105,110],[108,101,116],[117,115,101],[116,114,117,101],[102,97,108,115,101],[115,101,99,114,101,116]])
theorem Q7p:∀ (o:(List (List UInt8))),Qvj  = some o→PCall Tryz.prog 114 [] (Qt8 o):=by
 intro o h;unfold Qvj at h;refine PCall.ofB mixed tbOk Q7g Tryz.func114 rfl (by kernel_rfl) (Nat.le_of_ble_eq_true rfl) ?_;refine Qao (t:=Qt8) h ?_;exact .p (.not)
def Qlh (p0:(List UInt8)):Option (Bool) :=
 Qvj>>=fun x1 =>
 (Qge p0 x1 0)>>=fun o2 =>
 match o2 with
 | .inl y3 =>
  Qj9 p0>>=fun x6 =>
  some x6
 | .inr y4 =>
  some false
theorem Qmh:∀ (p0:(List UInt8)) (o:Bool),Qlh p0=some o→PCall Tryz.prog 96 [sV p0] (Qh6 o):=by
 intro p0 o h;unfold Qlh at h;refine PCall.ofB mixed tbOk Qzq Tryz.func96 rfl (by kernel_rfl) (Nat.le_of_ble_eq_true rfl) ?_;refine Qak [] Qt8 h (fun x1 hy=>(Q7p x1 hy)) (fun x1 hy h=>?_);refine Qag h (fun o2 ho hk=>?_);refine Exists.intro (JP2 _ _ o2 (.exit 0) (Qtl p0 x1) .ret (Qtm p0 x1)) (And.intro (Qnx (τ := Qno p0 x1 0) ?_ (TL.loop (Qafp p0 x1 0 o2 ho))) (Qlx (fun y3 hy=>?_) (fun y4 hy=>?_)))
 ·exact Le.tz 0 0 rfl rfl rfl
 ·have h:=(by rw[hy] at hk; exact hk);refine Qak [sV p0] Qgo h (fun x6 hy=>(Qmf p0 x6 hy)) (fun x6 hy h=>?_);refine Qao (t:=Qh6) h ?_;exact .refl _
 ·have h:=(by rw[hy] at hk; exact hk);refine Qao (t:=Qh6) h ?_;exact .refl _
def Qd6 (p0:Qab) (p1:Bool) (p2:Bool) (p3:Bool) (p4:Bool) (p5:Bool):Option (Bool) :=
 ( if p1 then
   if p2 then
    if p3 then
     if p4 then
      if p5 then
       if(p0.Kind==10) then
        some true
       else
        some ((p0.Else.length:Int)==0)
      else
       if((p0.Then.length:Int)==0) then
        if(p0.Kind==10) then
         some true
        else
         some ((p0.Else.length:Int)==0)
       else
        some false
     else
      if((p0.L.length:Int)==0) then
       if p5 then
        if(p0.Kind==10) then
         some true
        else
         some ((p0.Else.length:Int)==0)
       else
        if((p0.Then.length:Int)==0) then
         if(p0.Kind==10) then
          some true
         else
          some ((p0.Else.length:Int)==0)
        else
         some false
      else
       some false
    else
     if(p0.N==0) then
      if p4 then
       if p5 then
        if(p0.Kind==10) then
         some true
        else
         some ((p0.Else.length:Int)==0)
       else
        if((p0.Then.length:Int)==0) then
         if(p0.Kind==10) then
          some true
         else
          some ((p0.Else.length:Int)==0)
        else
         some false
      else
       if((p0.L.length:Int)==0) then
        if p5 then
         if(p0.Kind==10) then
          some true
         else
          some ((p0.Else.length:Int)==0)
        else
         if((p0.Then.length:Int)==0) then
          if(p0.Kind==10) then
           some true
          else
           some ((p0.Else.length:Int)==0)
         else
          some false
       else
        some false
     else
      some false
   else
    if(p0.Text==[]) then
     if p3 then
      if p4 then
       if p5 then
        if(p0.Kind==10) then
         some true
        else
         some ((p0.Else.length:Int)==0)
       else
        if((p0.Then.length:Int)==0) then
         if(p0.Kind==10) then
          some true
         else
          some ((p0.Else.length:Int)==0)
        else
         some false
      else
       if((p0.L.length:Int)==0) then
        if p5 then
         if(p0.Kind==10) then
          some true
         else
          some ((p0.Else.length:Int)==0)
        else
         if((p0.Then.length:Int)==0) then
          if(p0.Kind==10) then
           some true
          else
           some ((p0.Else.length:Int)==0)
         else
          some false
       else
        some false
     else
      if(p0.N==0) then
       if p4 then
        if p5 then
         if(p0.Kind==10) then
          some true
         else
          some ((p0.Else.length:Int)==0)
        else
         if((p0.Then.length:Int)==0) then
          if(p0.Kind==10) then
           some true
          else
           some ((p0.Else.length:Int)==0)
         else
          some false
       else
        if((p0.L.length:Int)==0) then
         if p5 then
          if(p0.Kind==10) then
           some true
          else
           some ((p0.Else.length:Int)==0)
         else
          if((p0.Then.length:Int)==0) then
           if(p0.Kind==10) then
            some true
           else
            some ((p0.Else.length:Int)==0)
          else
           some false
        else
         some false
      else
       some false
    else
     some false
  else
   if(p0.Name==[]) then
    if p2 then
     if p3 then
      if p4 then
       if p5 then
        if(p0.Kind==10) then
         some true
        else
         some ((p0.Else.length:Int)==0)
       else
        if((p0.Then.length:Int)==0) then
         if(p0.Kind==10) then
          some true
         else
          some ((p0.Else.length:Int)==0)
        else
         some false
      else
       if((p0.L.length:Int)==0) then
        if p5 then
         if(p0.Kind==10) then
          some true
         else
          some ((p0.Else.length:Int)==0)
        else
         if((p0.Then.length:Int)==0) then
          if(p0.Kind==10) then
           some true
          else
           some ((p0.Else.length:Int)==0)
         else
          some false
       else
        some false
     else
      if(p0.N==0) then
       if p4 then
        if p5 then
         if(p0.Kind==10) then
          some true
         else
          some ((p0.Else.length:Int)==0)
        else
         if((p0.Then.length:Int)==0) then
          if(p0.Kind==10) then
           some true
          else
           some ((p0.Else.length:Int)==0)
         else
          some false
       else
        if((p0.L.length:Int)==0) then
         if p5 then
          if(p0.Kind==10) then
           some true
          else
           some ((p0.Else.length:Int)==0)
         else
          if((p0.Then.length:Int)==0) then
           if(p0.Kind==10) then
            some true
           else
            some ((p0.Else.length:Int)==0)
          else
           some false
        else
         some false
      else
       some false
    else
     if(p0.Text==[]) then
      if p3 then
       if p4 then
        if p5 then
         if(p0.Kind==10) then
          some true
         else
          some ((p0.Else.length:Int)==0)
        else
         if((p0.Then.length:Int)==0) then
          if(p0.Kind==10) then
           some true
          else
           some ((p0.Else.length:Int)==0)
         else
          some false
       else
        if((p0.L.length:Int)==0) then
         if p5 then
          if(p0.Kind==10) then
           some true
          else
           some ((p0.Else.length:Int)==0)
         else
          if((p0.Then.length:Int)==0) then
           if(p0.Kind==10) then
            some true
           else
            some ((p0.Else.length:Int)==0)
          else
           some false
        else
         some false
      else
       if(p0.N==0) then
        if p4 then
         if p5 then
          if(p0.Kind==10) then
           some true
          else
           some ((p0.Else.length:Int)==0)
         else
          if((p0.Then.length:Int)==0) then
           if(p0.Kind==10) then
            some true
           else
            some ((p0.Else.length:Int)==0)
          else
           some false
        else
         if((p0.L.length:Int)==0) then
          if p5 then
           if(p0.Kind==10) then
            some true
           else
            some ((p0.Else.length:Int)==0)
          else
           if((p0.Then.length:Int)==0) then
            if(p0.Kind==10) then
             some true
            else
             some ((p0.Else.length:Int)==0)
           else
            some false
         else
          some false
       else
        some false
     else
      some false
   else
    some false:Option (Bool))>>=fun o1 =>
 some o1
end Go.Proofs.YtagokkpnfceidaaGreatDoor
end
