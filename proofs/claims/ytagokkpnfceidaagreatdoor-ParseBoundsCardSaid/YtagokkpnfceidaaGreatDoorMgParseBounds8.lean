/- The proof's texts, part 8 of 12: the walks by a logic in which data are by value, the plain laws, and at the end the law, for every input. -/
import Derived.Test.YtagokkpnfceidaaGreatDoorMgParseBounds7

section
set_option linter.unusedVariables false
set_option linter.unusedSimpArgs false
set_option maxRecDepth 100000
set_option maxHeartbeats 4000000
namespace Go.Proofs.YtagokkpnfceidaaGreatDoor
open Go.RowKit
structure Qaa where
 Kind:Int
 Name:(List UInt8)
 Text:(List UInt8)
 N:Int
 L:(List Qaa)
 Then:(List Qaa)
 Else:(List Qaa)
mutual
noncomputable def Qae:Qaa→List V
 | ⟨x0,x1,x2,x3,x4,x5,x6⟩=>[iV x0,sV x1,sV x2,iV x3,.sl false (Qhq x4),.sl false (Qhq x5),.sl false (Qhq x6)]
noncomputable def Qhq:List Qaa→List (List V)
 | []=>[]
 | x::r=>Qae x::Qhq r
end
theorem Qne:∀ l:List Qaa,Qhq l=l.map Qae
 | []=>rfl
 | x::r=>by rw[Qhq,Qne r]; rfl
noncomputable def Qb1 (x:Qaa):List V:=[iV x.Kind,sV x.Name,sV x.Text,iV x.N,.sl false (x.L.map Qae),.sl false (x.Then.map Qae),.sl false (x.Else.map Qae)]
theorem Qak (x:Qaa):Qae x=Qb1 x:=by cases x; simp[Qae,Qb1,Qne]
structure Qac where
 Kind:Int
 Text:(List UInt8)
 N:Int
 From:Int
 To:Int
noncomputable def Qab (x:Qac):List V:=[iV x.Kind,sV x.Text,iV x.N,iV x.From,iV x.To]
structure Qiz where
 c_:Int
 k_:Int
noncomputable def Qik (y:Bool):D :=.p (bV y)
noncomputable def Qxc:List (Nat×List Nat):=[(0,[0,1,2]),(1,[6]),(3000001,[])]
noncomputable def Qtw  (o1:Bool):St:=⟨[(6,.p (bV o1))],⟨[],[]⟩⟩
noncomputable def Qsc (y:Int×Bool):D :=.tup [.p (iV y.1),.p (bV y.2)]
noncomputable def Qhr (y:(List UInt8)):D :=.p (sV y)
noncomputable def Qzn:List (Nat×List Nat):=[(0,[0]),(1,[0,5]),(2,[0]),(3,[0,7]),(4,[2]),(5,[0,13]),(6,[2]),(7,[0,25]),(8,[2]),(9,[2]),(2001005,[])]
noncomputable def Qvc  (o1:Int):St:=⟨[(0,.p (iV o1))],⟨[],[]⟩⟩
noncomputable def Qlf (y:Int×Int):D :=.tup [.p (iV y.1),.p (iV y.2)]
noncomputable def Qps:List (Nat×List Nat):=[(0,[0,1]),(1,[0,1,17]),(2,[4,5]),(3,[0,1,6]),(4,[0,1,6,7]),(5,[0,1,6,7,28]),(6,[0,1,6,7]),(7,[0,1,6,7,8]),(8,[0,1,6,7,8,9]),(9,[0,1,6,7,8,9,42]),(10,[0,1,6,7,8,9]),(11,[0,1,6,7,8,9]),(12,[0,1,6,7,8,71]),(13,[4,5]),(14,[4,5]),(1000005,[0,1,6,7]),(1000009,[0,1,6,7,8,9]),(3000001,[]),(3000005,[]),(3000012,[])]
noncomputable def Qxd (p0:(List UInt8)) (p1:Int) (o1:Bool):St:=⟨[(0,.p (sV p0)),(1,.p (iV p1)),(17,.p (bV o1))],⟨[],[]⟩⟩
noncomputable def Qxe (p0:(List UInt8)) (p1:Int) (v6:(List Int)) (v7:Int) (o5:Bool):St:=⟨[(0,.p (sV p0)),(1,.p (iV p1)),(6,.p (.sl true (v6.map cInt))),(7,.p (iV v7)),(28,.p (bV o5))],⟨[],[]⟩⟩
noncomputable def Qh4 (p0:(List UInt8)) (p1:Int) (v6:(List Int)) (v7:Int) (v8:Int) (v9:Int):St:=⟨[(0,.p (sV p0)),(1,.p (iV p1)),(6,.p (.sl true (v6.map cInt))),(7,.p (iV v7)),(8,.p (iV v8)),(9,.p (iV v9))],⟨[],[]⟩⟩
noncomputable def Qkx (p0:(List UInt8)) (p1:Int) (v6:(List Int)) (v7:Int) (o8:Int):St:=⟨[(0,.p (sV p0)),(1,.p (iV p1)),(6,.p (.sl true (v6.map cInt))),(7,.p (iV v7)),(8,.p (iV o8))],⟨[],[]⟩⟩
noncomputable def Qqk:Code:=((loopsOf (Tryz.f94.body.getD .skip)).getD 1 .skip)
noncomputable def Qxf (p0:(List UInt8)) (p1:Int) (v6:(List Int)) (v7:Int) (o8:Int) (o10:Bool):St:=⟨[(0,.p (sV p0)),(1,.p (iV p1)),(6,.p (.sl true (v6.map cInt))),(7,.p (iV v7)),(8,.p (iV o8)),(71,.p (bV o10))],⟨[],[]⟩⟩
noncomputable def Qh5 (p0:(List UInt8)) (p1:Int) (v6:(List Int)) (v7:Int):St:=⟨[(0,.p (sV p0)),(1,.p (iV p1)),(6,.p (.sl true (v6.map cInt))),(7,.p (iV v7))],⟨[],[]⟩⟩
noncomputable def Qky (p0:(List UInt8)) (p1:Int) (y3:Unit):St:=⟨[],⟨[],[]⟩⟩
noncomputable def Qkz (p0:(List UInt8)) (p1:Int) (y4:Int×Int):St:=⟨[(4,.p (iV y4.1)),(5,.p (iV y4.2))],⟨[],[]⟩⟩
noncomputable def Qql:Code:=((loopsOf (Tryz.f94.body.getD .skip)).getD 0 .skip)
noncomputable def Qoq (y:Bool):D :=.p (bV y)
noncomputable def Q1e:List (Nat×List Nat):=[(0,[0]),(1,[2]),(3000001,[])]
noncomputable def Qxg  (o1:Bool):St:=⟨[(2,.p (bV o1))],⟨[],[]⟩⟩
noncomputable def Qil (y:(List Qac)×Int×Int):D :=.tup [.p (.sl false (y.1.map Qab)),.p (iV y.2.1),.p (iV y.2.2)]
noncomputable def Ql3:List (Nat×List Nat):=[(0,[0]),(1,[0,12]),(2,[2,3,4]),(3,[0,5]),(4,[0,5,6]),(5,[0,5,6,17]),(6,[0,5,6,7]),(7,[0,5,6,7,23]),(8,[0,5,7]),(9,[0,5,7,37]),(10,[2,3,4]),(11,[0,5,7]),(12,[0,5,6]),(13,[0,5,6,52]),(14,[0,5,6]),(15,[0,5,6]),(16,[0,5,6,62]),(17,[2,3,4]),(18,[0,5,6,8,9]),(19,[0,5,6,8,71]),(20,[2,3,4]),(21,[0,5,8]),(22,[0,5,6,8]),(23,[0,5,6,81]),(24,[2,3,4]),(1000005,[0,5,6]),(1000015,[0,5,6]),(2007005,[]),(2013005,[])]
noncomputable def Qtx (p0:(List UInt8)) (x4:Int) (o5:(List Qac)):St:=⟨[(0,.p (sV p0)),(5,.own 0 59 5 (o5.map Qab)),(7,.p (iV x4))],⟨[],[(o5.map Qab).length]⟩⟩
noncomputable def Qty (p0:(List UInt8)) (x8:(List Qac)) (o10:Int):St:=⟨[(0,.p (sV p0)),(5,.own 0 59 5 (x8.map Qab)),(6,.p (iV o10))],⟨[],[(x8.map Qab).length]⟩⟩
noncomputable def Qf2 (p0:(List UInt8)) (v5_:(List Qac)) (v6_:Int):St:=⟨[(0,.p (sV p0)),(5,.own 0 59 5 (v5_.map Qab)),(6,.p (iV v6_))],⟨[],[(v5_.map Qab).length]⟩⟩
noncomputable def Qi0 (p0:(List UInt8)) (y14:(List Qac)×Int):St:=⟨[(0,.p (sV p0)),(5,.own 0 59 5 (y14.1.map Qab)),(6,.p (iV y14.2))],⟨[],[(y14.1.map Qab).length]⟩⟩
noncomputable def Qi1 (p0:(List UInt8)) (y15:Int):St:=⟨[(2,.p (.sl true [])),(3,.p (iV y15)),(4,.p (iV 7))],⟨[],[]⟩⟩
noncomputable def Qnf:Code:=((loopsOf (Tryz.f20.body.getD .skip)).getD 1 .skip)
noncomputable def Qf3 (p0:(List UInt8)) (v5:(List Qac)) (v6:Int):St:=⟨[(0,.p (sV p0)),(5,.own 0 59 5 (v5.map Qab)),(6,.p (iV v6))],⟨[],[(v5.map Qab).length]⟩⟩
noncomputable def Qi2 (p0:(List UInt8)) (y2:(List Qac)):St:=⟨[(5,.own 0 59 5 (y2.map Qab))],⟨[],[(y2.map Qab).length]⟩⟩
noncomputable def Qi3 (p0:(List UInt8)) (y3:(List Qac)×Int×Int):St:=⟨[(2,.p (.sl false (y3.1.map Qab))),(3,.p (iV y3.2.1)),(4,.p (iV y3.2.2))],⟨[],[]⟩⟩
noncomputable def Qng:Code:=((loopsOf (Tryz.f20.body.getD .skip)).getD 0 .skip)
noncomputable def Qhs (y:Bool):D :=.p (bV y)
noncomputable def Qtz:List (Nat×List Nat):=[(0,[0]),(1,[0,17]),(2,[2]),(3,[0,3]),(4,[0,3,21]),(5,[0,3]),(6,[0,3,41]),(7,[2]),(8,[2]),(1000004,[0,3]),(3000001,[]),(3000006,[])]
noncomputable def Qxh (p0:(List UInt8)) (o1:Bool):St:=⟨[(0,.p (sV p0)),(17,.p (bV o1))],⟨[],[]⟩⟩
noncomputable def Qxi (p0:(List UInt8)) (v3:Int) (o7:Bool):St:=⟨[(0,.p (sV p0)),(3,.p (iV v3)),(41,.p (bV o7))],⟨[],[]⟩⟩
noncomputable def Qh6 (p0:(List UInt8)) (v3:Int):St:=⟨[(0,.p (sV p0)),(3,.p (iV v3))],⟨[],[]⟩⟩
noncomputable def Qk0 (p0:(List UInt8)) (y5:Unit):St:=⟨[],⟨[],[]⟩⟩
noncomputable def Qk1 (p0:(List UInt8)) (y6:Unit):St:=⟨[(2,.p (bV false))],⟨[],[]⟩⟩
noncomputable def Qqm:Code:=((loopsOf (Tryz.f64.body.getD .skip)).getD 0 .skip)
noncomputable def Qpt (y:Bool):D :=.p (bV y)
noncomputable def Qzo:List (Nat×List Nat):=[(0,[0]),(1,[2]),(3000001,[])]
noncomputable def Qvd  (o1:Bool):St:=⟨[(2,.p (bV o1))],⟨[],[]⟩⟩
noncomputable def Qkl (y:Int):D :=.p (iV y)
noncomputable def Qqn:List (Nat×List Nat):=[(0,[0,1]),(1,[0,1,14]),(2,[0,1]),(3,[4]),(1000001,[0,1]),(3000001,[])]
noncomputable def Qt0 (p0:(List UInt8)) (v1:Int) (o2:Bool):St:=⟨[(0,.p (sV p0)),(1,.p (iV v1)),(14,.p (bV o2))],⟨[],[]⟩⟩
noncomputable def Qf4 (p0:(List UInt8)) (v1:Int):St:=⟨[(0,.p (sV p0)),(1,.p (iV v1))],⟨[],[]⟩⟩
noncomputable def Qi4 (p0:(List UInt8)) (o1:Int):St:=⟨[(1,.p (iV o1))],⟨[],[]⟩⟩
noncomputable def Qnh:Code:=((loopsOf (Tryz.f39.body.getD .skip)).getD 0 .skip)
noncomputable def Qht (y:Bool):D :=.p (bV y)
noncomputable def Qzp:List (Nat×List Nat):=[(0,[0]),(1,[2]),(3000001,[])]
noncomputable def Qve  (o1:Bool):St:=⟨[(2,.p (bV o1))],⟨[],[]⟩⟩
noncomputable def Qor (y:Int):D :=.p (iV y)
noncomputable def Qt1:List (Nat×List Nat):=[(0,[0,1,2]),(1,[0,1,2,17]),(2,[0,1,2]),(3,[6]),(1000001,[0,1,2]),(3000001,[])]
noncomputable def Qxj (p0:(List UInt8)) (p1:(List UInt8)) (v2:Int) (o2:Bool):St:=⟨[(0,.p (sV p0)),(1,.p (sV p1)),(2,.p (iV v2)),(17,.p (bV o2))],⟨[],[]⟩⟩
noncomputable def Qh7 (p0:(List UInt8)) (p1:(List UInt8)) (v2:Int):St:=⟨[(0,.p (sV p0)),(1,.p (sV p1)),(2,.p (iV v2))],⟨[],[]⟩⟩
noncomputable def Qk2 (p0:(List UInt8)) (p1:(List UInt8)) (o1:Int):St:=⟨[(2,.p (iV o1))],⟨[],[]⟩⟩
noncomputable def Qqo:Code:=((loopsOf (Tryz.f38.body.getD .skip)).getD 0 .skip)
noncomputable def Qim (y:Qac×Bool):D :=.tup [.p (.agg [iV y.1.Kind,sV y.1.Text,iV y.1.N,iV y.1.From,iV y.1.To]),.p (bV y.2)]
noncomputable def Qos:List (Nat×List Nat):=[(0,[0,1,4]),(1,[0,1,4,6]),(2,[0,1,4,6,7]),(3,[0,1,4,6,7,24]),(4,[1,4,6]),(5,[4,6]),(6,[4,5]),(7,[0,1,4,6,7,8]),(8,[0,1,4,6,7,8,9]),(9,[0,1,4,6,7,8,9,33]),(10,[0,1,4,6,7,8,9]),(11,[0,1,4,6,7,8,9,40]),(12,[4,6]),(13,[4,5]),(14,[0,1,4,6,7,48]),(15,[1,4,10,11]),(16,[4,5]),(17,[0,1,4,6,7,12]),(18,[0,1,4,6,7,12,64]),(19,[0,1,4,12,86]),(20,[0,1,4,12]),(21,[4,5]),(22,[0,1,4,6,12,106]),(23,[0,1,4,12,116]),(24,[0,1,4,12]),(25,[1,4,12,13,14]),(26,[4,5]),(27,[4,5]),(1000009,[0,1,4,6,7,8,9]),(1000019,[0,1,4,12]),(1000023,[0,1,4,12]),(3000019,[]),(3000022,[]),(3000023,[])]
noncomputable def Qjm (p0:(List UInt8)) (p1:Int) (x1:UInt8) (v9:Int):St:=⟨[(0,.p (sV p0)),(1,.p (iV p1)),(4,.ptr 0 0),(6,.ptr 1 0),(7,.p (nV .u8 (x1.toNat:Int))),(8,.p (sV [46,40,41,44,61])),(9,.p (iV v9))],⟨[[.p (iV 0),.p (sV []),.p (iV 0),.p (iV 0),.p (iV 0)],[.p (iV 0),.p (sV []),.p (iV 0),.p (iV p1),.p (iV (wr (p1+1)))]],[]⟩⟩
noncomputable def Ql4 (p0:(List UInt8)) (p1:Int) (x1:UInt8) (y4:Unit):St:=⟨[(0,.p (sV p0)),(1,.p (iV p1)),(4,.ptr 0 0),(6,.ptr 1 0),(7,.p (nV .u8 (x1.toNat:Int)))],⟨[[.p (iV 0),.p (sV []),.p (iV 0),.p (iV 0),.p (iV 0)],[.p (iV 0),.p (sV []),.p (iV 0),.p (iV p1),.p (iV (wr (p1+1)))]],[]⟩⟩
noncomputable def Ql5 (p0:(List UInt8)) (p1:Int) (x1:UInt8) (y5:Int×Int):St:=⟨[(4,.ptr 0 0),(5,.p (bV true))],⟨[[.p (iV y5.1),.p (sV []),.p (iV 0),.p (iV p1),.p (iV (wr (p1+1)))],[.p (iV y5.2),.p (sV []),.p (iV 0),.p (iV p1),.p (iV (wr (p1+1)))]],[]⟩⟩
noncomputable def Qsd:Code:=((loopsOf (Tryz.f41.body.getD .skip)).getD 0 .skip)
noncomputable def Qzq (p0:(List UInt8)) (p1:Int) (v12:Int) (o11:Bool):St:=⟨[(0,.p (sV p0)),(1,.p (iV p1)),(4,.ptr 0 0),(12,.p (iV v12)),(86,.p (bV o11))],⟨[[.p (iV 0),.p (sV []),.p (iV 0),.p (iV 0),.p (iV 0)],[.p (iV 0),.p (sV []),.p (iV 0),.p (iV p1),.p (iV (wr (p1+1)))]],[]⟩⟩
noncomputable def Qjn (p0:(List UInt8)) (p1:Int) (v12:Int):St:=⟨[(0,.p (sV p0)),(1,.p (iV p1)),(4,.ptr 0 0),(12,.p (iV v12))],⟨[[.p (iV 0),.p (sV []),.p (iV 0),.p (iV 0),.p (iV 0)],[.p (iV 0),.p (sV []),.p (iV 0),.p (iV p1),.p (iV (wr (p1+1)))]],[]⟩⟩
noncomputable def Ql6 (p0:(List UInt8)) (p1:Int) (o10:Int):St:=⟨[(0,.p (sV p0)),(1,.p (iV p1)),(4,.ptr 0 0),(12,.p (iV o10))],⟨[[.p (iV 0),.p (sV []),.p (iV 0),.p (iV 0),.p (iV 0)],[.p (iV 0),.p (sV []),.p (iV 0),.p (iV p1),.p (iV (wr (p1+1)))]],[]⟩⟩
noncomputable def Qse:Code:=((loopsOf (Tryz.f41.body.getD .skip)).getD 1 .skip)
noncomputable def Qzr (p0:(List UInt8)) (p1:Int) (o20:Bool):St:=⟨[(0,.p (sV p0)),(1,.p (iV p1)),(4,.ptr 0 0),(6,.ptr 1 0),(12,.p (iV (wr (p1+1)))),(106,.p (bV o20))],⟨[[.p (iV 0),.p (sV []),.p (iV 0),.p (iV 0),.p (iV 0)],[.p (iV 0),.p (sV []),.p (iV 0),.p (iV p1),.p (iV (wr (p1+1)))]],[]⟩⟩
noncomputable def Qzs (p0:(List UInt8)) (p1:Int) (v12:Int) (o23:Bool):St:=⟨[(0,.p (sV p0)),(1,.p (iV p1)),(4,.ptr 0 0),(12,.p (iV v12)),(116,.p (bV o23))],⟨[[.p (iV 0),.p (sV []),.p (iV 0),.p (iV 0),.p (iV 0)],[.p (iV 0),.p (sV []),.p (iV 0),.p (iV p1),.p (iV (wr (p1+1)))]],[]⟩⟩
noncomputable def Qjo (p0:(List UInt8)) (p1:Int) (v12:Int):St:=⟨[(0,.p (sV p0)),(1,.p (iV p1)),(4,.ptr 0 0),(12,.p (iV v12))],⟨[[.p (iV 0),.p (sV []),.p (iV 0),.p (iV 0),.p (iV 0)],[.p (iV 0),.p (sV []),.p (iV 0),.p (iV p1),.p (iV (wr (p1+1)))]],[]⟩⟩
noncomputable def Ql7 (p0:(List UInt8)) (p1:Int) (o22:Int):St:=⟨[(0,.p (sV p0)),(1,.p (iV p1)),(4,.ptr 0 0),(12,.p (iV o22))],⟨[[.p (iV 0),.p (sV []),.p (iV 0),.p (iV 0),.p (iV 0)],[.p (iV 0),.p (sV []),.p (iV 0),.p (iV p1),.p (iV (wr (p1+1)))]],[]⟩⟩
noncomputable def Qsf:Code:=((loopsOf (Tryz.f41.body.getD .skip)).getD 2 .skip)
noncomputable def Qkm (y:(List UInt8)×Int):D :=.tup [.p (sV y.1),.p (iV y.2)]
noncomputable def Qqp:List (Nat×List Nat):=[(0,[0,1]),(1,[0,1,6]),(2,[0,1,6]),(3,[0,1,6,15]),(4,[0,1,6,19]),(5,[4,5]),(6,[0,1,6,26]),(7,[0,1,6,31]),(8,[4,5]),(9,[0,1,6,7]),(10,[0,1,6,7,37]),(11,[0,1,6]),(12,[0,1,6,7,41]),(13,[0,1,6]),(14,[0,1,6,49]),(15,[0,1,6]),(16,[4,5]),(17,[0,1,6]),(18,[0,1,6,8,9]),(19,[0,1,6,9,79]),(20,[4,5]),(21,[0,1,6,9]),(22,[0,1,6]),(23,[4,5]),(1000003,[0,1,6]),(3000009,[]),(3000014,[]),(3000019,[])]
noncomputable def Qt2 (p0:(List UInt8)) (v1:Int) (v6:(List UInt8)) (o6:Int):St:=⟨[(0,.p (sV p0)),(1,.p (iV v1)),(6,.p (sV v6)),(7,.p (nV .u8 o6))],⟨[],[]⟩⟩
noncomputable def Qt3 (p0:(List UInt8)) (v1:Int) (v6:(List UInt8)) (o8:Bool):St:=⟨[(0,.p (sV p0)),(1,.p (iV v1)),(6,.p (sV v6)),(49,.p (bV o8))],⟨[],[]⟩⟩
noncomputable def Qt4 (p0:(List UInt8)) (v1:Int) (v6:(List UInt8)) (x10:Int×Int) (o11:Bool):St:=⟨[(0,.p (sV p0)),(1,.p (iV v1)),(6,.p (sV v6)),(9,.p (iV x10.2)),(79,.p (bV o11))],⟨[],[]⟩⟩
noncomputable def Qc0 (p0:(List UInt8)) (v1:Int) (v6:(List UInt8)):St:=⟨[(0,.p (sV p0)),(1,.p (iV v1)),(6,.p (sV v6))],⟨[],[]⟩⟩
noncomputable def Qi5 (p0:(List UInt8)) (y2:Unit):St:=⟨[],⟨[],[]⟩⟩
noncomputable def Qi6 (p0:(List UInt8)) (y3:(List UInt8)×Int):St:=⟨[(4,.p (sV y3.1)),(5,.p (iV y3.2))],⟨[],[]⟩⟩
noncomputable def Qni:Code:=((loopsOf (Tryz.f61.body.getD .skip)).getD 0 .skip)
noncomputable def Qhu (y:Bool):D :=.p (bV y)
noncomputable def Qzt:List (Nat×List Nat):=[(0,[0]),(1,[2]),(3000001,[])]
noncomputable def Qvf  (o1:Bool):St:=⟨[(2,.p (bV o1))],⟨[],[]⟩⟩
noncomputable def Qgd (y:Int):D :=.p (iV y)
noncomputable def Qsg:List (Nat×List Nat):=[(0,[0]),(1,[0,3]),(2,[0,3,4]),(3,[0,3,4,8]),(4,[0,3,4]),(5,[0,3,4]),(6,[2]),(1000003,[0,3,4])]
noncomputable def Qj3 (p0:(List Qaa)) (v3:Int) (v4:Int):St:=⟨[(0,.p (.sl false (p0.map Qae))),(3,.p (iV v3)),(4,.p (iV v4))],⟨[],[]⟩⟩
noncomputable def Qnj (p0:(List Qaa)) (o1:Int):St:=⟨[(3,.p (iV o1))],⟨[],[]⟩⟩
noncomputable def Qvg:Code:=((loopsOf (Tryz.f22.body.getD .skip)).getD 0 .skip)
noncomputable def Qhv (y:Int):D :=.p (iV y)
noncomputable def Qt5:List (Nat×List Nat):=[(0,[0]),(1,[0,3]),(2,[0,3,4]),(3,[0,3,4,8]),(4,[0,3,4]),(5,[0,3,4]),(6,[2]),(1000003,[0,3,4])]
noncomputable def Qk3 (p0:(List Qaa)) (v3:Int) (v4:Int):St:=⟨[(0,.p (.sl false (p0.map Qae))),(3,.p (iV v3)),(4,.p (iV v4))],⟨[],[]⟩⟩
noncomputable def Qpg (p0:(List Qaa)) (o1:Int):St:=⟨[(3,.p (iV o1))],⟨[],[]⟩⟩
noncomputable def Qxk:Code:=((loopsOf (Tryz.f23.body.getD .skip)).getD 0 .skip)
noncomputable def Qot (y:Bool):D :=.p (bV y)
noncomputable def Qt6:List (Nat×List Nat):=[(0,[0]),(1,[0,3]),(2,[0,3,4]),(3,[0,3,4,9]),(4,[0,3,4]),(5,[0,3,4,17]),(6,[2]),(7,[2]),(1000003,[0,3,4])]
noncomputable def Qh8 (p0:(List UInt8)) (x1:(List (List UInt8))) (v4:Int):St:=⟨[(0,.p (sV p0)),(3,.p (.sl false (x1.map cStr))),(4,.p (iV v4))],⟨[],[]⟩⟩
noncomputable def Qk4 (p0:(List UInt8)) (x1:(List (List UInt8))) (y3:Unit):St:=⟨[(0,.p (sV p0))],⟨[],[]⟩⟩
noncomputable def Qk5 (p0:(List UInt8)) (x1:(List (List UInt8))) (y4:Unit):St:=⟨[(2,.p (bV false))],⟨[],[]⟩⟩
noncomputable def Qqq:Code:=((loopsOf (Tryz.f96.body.getD .skip)).getD 0 .skip)
noncomputable def Qfn (y:Bool):D :=.p (bV y)
noncomputable def Qt7:List (Nat×List Nat):=[(0,[0,1]),(1,[0,1,12]),(2,[4]),(3,[0,1,5]),(4,[0,1,5,16]),(5,[0,1,5]),(6,[0,1,5,6,7]),(7,[0,1,5,76]),(8,[4]),(9,[4]),(1000004,[0,1,5]),(3000006,[]),(3000007,[]),(6000006,[8,9])]
noncomputable def Qxl (p0:(List Qaa)) (p1:(List Qaa)) (v5:Int) (o4:Int×(List UInt8)×(List UInt8)×Int×(List Qaa)×(List Qaa)×(List Qaa)×Int×(List UInt8)×(List UInt8)×Int×(List Qaa)×(List Qaa)×(List Qaa)):St:=⟨[(0,.p (.sl false (p0.map Qae))),(1,.p (.sl false (p1.map Qae))),(5,.p (iV v5)),(6,.ptr 0 0),(7,.ptr 1 0)],⟨[[.p (iV o4.1),.p (sV o4.2.1),.p (sV o4.2.2.1),.p (iV o4.2.2.2.1),.p (.sl false (o4.2.2.2.2.1.map Qae)),.p (.sl false (o4.2.2.2.2.2.1.map Qae)),.p (.sl false (o4.2.2.2.2.2.2.1.map Qae))],[.p (iV o4.2.2.2.2.2.2.2.1),.p (sV o4.2.2.2.2.2.2.2.2.1),.p (sV o4.2.2.2.2.2.2.2.2.2.1),.p (iV o4.2.2.2.2.2.2.2.2.2.2.1),.p (.sl false (o4.2.2.2.2.2.2.2.2.2.2.2.1.map Qae)),.p (.sl false (o4.2.2.2.2.2.2.2.2.2.2.2.2.1.map Qae)),.p (.sl false (o4.2.2.2.2.2.2.2.2.2.2.2.2.2.map Qae))]],[]⟩⟩
noncomputable def Qxm (p0:(List Qaa)) (p1:(List Qaa)) (v5:Int) (o4:Int×(List UInt8)×(List UInt8)×Int×(List Qaa)×(List Qaa)×(List Qaa)×Int×(List UInt8)×(List UInt8)×Int×(List Qaa)×(List Qaa)×(List Qaa)) (o7:Bool):St:=⟨[(0,.p (.sl false (p0.map Qae))),(1,.p (.sl false (p1.map Qae))),(5,.p (iV v5)),(76,.p (bV o7))],⟨[[.p (iV o4.1),.p (sV o4.2.1),.p (sV o4.2.2.1),.p (iV o4.2.2.2.1),.p (.sl false (o4.2.2.2.2.1.map Qae)),.p (.sl false (o4.2.2.2.2.2.1.map Qae)),.p (.sl false (o4.2.2.2.2.2.2.1.map Qae))],[.p (iV o4.2.2.2.2.2.2.2.1),.p (sV o4.2.2.2.2.2.2.2.2.1),.p (sV o4.2.2.2.2.2.2.2.2.2.1),.p (iV o4.2.2.2.2.2.2.2.2.2.2.1),.p (.sl false (o4.2.2.2.2.2.2.2.2.2.2.2.1.map Qae)),.p (.sl false (o4.2.2.2.2.2.2.2.2.2.2.2.2.1.map Qae)),.p (.sl false (o4.2.2.2.2.2.2.2.2.2.2.2.2.2.map Qae))]],[]⟩⟩
noncomputable def Qk6 (p0:(List Qaa)) (p1:(List Qaa)) (v5:Int):St:=⟨[(0,.p (.sl false (p0.map Qae))),(1,.p (.sl false (p1.map Qae))),(5,.p (iV v5))],⟨[],[]⟩⟩
noncomputable def Qph (p0:(List Qaa)) (p1:(List Qaa)) (y2:Unit):St:=⟨[],⟨[],[]⟩⟩
noncomputable def Qpi (p0:(List Qaa)) (p1:(List Qaa)) (y3:Unit):St:=⟨[(4,.p (bV false))],⟨[],[]⟩⟩
noncomputable def Qxn:Code:=((loopsOf (Tryz.f9.body.getD .skip)).getD 0 .skip)
noncomputable def Qpu (y:(List (List UInt8))):D :=.p (.sl false (y.map cStr))
noncomputable def Qzu:List (Nat×List Nat):=[(0,[]),(1,[0])]
noncomputable def Qe9 (y:(List Qaa)×Int×Int):D :=.tup [.p (.sl false (y.1.map Qae)),.p (iV y.2.1),.p (iV y.2.2)]
noncomputable def Qzv:List (Nat×List Nat):=[(0,[0]),(1,[0,5,6,7]),(2,[0,5,6,7,17]),(3,[2,3,4]),(4,[0,5,8]),(5,[0,5,8,9]),(6,[0,5,8,9,28]),(7,[0,5,8,35]),(8,[2,3,4]),(9,[2,3,4]),(10,[9,48]),(11,[2,3,4]),(12,[9,51]),(13,[2,3,4]),(14,[2,3,4])]
noncomputable def Qkn (y:Bool):D :=.p (bV y)
noncomputable def Qpv:List (Nat×List Nat):=[(0,[0,1]),(1,[4]),(3000001,[])]
noncomputable def Qnk (h0_0:(List Qac)) (h0_1:Int) (h0_2:Bool) (o1:Bool):St:=⟨[(4,.p (bV o1))],⟨[[.p (.sl false (h0_0.map Qab)),.p (iV h0_1),.p (bV h0_2)]],[]⟩⟩
noncomputable def Qe0 (y:(List Qaa)×Int×Bool):D :=.p (.sl false (y.1.map Qae))
noncomputable def Qj4:List (Nat×List Nat):=[(0,[0,1,2]),(1,[0,1,2,7]),(2,[0,1,2,7,27]),(3,[0,1,2,7,29]),(4,[0,1,2,7,8]),(5,[0,1,2,7,8,9]),(6,[0,1,2,7,8,9,45]),(7,[0,1,2,7]),(8,[0,1,2,7]),(9,[0,1,2,7,73]),(10,[6]),(11,[0,1,2,7]),(12,[0,1,2,7,80]),(13,[0,1,2,7]),(14,[0,1,2,7]),(15,[6]),(1000002,[0,1,2,7]),(3000002,[]),(3000006,[]),(3000009,[]),(9000005,[1,0,0,0]),(9000006,[5,0,0,0,6,0,0,0,7,0,0,0]),(9000007,[4,0,0,0,5,0,0,0,6,0,0,0,9,0,0,0,10,0,0,0,11,1,7,0]),(9000008,[4,0,0,0]),(9000014,[4,0,0,0]),(9500010,[]),(9500015,[])]
noncomputable def Qnl (p1:Bool) (p2:Bool) (h0_0:(List Qac)) (v7:(List Qaa)) (h0_1_:Int) (h0_2_:Bool) (o4:Bool):St:=⟨[(0,.ptr 0 0),(1,.p (bV p1)),(2,.p (bV p2)),(7,.x 0 1 (.sl 37 7 (v7.map Qae))),(27,.p (bV o4))],⟨[[.p (.sl false (h0_0.map Qab)),.p (iV h0_1_),.p (bV h0_2_)]],[1]⟩⟩
noncomputable def Qnm (p1:Bool) (p2:Bool) (h0_0:(List Qac)) (v7:(List Qaa)) (x6:Qac×Int×Bool) (o7:Bool):St:=⟨[(0,.ptr 0 0),(1,.p (bV p1)),(2,.p (bV p2)),(7,.x 0 1 (.sl 37 7 (v7.map Qae))),(8,.p (sV x6.1.Text)),(9,.p (iV (wr ((v7.length:Int)-1)))),(45,.p (bV o7))],⟨[[.p (.sl false (h0_0.map Qab)),.p (iV x6.2.1),.p (bV x6.2.2)]],[1]⟩⟩
noncomputable def Qnn (p1:Bool) (p2:Bool) (h0_0:(List Qac)) (v7:(List Qaa)) (h0_1_:Int) (h0_2_:Bool) (o12:Bool):St:=⟨[(0,.ptr 0 0),(1,.p (bV p1)),(2,.p (bV p2)),(7,.x 0 1 (.sl 37 7 (v7.map Qae))),(73,.p (bV o12))],⟨[[.p (.sl false (h0_0.map Qab)),.p (iV h0_1_),.p (bV h0_2_)]],[1]⟩⟩
noncomputable def Qb6 (p1:Bool) (p2:Bool) (h0_0:(List Qac)) (v7:(List Qaa)) (h0_1_:Int) (h0_2_:Bool):St:=⟨[(0,.ptr 0 0),(1,.p (bV p1)),(2,.p (bV p2)),(7,.x 0 1 (.sl 37 7 (v7.map Qae)))],⟨[[.p (.sl false (h0_0.map Qab)),.p (iV h0_1_),.p (bV h0_2_)]],[1]⟩⟩
noncomputable def Qhk (p1:Bool) (p2:Bool) (h0_0:(List Qac)) (y2:(List Qaa)×Int×Bool):St:=⟨[(7,.x 0 1 (.sl 37 7 (y2.1.map Qae)))],⟨[[.p (.sl false (h0_0.map Qab)),.p (iV y2.2.1),.p (bV y2.2.2)]],[1]⟩⟩
noncomputable def Qhl (p1:Bool) (p2:Bool) (h0_0:(List Qac)) (y3:(List Qaa)×Int×Bool):St:=⟨[(6,.p (.sl false (y3.1.map Qae)))],⟨[[.p (.sl false (h0_0.map Qab)),.p (iV y3.2.1),.p (bV y3.2.2)]],[1]⟩⟩
noncomputable def Qno:Code:=((loopsOf (Tryz.f21.body.getD .skip)).getD 0 .skip)
noncomputable def Qhw (y:Qaa×Int×Bool):D :=.p (.agg [iV y.1.Kind,sV y.1.Name,sV y.1.Text,iV y.1.N,.sl false (y.1.L.map Qae),.sl false (y.1.Then.map Qae),.sl false (y.1.Else.map Qae)])
noncomputable def Qko:List (Nat×List Nat):=[(0,[0,2]),(1,[0,2,3]),(2,[0,2,3,7]),(3,[0,2,3]),(4,[0,2,3]),(5,[2]),(1000002,[0,2,3]),(5000004,[3,1005,1008]),(8000004,[2])]
noncomputable def Qdh (h0_0:(List Qac)) (h0_1_:Int) (h0_2_:Bool) (h2_0:Int) (h2_1:(List UInt8)) (h2_2:(List UInt8)) (h2_3:Int) (h2_4:(List Qaa)) (h2_5:(List Qaa)) (h2_6:(List Qaa)):St:=⟨[(0,.ptr 0 0),(2,.ptr 1 0),(3,.ptr 2 0)],⟨[[.p (.sl false (h0_0.map Qab)),.p (iV h0_1_),.p (bV h0_2_)],[.p (iV 0),.p (sV []),.p (sV []),.p (iV 0),.p (.sl true []),.p (.sl true []),.p (.sl true [])],[.p (iV h2_0),.p (sV h2_1),.p (sV h2_2),.p (iV h2_3),.p (.sl false (h2_4.map Qae)),.p (.sl false (h2_5.map Qae)),.p (.sl false (h2_6.map Qae))]],[]⟩⟩
noncomputable def Qfa (h0_0:(List Qac)) (o2:Int×Bool×Int×(List UInt8)×(List UInt8)×Int×(List Qaa)×(List Qaa)×(List Qaa)):St:=⟨[(2,.ptr 1 0),(3,.ptr 2 0)],⟨[[.p (.sl false (h0_0.map Qab)),.p (iV o2.1),.p (bV o2.2.1)],[.p (iV 0),.p (sV []),.p (sV []),.p (iV 0),.p (.sl true []),.p (.sl true []),.p (.sl true [])],[.p (iV o2.2.2.1),.p (sV o2.2.2.2.1),.p (sV o2.2.2.2.2.1),.p (iV o2.2.2.2.2.2.1),.p (.sl false (o2.2.2.2.2.2.2.1.map Qae)),.p (.sl false (o2.2.2.2.2.2.2.2.1.map Qae)),.p (.sl false (o2.2.2.2.2.2.2.2.2.map Qae))]],[]⟩⟩
noncomputable def Qjg:Code:=((loopsOf (Tryz.f67.body.getD .skip)).getD 0 .skip)
noncomputable def Qd9 (y:Qaa×Int×Bool):D :=.p (.agg [iV y.1.Kind,sV y.1.Name,sV y.1.Text,iV y.1.N,.sl false (y.1.L.map Qae),.sl false (y.1.Then.map Qae),.sl false (y.1.Else.map Qae)])
noncomputable def Qoz:List (Nat×List Nat):=[(0,[0,2]),(1,[0,2,7]),(2,[0,2]),(3,[0,2,3]),(4,[0,2,3]),(5,[0,2,3]),(6,[0,2,3,20]),(7,[0,2,3]),(8,[0,2,3]),(9,[2,3]),(10,[2]),(11,[0,2,34]),(12,[0,2,4]),(13,[0,2,4,37]),(14,[0,2,4]),(15,[0,2,4]),(16,[0,2,4]),(17,[0,2,4,46]),(18,[0,2,4]),(19,[0,2,4]),(20,[0,2,4]),(21,[0,2,4]),(22,[0,2,4]),(23,[2,4]),(24,[2]),(25,[0,2,5]),(26,[0,2,5,69]),(27,[0,2,5]),(28,[0,2,5]),(29,[0,2,5]),(30,[0,2,5]),(31,[2,5]),(32,[2]),(2006007,[]),(2013005,[]),(2017005,[]),(2026009,[]),(3000011,[])]
noncomputable def Qmv (h0_0:(List Qac)) (x3:Qaa×Int×Bool) (x5:(List Qaa)×Int×Bool) (o6:Int×Bool×(List Qaa)):St:=⟨[(0,.ptr 0 0),(2,.ptr 1 0),(3,.ptr 2 0)],⟨[[.p (.sl false (h0_0.map Qab)),.p (iV o6.1),.p (bV o6.2.1)],[.p (iV 0),.p (sV []),.p (sV []),.p (iV 0),.p (.sl true []),.p (.sl true []),.p (.sl true [])],[.p (iV 10),.p (sV []),.p (sV []),.p (iV 0),.p (.sl true ([x3.1].map Qae)),.p (.sl false (x5.1.map Qae)),.p (.sl false (o6.2.2.map Qae))]],[]⟩⟩
noncomputable def Qmw (h0_0:(List Qac)) (h0_1:Int) (h0_2:Bool) (o11:Bool):St:=⟨[(0,.ptr 0 0),(2,.ptr 1 0),(34,.p (bV o11))],⟨[[.p (.sl false (h0_0.map Qab)),.p (iV h0_1),.p (bV h0_2)],[.p (iV 0),.p (sV []),.p (sV []),.p (iV 0),.p (.sl true []),.p (.sl true []),.p (.sl true [])]],[]⟩⟩
noncomputable def Qmx (h0_0:(List Qac)) (h0_1:Int) (h0_2:Bool) (o14:Int):St:=⟨[(0,.ptr 0 0),(2,.ptr 1 0),(4,.ptr 2 0)],⟨[[.p (.sl false (h0_0.map Qab)),.p (iV h0_1),.p (bV h0_2)],[.p (iV 0),.p (sV []),.p (sV []),.p (iV 0),.p (.sl true []),.p (.sl true []),.p (.sl true [])],[.p (iV o14),.p (sV []),.p (sV []),.p (iV 0),.p (.sl true []),.p (.sl true []),.p (.sl true [])]],[]⟩⟩
noncomputable def Qmy (h0_0:(List Qac)) (o14:Int) (x17:(List UInt8)×Int×Bool) (o18:Int×Bool):St:=⟨[(0,.ptr 0 0),(2,.ptr 1 0),(4,.ptr 2 0)],⟨[[.p (.sl false (h0_0.map Qab)),.p (iV o18.1),.p (bV o18.2)],[.p (iV 0),.p (sV []),.p (sV []),.p (iV 0),.p (.sl true []),.p (.sl true []),.p (.sl true [])],[.p (iV o14),.p (sV x17.1),.p (sV []),.p (iV 0),.p (.sl true []),.p (.sl true []),.p (.sl true [])]],[]⟩⟩
noncomputable def Qmz (h0_0:(List Qac)) (o27:Int×Bool×Int×(List UInt8)):St:=⟨[(0,.ptr 0 0),(2,.ptr 1 0),(5,.ptr 2 0)],⟨[[.p (.sl false (h0_0.map Qab)),.p (iV o27.1),.p (bV o27.2.1)],[.p (iV 0),.p (sV []),.p (sV []),.p (iV 0),.p (.sl true []),.p (.sl true []),.p (.sl true [])],[.p (iV o27.2.2.1),.p (sV o27.2.2.2),.p (sV []),.p (iV 0),.p (.sl true []),.p (.sl true []),.p (.sl true [])]],[]⟩⟩
noncomputable def Qkp (_:Int×Bool):D :=.tup []
noncomputable def Qpw:List (Nat×List Nat):=[(0,[])]
noncomputable def Qmr (_:Int×Bool):D :=.tup []
noncomputable def Qrq:List (Nat×List Nat):=[(0,[0,1]),(1,[0]),(2,[])]
noncomputable def Qbu (y:Qaa×Int×Bool):D :=.p (.agg [iV y.1.Kind,sV y.1.Name,sV y.1.Text,iV y.1.N,.sl false (y.1.L.map Qae),.sl false (y.1.Then.map Qae),.sl false (y.1.Else.map Qae)])
noncomputable def Qj5:List (Nat×List Nat):=[(0,[0,2]),(1,[0,2,7]),(2,[2]),(3,[0,2,13]),(4,[2]),(5,[0,2,19]),(6,[2]),(7,[2]),(8,[0,2,24]),(9,[2]),(10,[2]),(11,[0,2,29]),(12,[0,2]),(13,[0,2]),(14,[0,2,3]),(15,[2,3]),(16,[2]),(17,[0,2,4]),(18,[0,2,4,66]),(19,[2]),(20,[0,2,4]),(21,[0,2,4]),(22,[0,2,4,72]),(23,[2,4]),(24,[2]),(25,[0,2,4,5]),(26,[0,2,4,5,84]),(27,[0,2,4,5]),(28,[0,2,4,5]),(29,[0,2,4,5,95]),(30,[0,2,4,5,97]),(31,[0,2,4,5]),(32,[2,4]),(33,[2]),(1000026,[0,2,4,5]),(3000014,[]),(3000026,[]),(5000014,[17]),(5000028,[3,1001,1007]),(8000028,[2])]
noncomputable def Qnp (h0_0:(List Qac)) (o13:Int×Bool×Int×(List UInt8)×Int×Int×Int):St:=⟨[(0,.ptr 0 0),(2,.ptr 1 0),(3,.ptr 2 0)],⟨[[.p (.sl false (h0_0.map Qab)),.p (iV o13.1),.p (bV o13.2.1)],[.p (iV 0),.p (sV []),.p (sV []),.p (iV 0),.p (.sl true []),.p (.sl true []),.p (.sl true [])],[.p (iV o13.2.2.1),.p (sV o13.2.2.2.1),.p (iV o13.2.2.2.2.1),.p (iV o13.2.2.2.2.2.1),.p (iV o13.2.2.2.2.2.2)]],[]⟩⟩
noncomputable def Qnq (h0_0:(List Qac)) (x21:(List UInt8)×Int×Bool) (v5:Int) (h0_1_:Int) (h0_2_:Bool) (h2_4:(List Qaa)) (o27:Bool):St:=⟨[(0,.ptr 0 0),(2,.ptr 1 0),(4,.ptr 2 0),(5,.p (iV v5)),(84,.p (bV o27))],⟨[[.p (.sl false (h0_0.map Qab)),.p (iV h0_1_),.p (bV h0_2_)],[.p (iV 0),.p (sV []),.p (sV []),.p (iV 0),.p (.sl true []),.p (.sl true []),.p (.sl true [])],[.p (iV 6),.p (sV x21.1),.p (sV []),.p (iV 0),.own 0 37 7 (h2_4.map Qae),.p (.sl true []),.p (.sl true [])]],[(h2_4.map Qae).length]⟩⟩
noncomputable def Qdb (h0_0:(List Qac)) (x21:(List UInt8)×Int×Bool) (v5:Int) (h0_1_:Int) (h0_2_:Bool) (h2_4:(List Qaa)):St:=⟨[(0,.ptr 0 0),(2,.ptr 1 0),(4,.ptr 2 0),(5,.p (iV v5))],⟨[[.p (.sl false (h0_0.map Qab)),.p (iV h0_1_),.p (bV h0_2_)],[.p (iV 0),.p (sV []),.p (sV []),.p (iV 0),.p (.sl true []),.p (.sl true []),.p (.sl true [])],[.p (iV 6),.p (sV x21.1),.p (sV []),.p (iV 0),.own 0 37 7 (h2_4.map Qae),.p (.sl true []),.p (.sl true [])]],[(h2_4.map Qae).length]⟩⟩
noncomputable def Qhm (h0_0:(List Qac)) (x21:(List UInt8)×Int×Bool) (o26:Int×Bool×(List Qaa)):St:=⟨[(0,.ptr 0 0),(2,.ptr 1 0),(4,.ptr 2 0)],⟨[[.p (.sl false (h0_0.map Qab)),.p (iV o26.1),.p (bV o26.2.1)],[.p (iV 0),.p (sV []),.p (sV []),.p (iV 0),.p (.sl true []),.p (.sl true []),.p (.sl true [])],[.p (iV 6),.p (sV x21.1),.p (sV []),.p (iV 0),.own 0 37 7 (o26.2.2.map Qae),.p (.sl true []),.p (.sl true [])]],[(o26.2.2.map Qae).length]⟩⟩
noncomputable def Qnr:Code:=((loopsOf (Tryz.f95.body.getD .skip)).getD 0 .skip)
noncomputable def Qc6 (y:Bool):D :=.p (bV y)
noncomputable def Qso:List (Nat×List Nat):=[(0,[0,1]),(1,[4]),(3000001,[])]
noncomputable def Qqr (h0_0:(List Qac)) (h0_1:Int) (h0_2:Bool) (o1:Bool):St:=⟨[(4,.p (bV o1))],⟨[[.p (.sl false (h0_0.map Qab)),.p (iV h0_1),.p (bV h0_2)]],[]⟩⟩
noncomputable def Qlg (y:(List UInt8)×Int×Bool):D :=.p (sV y.1)
noncomputable def Qqs:List (Nat×List Nat):=[(0,[0]),(1,[2]),(3000001,[]),(5000001,[17])]
noncomputable def Qo0 (h0_0:(List Qac)) (o1:(List UInt8)×Int×Bool):St:=⟨[(2,.p (sV o1.1))],⟨[[.p (.sl false (h0_0.map Qab)),.p (iV o1.2.1),.p (bV o1.2.2)]],[]⟩⟩
noncomputable def Qhx (y:Qac×Int×Bool):D :=.p (.agg [iV y.1.Kind,sV y.1.Text,iV y.1.N,iV y.1.From,iV y.1.To])
noncomputable def Qqt:List (Nat×List Nat):=[(0,[0,1,4]),(1,[0,4,12]),(2,[4]),(3,[4]),(4,[0,4]),(5,[4]),(3000001,[])]
noncomputable def Qo1 (h0_0:(List Qac)) (h0_1:Int) (h0_2:Bool) (o1:Bool):St:=⟨[(0,.ptr 0 0),(4,.ptr 1 0),(12,.p (bV o1))],⟨[[.p (.sl false (h0_0.map Qab)),.p (iV h0_1),.p (bV h0_2)],[.p (iV 0),.p (sV []),.p (iV 0),.p (iV 0),.p (iV 0)]],[]⟩⟩
noncomputable def Qlh (y:Bool):D :=.p (bV y)
noncomputable def Qqu:List (Nat×List Nat):=[(0,[0,1]),(1,[4]),(3000001,[])]
noncomputable def Qo2 (h0_0:(List Qac)) (h0_1:Int) (h0_2:Bool) (o1:Bool):St:=⟨[(4,.p (bV o1))],⟨[[.p (.sl false (h0_0.map Qab)),.p (iV h0_1),.p (bV h0_2)]],[]⟩⟩
noncomputable def Qcl (y:Bool):D :=.p (bV y)
noncomputable def Qg0:List (Nat×List Nat):=[(0,[0,1]),(1,[4]),(3000001,[])]
noncomputable def Qge  (o1:Bool):St:=⟨[(4,.p (bV o1))],⟨[],[]⟩⟩
noncomputable def Qe1 (y:Int):D :=.p (iV y)
noncomputable def Qns (y:(List Qac)×Int×Int):D :=.tup [.p (.sl false (y.1.map Qab)),.p (iV y.2.1),.p (iV y.2.2)]
noncomputable def Qbk:List (Nat×List Nat):=[(0,[0]),(1,[0,9]),(2,[2,3,4]),(3,[0,5]),(4,[0,5]),(5,[0,5,6]),(6,[0,5,6,21]),(7,[0,5,6]),(8,[0,5,6,30]),(9,[0,5]),(10,[0,5,52]),(11,[2,3,4]),(12,[0,5]),(13,[0,5]),(14,[0,5,66]),(15,[0,5,6]),(16,[0,5,6,75]),(17,[2,3,4]),(18,[0,5]),(19,[0,5]),(20,[0,5,93]),(21,[0,5]),(22,[0,5,107]),(23,[2,3,4]),(2006005,[]),(2008005,[]),(2014015,[]),(3000022,[]),(5000009,[14])]
noncomputable def Qt8 (p0:(List UInt8)) (w0:Int×(List Qac)) (o4:Int):St:=⟨[(0,.p (sV p0)),(5,.ptr 0 0),(6,.p (iV o4))],⟨[[.p (sV p0),.p (iV w0.1),.own 0 59 5 (w0.2.map Qab)]],[(w0.2.map Qab).length]⟩⟩
noncomputable def Qt9 (p0:(List UInt8)) (o5:Int×(List Qac)):St:=⟨[(0,.p (sV p0)),(5,.ptr 0 0)],⟨[[.p (sV p0),.p (iV o5.1),.own 0 59 5 (o5.2.map Qab)]],[(o5.2.map Qab).length]⟩⟩
noncomputable def Qua (p0:(List UInt8)) (x8:Int×(List Qac)) (x9:Int) (y11:Int):St:=⟨[(0,.p (sV p0)),(5,.ptr 0 0)],⟨[[.p (sV p0),.p (iV y11),.own 0 59 5 (x8.2.map Qab)]],[(x8.2.map Qab).length]⟩⟩
noncomputable def Qub (p0:(List UInt8)) (x8:Int×(List Qac)) (x9:Int) (y12:Unit):St:=⟨[(2,.p (.sl true [])),(3,.p (iV (p0.length:Int))),(4,.p (iV 7))],⟨[[.p (sV p0),.p (iV x9),.own 0 59 5 (x8.2.map Qab)]],[(x8.2.map Qab).length]⟩⟩
noncomputable def Quc (p0:(List UInt8)) (o19:Bool×Int×(List Qac)):St:=⟨[(0,.p (sV p0)),(5,.ptr 0 0),(107,.p (bV o19.1))],⟨[[.p (sV p0),.p (iV o19.2.1),.own 0 59 5 (o19.2.2.map Qab)]],[(o19.2.2.map Qab).length]⟩⟩
noncomputable def Qe2 (p0:(List UInt8)) (w0:Int×(List Qac)):St:=⟨[(0,.p (sV p0)),(5,.ptr 0 0)],⟨[[.p (sV p0),.p (iV w0.1),.own 0 59 5 (w0.2.map Qab)]],[(w0.2.map Qab).length]⟩⟩
noncomputable def Qg1 (p0:(List UInt8)) (w1:Int×(List Qac)):St:=⟨[(0,.p (sV p0)),(5,.ptr 0 0)],⟨[[.p (sV p0),.p (iV w1.1),.own 0 59 5 (w1.2.map Qab)]],[(w1.2.map Qab).length]⟩⟩
noncomputable def Qf5 (p0:(List UInt8)) (o1:(List Qac)×Int×Int):St:=⟨[(2,.p (.sl false (o1.1.map Qab))),(3,.p (iV o1.2.1)),(4,.p (iV o1.2.2))],⟨[],[]⟩⟩
noncomputable def Qdu:Code:=((scopesOf (Tryz.f14.body.getD .skip)).getD 0 .skip)
noncomputable def Qjv (y:Bool):D :=.p (bV y)
noncomputable def Qud:List (Nat×List Nat):=[(0,[0]),(1,[0,5,6]),(2,[0,5,6,7]),(3,[0,3,5,6]),(4,[0,5,6,13]),(5,[2]),(6,[0,5,6]),(7,[2]),(1000002,[0,5,6]),(3000007,[])]
noncomputable def Qh9 (p0:(List UInt8)) (v6:Int):St:=⟨[(0,.p (sV p0)),(5,.p (iV (p0.length:Int))),(6,.p (iV v6))],⟨[],[]⟩⟩
noncomputable def Qk7 (p0:(List UInt8)) (y2:Unit):St:=⟨[(0,.p (sV p0))],⟨[],[]⟩⟩
noncomputable def Qk8 (p0:(List UInt8)) (y3:Unit):St:=⟨[(2,.p (bV false))],⟨[],[]⟩⟩
noncomputable def Qqv:Code:=((loopsOf (Tryz.f91.body.getD .skip)).getD 0 .skip)
noncomputable def Qxo  (o6:Bool):St:=⟨[(2,.p (bV o6))],⟨[],[]⟩⟩
noncomputable def Qhy (y:Bool):D :=.p (bV y)
noncomputable def Qzw:List (Nat×List Nat):=[(0,[0]),(1,[2]),(3000001,[])]
noncomputable def Qvh  (o1:Bool):St:=⟨[(2,.p (bV o1))],⟨[],[]⟩⟩
noncomputable def Qg2 (y:Int×Bool):D :=.tup [.p (nV .u8 y.1),.p (bV y.2)]
noncomputable def Qvi:List (Nat×List Nat):=[(0,[0]),(1,[0,4]),(2,[0,4,5]),(3,[2,3]),(4,[0,7]),(5,[2,3]),(6,[2,3]),(3000006,[])]
noncomputable def Qsp (p0:Int) (o1:Bool):St:=⟨[(2,.p (nV .u8 p0)),(3,.p (bV o1))],⟨[],[]⟩⟩
noncomputable def Qin (y:Bool):D :=.p (bV y)
noncomputable def Qxp:List (Nat×List Nat):=[(0,[0]),(1,[2]),(3000001,[])]
noncomputable def Que  (o1:Bool):St:=⟨[(2,.p (bV o1))],⟨[],[]⟩⟩
noncomputable def Qhn (_:Int):D :=.tup []
noncomputable def Ql8:List (Nat×List Nat):=[(0,[])]
noncomputable def Qfr (y:Bool×Int×(List Qac)):D :=.p (bV y.1)
noncomputable def Qnt:List (Nat×List Nat):=[(0,[0]),(1,[0,3]),(2,[0,3,4,5]),(3,[0,3,4,5,18]),(4,[5]),(5,[2])]
noncomputable def Qj6 (_:Int×(List Qac)):D :=.tup []
noncomputable def Qo3:List (Nat×List Nat):=[(0,[0,4]),(1,[])]
noncomputable def Qfb (y:(List UInt8)):D :=.p (sV y)
noncomputable def Qe3:List (Nat×List Nat):=[(0,[0,1,2]),(1,[0,2,7]),(2,[0,2,7,25]),(3,[0,2,7]),(4,[6]),(1000002,[0,2,7]),(3000002,[])]
noncomputable def Qio (h0_0:(List UInt8)) (h0_1:Int) (h0_2:(List Qac)) (v7:Int) (o2:Bool):St:=⟨[(0,.ptr 0 0),(2,.fn (.func 52) [] []),(7,.p (iV v7)),(25,.p (bV o2))],⟨[[.p (sV h0_0),.p (iV h0_1),.own 0 59 5 (h0_2.map Qab)]],[(h0_2.map Qab).length]⟩⟩
noncomputable def Qb2 (h0_0:(List UInt8)) (h0_1:Int) (h0_2:(List Qac)) (v7:Int):St:=⟨[(0,.ptr 0 0),(2,.fn (.func 52) [] []),(7,.p (iV v7))],⟨[[.p (sV h0_0),.p (iV h0_1),.own 0 59 5 (h0_2.map Qab)]],[(h0_2.map Qab).length]⟩⟩
noncomputable def Qcr (h0_0:(List UInt8)) (h0_1:Int) (h0_2:(List Qac)) (o1:Int):St:=⟨[(0,.ptr 0 0),(7,.p (iV o1))],⟨[[.p (sV h0_0),.p (iV h0_1),.own 0 59 5 (h0_2.map Qab)]],[(h0_2.map Qab).length]⟩⟩
noncomputable def Qd4:Code:=((loopsOf (Tryz.f89.body.getD .skip)).getD 0 .skip)
noncomputable def Qe4 (y:(List UInt8)):D :=.p (sV y)
noncomputable def Qem:List (Nat×List Nat):=[(0,[0,1,2]),(1,[0,2,7]),(2,[0,2,7,25]),(3,[0,2,7]),(4,[6]),(1000002,[0,2,7]),(3000002,[])]
noncomputable def Qhz (h0_0:(List UInt8)) (h0_1:Int) (h0_2:(List Qac)) (v7:Int) (o2:Bool):St:=⟨[(0,.ptr 0 0),(2,.fn (.func 54) [] []),(7,.p (iV v7)),(25,.p (bV o2))],⟨[[.p (sV h0_0),.p (iV h0_1),.own 0 59 5 (h0_2.map Qab)]],[(h0_2.map Qab).length]⟩⟩
noncomputable def Qbw (h0_0:(List UInt8)) (h0_1:Int) (h0_2:(List Qac)) (v7:Int):St:=⟨[(0,.ptr 0 0),(2,.fn (.func 54) [] []),(7,.p (iV v7))],⟨[[.p (sV h0_0),.p (iV h0_1),.own 0 59 5 (h0_2.map Qab)]],[(h0_2.map Qab).length]⟩⟩
noncomputable def Qcm (h0_0:(List UInt8)) (h0_1:Int) (h0_2:(List Qac)) (o1:Int):St:=⟨[(0,.ptr 0 0),(7,.p (iV o1))],⟨[[.p (sV h0_0),.p (iV h0_1),.own 0 59 5 (h0_2.map Qab)]],[(h0_2.map Qab).length]⟩⟩
noncomputable def Qdv:Code:=((loopsOf (Tryz.f89.body.getD .skip)).getD 0 .skip)
noncomputable def Qg3 (y:Bool×Int×(List Qac)):D :=.p (bV y.1)
noncomputable def Qj7:List (Nat×List Nat):=[(0,[0]),(1,[0,3]),(2,[0,12,13]),(3,[0,12,13,14]),(4,[0,5,12,13]),(5,[0,5,12,13,27]),(6,[]),(7,[2]),(8,[0,12,13]),(9,[2]),(1000003,[0,12,13])]
noncomputable def Qdc (h0_0:(List UInt8)) (h0_1:Int) (h0_2:(List Qac)) (v13:Int):St:=⟨[(0,.ptr 0 0),(12,.p (.agg [nV .u8 46,iV 7,nV .u8 40,iV 8,nV .u8 41,iV 9,nV .u8 44,iV 10,nV .u8 61,iV 11])),(13,.p (iV v13))],⟨[[.p (sV h0_0),.p (iV h0_1),.own 0 59 5 (h0_2.map Qab)],[.p (nV .u8 46),.p (iV 7),.p (nV .u8 40),.p (iV 8),.p (nV .u8 41),.p (iV 9),.p (nV .u8 44),.p (iV 10),.p (nV .u8 61),.p (iV 11)]],[(h0_2.map Qab).length]⟩⟩
noncomputable def Qew (h0_0:(List UInt8)) (h0_1:Int) (h0_2:(List Qac)) (y2:Unit):St:=⟨[],⟨[[.p (sV h0_0),.p (iV h0_1),.own 0 59 5 (h0_2.map Qab)],[.p (nV .u8 46),.p (iV 7),.p (nV .u8 40),.p (iV 8),.p (nV .u8 41),.p (iV 9),.p (nV .u8 44),.p (iV 10),.p (nV .u8 61),.p (iV 11)]],[(h0_2.map Qab).length]⟩⟩
noncomputable def Qex (h0_0:(List UInt8)) (h0_1:Int) (h0_2:(List Qac)) (y3:Int×(List Qac)):St:=⟨[(2,.p (bV true))],⟨[[.p (sV h0_0),.p (iV y3.1),.own 0 59 5 (y3.2.map Qab)],[.p (nV .u8 46),.p (iV 7),.p (nV .u8 40),.p (iV 8),.p (nV .u8 41),.p (iV 9),.p (nV .u8 44),.p (iV 10),.p (nV .u8 61),.p (iV 11)]],[(y3.2.map Qab).length]⟩⟩
noncomputable def Qip:Code:=((loopsOf (Tryz.f56.body.getD .skip)).getD 0 .skip)
noncomputable def Qe5 (y:Bool×Int×(List Qac)):D :=.p (bV y.1)
noncomputable def Qj8:List (Nat×List Nat):=[(0,[0]),(1,[0,3]),(2,[0,3,4]),(3,[0,3,4,29]),(4,[0,3,4,5,6]),(5,[0,3,4,5,6,39]),(6,[0,3,4,49]),(7,[2]),(8,[0,3,4,7,8]),(9,[0,3,4,7,62]),(10,[2]),(11,[0,3,4]),(12,[0,3,4]),(13,[0,3,4,6,67]),(14,[2]),(15,[0,3,4,6]),(16,[0,3,4]),(17,[0,3,4,101]),(18,[2]),(19,[]),(20,[2]),(1000003,[0,3,4]),(3000003,[]),(3000013,[]),(5000019,[1,9,1001]),(8000019,[1])]
noncomputable def Qnu (h0_0:(List UInt8)) (h0_1:Int) (h0_2:(List Qac)) (v4:Int) (h1_0:Bool) (h1_1:(List Int)) (o4:Bool):St:=⟨[(0,.ptr 0 0),(3,.ptr 1 0),(4,.p (iV v4)),(29,.p (bV o4))],⟨[[.p (sV h0_0),.p (iV h0_1),.own 0 59 5 (h0_2.map Qab)],[.sp Tryz.prog 113 h1_0 1 0,.own 1 5 1 (h1_1.map (cNum .u8))]],[(h0_2.map Qab).length,(h1_1.map (cNum .u8)).length]⟩⟩
noncomputable def Qnv (h0_0:(List UInt8)) (h0_1:Int) (h0_2:(List Qac)) (v4:Int) (h1_0:Bool) (h1_1:(List Int)) (x6:Int×Int) (o10:Bool):St:=⟨[(0,.ptr 0 0),(3,.ptr 1 0),(4,.p (iV v4)),(6,.p (iV x6.2)),(67,.p (bV o10))],⟨[[.p (sV h0_0),.p (iV h0_1),.own 0 59 5 (h0_2.map Qab)],[.sp Tryz.prog 113 h1_0 1 0,.own 1 5 1 (h1_1.map (cNum .u8))]],[(h0_2.map Qab).length,(h1_1.map (cNum .u8)).length]⟩⟩
noncomputable def Qcp (h0_0:(List UInt8)) (h0_1:Int) (h0_2:(List Qac)) (v4:Int) (h1_0:Bool) (h1_1:(List Int)):St:=⟨[(0,.ptr 0 0),(3,.ptr 1 0),(4,.p (iV v4))],⟨[[.p (sV h0_0),.p (iV h0_1),.own 0 59 5 (h0_2.map Qab)],[.sp Tryz.prog 113 h1_0 1 0,.own 1 5 1 (h1_1.map (cNum .u8))]],[(h0_2.map Qab).length,(h1_1.map (cNum .u8)).length]⟩⟩
noncomputable def Qey (h0_0:(List UInt8)) (h0_1:Int) (h0_2:(List Qac)) (y2:Int×Bool×(List Int)):St:=⟨[(0,.ptr 0 0),(3,.ptr 1 0),(4,.p (iV y2.1))],⟨[[.p (sV h0_0),.p (iV h0_1),.own 0 59 5 (h0_2.map Qab)],[.sp Tryz.prog 113 y2.2.1 1 0,.own 1 5 1 (y2.2.2.map (cNum .u8))]],[(h0_2.map Qab).length,(y2.2.2.map (cNum .u8)).length]⟩⟩
noncomputable def Qez (h0_0:(List UInt8)) (h0_1:Int) (h0_2:(List Qac)) (y3:Bool×(List Int)):St:=⟨[(2,.p (bV false))],⟨[[.p (sV h0_0),.p (iV h0_1),.own 0 59 5 (h0_2.map Qab)],[.sp Tryz.prog 113 y3.1 1 0,.own 1 5 1 (y3.2.map (cNum .u8))]],[(h0_2.map Qab).length,(y3.2.map (cNum .u8)).length]⟩⟩
noncomputable def Qiq:Code:=((loopsOf (Tryz.f51.body.getD .skip)).getD 0 .skip)
noncomputable def Qcw (y:Bool×Int×(List Qac)):D :=.p (bV y.1)
noncomputable def Qm0:List (Nat×List Nat):=[(0,[0]),(1,[0,3]),(2,[0,3,13]),(3,[2]),(4,[0,3,18]),(5,[2]),(6,[0,27]),(7,[2]),(8,[2]),(3000004,[])]
noncomputable def Qli (h0_0:(List UInt8)) (h0_1:Int) (h0_2:(List Qac)) (x1:UInt8) (o3:Bool):St:=⟨[(0,.ptr 0 0),(3,.p (nV .u8 (x1.toNat:Int))),(18,.p (bV o3))],⟨[[.p (sV h0_0),.p (iV h0_1),.own 0 59 5 (h0_2.map Qab)]],[(h0_2.map Qab).length]⟩⟩
noncomputable def Qg4 (y:Bool×Int×(List Qac)):D :=.p (bV y.1)
noncomputable def Qpx:List (Nat×List Nat):=[(0,[0]),(1,[0,3]),(2,[0,3,12]),(3,[2]),(4,[]),(5,[2])]
noncomputable def Qfv (y:Bool):D :=.p (bV y)
noncomputable def Qdd:List (Nat×List Nat):=[(0,[0,1,2]),(1,[0,1,2,7,8]),(2,[0,1,2,7,8,9]),(3,[0,1,2,7,8,9,22]),(4,[0,1,2,7,8,9]),(5,[0,1,2,7,8,9]),(6,[1,2,7]),(7,[1,2,10]),(8,[1,2,10,11]),(9,[1,2,10,11,38]),(10,[1,2,10,11]),(11,[1,2,10,11]),(12,[2,7]),(13,[7,45]),(14,[7]),(15,[7,12,13,14]),(16,[12,13,14,15,16,17]),(17,[6]),(1000003,[0,1,2,7,8,9]),(1000009,[1,2,10,11]),(2013005,[]),(3000017,[]),(9000007,[1,0,0,0])]
noncomputable def Qb9 (p0:Int) (p1:Int) (p2:Bool) (v7:(List UInt8)) (v8:(List UInt8)) (v9:Int):St:=⟨[(0,.p (nV .u8 p0)),(1,.p (nV .u16 p1)),(2,.p (bV p2)),(7,.p (sV v7)),(8,.p (sV v8)),(9,.p (iV v9))],⟨[],[]⟩⟩
noncomputable def Qc1 (p0:Int) (p1:Int) (p2:Bool) (o1:(List UInt8)×(List UInt8)):St:=⟨[(1,.p (nV .u16 p1)),(2,.p (bV p2)),(7,.p (sV o1.1)),(8,.p (sV o1.2))],⟨[],[]⟩⟩
noncomputable def Qe6:Code:=((loopsOf (Tryz.f4.body.getD .skip)).getD 0 .skip)
noncomputable def Qca (p1:Int) (p2:Bool) (v10:(List Int)) (v11:Int):St:=⟨[(1,.p (nV .u16 p1)),(2,.p (bV p2)),(10,.own 0 2000005 1 (v10.map (cNum .u8))),(11,.p (iV v11))],⟨[],[(v10.map (cNum .u8)).length]⟩⟩
noncomputable def Qc2 (p1:Int) (p2:Bool) (o3:(List Int)):St:=⟨[(2,.p (bV p2)),(10,.own 0 2000005 1 (o3.map (cNum .u8)))],⟨[],[(o3.map (cNum .u8)).length]⟩⟩
noncomputable def Qe7:Code:=((loopsOf (Tryz.f4.body.getD .skip)).getD 1 .skip)
noncomputable def Qjp (o3:(List Int)) (o6:(List UInt8)):St:=⟨[(7,.p (sV o6))],⟨[],[(o3.map (cNum .u8)).length]⟩⟩
noncomputable def Qjq (o3:(List Int)) (o9:Bool):St:=⟨[(6,.p (bV o9))],⟨[],[(o3.map (cNum .u8)).length]⟩⟩
noncomputable def Qgf (y:Bool):D :=.p (bV y)
noncomputable def Qo4:List (Nat×List Nat):=[(0,[]),(1,[1,3]),(2,[1,3,5,6]),(3,[1,3,5,6,8,9]),(4,[0]),(3000004,[])]
noncomputable def Qm1  (o4:Bool):St:=⟨[(0,.p (bV o4))],⟨[],[]⟩⟩
noncomputable def Qia (y:Bool):D :=.p (bV y)
noncomputable def Quf:List (Nat×List Nat):=[(0,[0,1,2]),(1,[6]),(3000001,[])]
noncomputable def Qrr  (o1:Bool):St:=⟨[(6,.p (bV o1))],⟨[],[]⟩⟩
noncomputable def Qpj (y:Int×Bool):D :=.tup [.p (iV y.1),.p (bV y.2)]
noncomputable def Qcu (y:(List Qaa)×Int×Int):D :=.tup [.p (.sl false (y.1.map Qae)),.p (iV y.2.1),.p (iV y.2.2)]
noncomputable def Qvj:List (Nat×List Nat):=[(0,[1,2,3,4]),(1,[1,2,3,4,5]),(2,[1,2,3,4,5,14]),(3,[2,3,4]),(4,[1,2,3,4,6]),(5,[2,3,4,6]),(6,[2,3,4]),(7,[2,3,4,26]),(8,[2,3,4]),(9,[2,3,4,30]),(10,[2,3,4]),(11,[2,3,4]),(9400003,[]),(9600006,[1]),(9700006,[2,3,4])]
noncomputable def Qgg (y:(List Qaa)×Int):D :=.p (.sl false (y.1.map Qae))
noncomputable def Qjh:List (Nat×List Nat):=[(0,[0]),(1,[0,5]),(2,[2]),(3,[0,3]),(4,[0,3,15]),(5,[0,3]),(6,[3]),(7,[2]),(1000004,[0,3]),(3000004,[]),(9600003,[1]),(9600005,[2]),(9600006,[1])]
noncomputable def Qm2 (h0_0:(List Qac)) (v3:(List Qaa)) (o8:Bool×Int):St:=⟨[(0,.ptr 0 0),(3,.own 0 1000037 7 (v3.map Qae)),(15,.p (bV o8.1))],⟨[[.p (.sl false (h0_0.map Qab)),.p (iV o8.2)]],[(v3.map Qae).length]⟩⟩
noncomputable def Qea (h0_0:(List Qac)) (v3:(List Qaa)) (h0_1_:Int):St:=⟨[(0,.ptr 0 0),(3,.own 0 1000037 7 (v3.map Qae))],⟨[[.p (.sl false (h0_0.map Qab)),.p (iV h0_1_)]],[(v3.map Qae).length]⟩⟩
noncomputable def Qg5 (h0_0:(List Qac)) (y6:(List Qaa)×Int):St:=⟨[(0,.ptr 0 0),(3,.own 0 1000037 7 (y6.1.map Qae))],⟨[[.p (.sl false (h0_0.map Qab)),.p (iV y6.2)]],[(y6.1.map Qae).length]⟩⟩
noncomputable def Qg6 (h0_0:(List Qac)) (y7:Int):St:=⟨[],⟨[[.p (.sl false (h0_0.map Qab)),.p (iV y7)]],[]⟩⟩
noncomputable def Qm3:Code:=((loopsOf (Tryz.f120.body.getD .skip)).getD 0 .skip)
noncomputable def Qfs (y:(List Qaa)×Int×Int):D :=.tup [.p (.sl false (y.1.map Qae)),.p (iV y.2.1)]
noncomputable def Qby:List (Nat×List Nat):=[(0,[0,1,2]),(1,[0,1,2,8]),(2,[0,1,2,8,20]),(3,[0,1,2,8,9]),(4,[0,1,2,8,9,10]),(5,[0,1,2,8,9,10,27]),(6,[0,1,2,8,9,10,37]),(7,[0,1,2,8]),(8,[0,1,2,8]),(9,[0,1,2,8]),(10,[0,1,2,8,56]),(11,[0,1,2,8,59]),(12,[8]),(13,[6,7]),(14,[0,1,2,8,68]),(15,[8]),(16,[6,7]),(17,[0,1,2,8]),(18,[8]),(19,[6,7]),(1000002,[0,1,2,8]),(3000006,[]),(3000011,[]),(3000014,[]),(5000007,[2002,2003,2004]),(9000003,[1,0,0,0]),(9000006,[5,0,0,0,6,0,0,0,7,0,0,0]),(9000007,[8,0,0,0,9,0,0,0,10,1,8,0]),(9000008,[5,0,0,0]),(9000017,[4,0,0,0]),(9500013,[]),(9500016,[]),(9500019,[]),(9600009,[1]),(9600012,[1]),(9600015,[1]),(9600017,[2]),(9600018,[3]),(9800007,[8]),(7000007,[0,1,2,8,38,39,45])]
noncomputable def Ql9 (p1:Bool) (p2:Bool) (h0_0:(List Qac)) (v8:(List Qaa)) (x8:Qac) (x9:Bool×Int) (o10:Bool):St:=⟨[(0,.ptr 0 0),(1,.p (bV p1)),(2,.p (bV p2)),(8,.x 0 1 (.sl 37 7 (v8.map Qae))),(9,.p (iV (wr ((v8.length:Int)-1)))),(10,.ptr 1 0),(37,.p (bV o10))],⟨[[.p (.sl false (h0_0.map Qab)),.p (iV x9.2)],[.p (iV x8.Kind),.p (sV x8.Text),.p (iV x8.N),.p (iV x8.From),.p (iV x8.To)]],[1]⟩⟩
noncomputable def Qma (p1:Bool) (p2:Bool) (h0_0:(List Qac)) (v8:(List Qaa)) (x8:Qac) (o19:Bool×Int):St:=⟨[(0,.ptr 0 0),(1,.p (bV p1)),(2,.p (bV p2)),(8,.x 0 1 (.sl 37 7 (v8.map Qae))),(59,.p (bV o19.1))],⟨[[.p (.sl false (h0_0.map Qab)),.p (iV o19.2)],[.p (iV x8.Kind),.p (sV x8.Text),.p (iV x8.N),.p (iV x8.From),.p (iV x8.To)]],[1]⟩⟩
noncomputable def Qmb (p1:Bool) (p2:Bool) (h0_0:(List Qac)) (v8:(List Qaa)) (x8:Qac) (o24:Bool×Int):St:=⟨[(0,.ptr 0 0),(1,.p (bV p1)),(2,.p (bV p2)),(8,.x 0 1 (.sl 37 7 (v8.map Qae))),(68,.p (bV o24.1))],⟨[[.p (.sl false (h0_0.map Qab)),.p (iV o24.2)],[.p (iV x8.Kind),.p (sV x8.Text),.p (iV x8.N),.p (iV x8.From),.p (iV x8.To)]],[1]⟩⟩
noncomputable def Qbv (p1:Bool) (p2:Bool) (h0_0:(List Qac)) (v8:(List Qaa)) (h0_1_:Int):St:=⟨[(0,.ptr 0 0),(1,.p (bV p1)),(2,.p (bV p2)),(8,.x 0 1 (.sl 37 7 (v8.map Qae)))],⟨[[.p (.sl false (h0_0.map Qab)),.p (iV h0_1_)]],[1]⟩⟩
noncomputable def Qgr (p1:Bool) (p2:Bool) (h0_0:(List Qac)) (y5:(List Qaa)×Int):St:=⟨[(0,.ptr 0 0),(1,.p (bV p1)),(8,.x 0 1 (.sl 37 7 (y5.1.map Qae)))],⟨[[.p (.sl false (h0_0.map Qab)),.p (iV y5.2)]],[1]⟩⟩
noncomputable def Qgs (p1:Bool) (p2:Bool) (h0_0:(List Qac)) (y6:(List Qaa)×Int×Int):St:=⟨[(6,.p (.sl false (y6.1.map Qae))),(7,.p (iV y6.2.1))],⟨[[.p (.sl false (h0_0.map Qab)),.p (iV y6.2.2)]],[1]⟩⟩
noncomputable def Qgt (p1:Bool) (p2:Bool) (h0_0:(List Qac)) (y7:Int):St:=⟨[],⟨[[.p (.sl false (h0_0.map Qab)),.p (iV y7)]],[1]⟩⟩
noncomputable def Qmc:Code:=((loopsOf (Tryz.f17.body.getD .skip)).getD 0 .skip)
noncomputable def Qfq (p1:Bool) (p2:Bool) (h0_0:(List Qac)) (h0_1:Int) (w0:Unit):St:=⟨[(0,.ptr 0 0),(1,.p (bV p1)),(2,.p (bV p2)),(8,.p (.sl true []))],⟨[[.p (.sl false (h0_0.map Qab)),.p (iV h0_1)]],[]⟩⟩
noncomputable def Qgu (p1:Bool) (p2:Bool) (h0_0:(List Qac)) (h0_1:Int) (y2:(List Qaa)×Int×Int):St:=⟨[(6,.p (.sl false (y2.1.map Qae))),(7,.p (iV y2.2.1))],⟨[[.p (.sl false (h0_0.map Qab)),.p (iV y2.2.2)]],[1]⟩⟩
noncomputable def Qgv (p1:Bool) (p2:Bool) (h0_0:(List Qac)) (h0_1:Int) (y3:Int):St:=⟨[],⟨[[.p (.sl false (h0_0.map Qab)),.p (iV y3)]],[1]⟩⟩
noncomputable def Qg7:Code:=((scopesOf (Tryz.f17.body.getD .skip)).getD 0 .skip)
noncomputable def Qir (y:(List Qaa)×Int):D :=.p (.sl false (y.1.map Qae))
noncomputable def Qm4:List (Nat×List Nat):=[(0,[0]),(1,[0,3]),(2,[3]),(3,[2]),(9600001,[1]),(9600002,[1])]
noncomputable def Qgh (y:Qaa×Int):D :=.p (.agg [iV y.1.Kind,sV y.1.Name,sV y.1.Text,iV y.1.N,.sl false (y.1.L.map Qae),.sl false (y.1.Then.map Qae),.sl false (y.1.Else.map Qae)])
noncomputable def Qji:List (Nat×List Nat):=[(0,[0,2]),(1,[0,2,3]),(2,[0,2,3,7]),(3,[0,2,3]),(4,[2]),(1000002,[0,2,3]),(5000003,[1,1003,1006]),(8000003,[2]),(9600001,[1]),(9600003,[1])]
noncomputable def Qc4 (h0_0:(List Qac)) (h0_1_:Int) (h2_0:Int) (h2_1:(List UInt8)) (h2_2:(List UInt8)) (h2_3:Int) (h2_4:(List Qaa)) (h2_5:(List Qaa)) (h2_6:(List Qaa)):St:=⟨[(0,.ptr 0 0),(2,.ptr 1 0),(3,.ptr 2 0)],⟨[[.p (.sl false (h0_0.map Qab)),.p (iV h0_1_)],[.p (iV 0),.p (sV []),.p (sV []),.p (iV 0),.p (.sl true []),.p (.sl true []),.p (.sl true [])],[.p (iV h2_0),.p (sV h2_1),.p (sV h2_2),.p (iV h2_3),.p (.sl false (h2_4.map Qae)),.p (.sl false (h2_5.map Qae)),.p (.sl false (h2_6.map Qae))]],[]⟩⟩
noncomputable def Qeb (h0_0:(List Qac)) (y5:Int×Int×(List UInt8)×(List UInt8)×Int×(List Qaa)×(List Qaa)×(List Qaa)):St:=⟨[(2,.ptr 1 0),(3,.ptr 2 0)],⟨[[.p (.sl false (h0_0.map Qab)),.p (iV y5.1)],[.p (iV 0),.p (sV []),.p (sV []),.p (iV 0),.p (.sl true []),.p (.sl true []),.p (.sl true [])],[.p (iV y5.2.1),.p (sV y5.2.2.1),.p (sV y5.2.2.2.1),.p (iV y5.2.2.2.2.1),.p (.sl false (y5.2.2.2.2.2.1.map Qae)),.p (.sl false (y5.2.2.2.2.2.2.1.map Qae)),.p (.sl false (y5.2.2.2.2.2.2.2.map Qae))]],[]⟩⟩
noncomputable def Qec (h0_0:(List Qac)) (y6:Int×Int×(List UInt8)×(List UInt8)×Int×(List Qaa)×(List Qaa)×(List Qaa)):St:=⟨[],⟨[[.p (.sl false (h0_0.map Qab)),.p (iV y6.1)],[.p (iV 0),.p (sV []),.p (sV []),.p (iV 0),.p (.sl true []),.p (.sl true []),.p (.sl true [])],[.p (iV y6.2.1),.p (sV y6.2.2.1),.p (sV y6.2.2.2.1),.p (iV y6.2.2.2.2.1),.p (.sl false (y6.2.2.2.2.2.1.map Qae)),.p (.sl false (y6.2.2.2.2.2.2.1.map Qae)),.p (.sl false (y6.2.2.2.2.2.2.2.map Qae))]],[]⟩⟩
noncomputable def Qho:Code:=((loopsOf (Tryz.f92.body.getD .skip)).getD 0 .skip)
noncomputable def Qbp (y:Qaa×Int):D :=.p (.agg [iV y.1.Kind,sV y.1.Name,sV y.1.Text,iV y.1.N,.sl false (y.1.L.map Qae),.sl false (y.1.Then.map Qae),.sl false (y.1.Else.map Qae)])
noncomputable def Qnw:List (Nat×List Nat):=[(0,[0,2]),(1,[0,2,3]),(2,[0,2,3,8]),(3,[2,3]),(4,[2]),(5,[0,2,3,22]),(6,[2,3]),(7,[2]),(8,[0,2,36]),(9,[2]),(10,[0,2,40]),(11,[2]),(12,[0,2,44]),(13,[0,2]),(14,[0,2]),(15,[0,2,4]),(16,[2,4]),(17,[2]),(18,[0,2,5]),(19,[0,2,5,66]),(20,[2,5]),(21,[2]),(9600013,[1]),(9600014,[5]),(9600015,[1]),(9600016,[1]),(9600018,[1]),(9600020,[1])]
noncomputable def Qpy (_:Unit):D :=.tup []
noncomputable def Qj9 (y:(List UInt8)×Int):D :=.p (sV y.1)
noncomputable def Qo5:List (Nat×List Nat):=[(0,[0]),(1,[0]),(2,[2]),(9600001,[5]),(9600002,[1])]
noncomputable def Qgi (y:Qac):D :=.p (.agg [iV y.Kind,sV y.Text,iV y.N,iV y.From,iV y.To])
noncomputable def Qo6:List (Nat×List Nat):=[(0,[0,2]),(1,[0,2,12]),(2,[2]),(3,[2])]
noncomputable def Qft (y:Int):D :=.p (iV y)
noncomputable def Qnx:List (Nat×List Nat):=[(0,[0,1]),(1,[0,1,14]),(2,[4]),(3,[4])]
noncomputable def Qgj (y:Bool×Int):D :=.p (bV y.1)
noncomputable def Qo7:List (Nat×List Nat):=[(0,[0,1]),(1,[0,9]),(2,[4]),(3,[]),(4,[4])]
noncomputable def Qce (y:Qaa×Int):D :=.p (.agg [iV y.1.Kind,sV y.1.Name,sV y.1.Text,iV y.1.N,.sl false (y.1.L.map Qae),.sl false (y.1.Then.map Qae),.sl false (y.1.Else.map Qae)])
noncomputable def Qo8:List (Nat×List Nat):=[(0,[0,2]),(1,[0,2,3]),(2,[2,3]),(3,[0,2,3,8]),(4,[0,2,3]),(5,[0,2,3]),(6,[0,2,3,4]),(7,[0,2,3,21]),(8,[2,3]),(9,[0,2,3,28]),(10,[0,2,3]),(11,[0,2,3]),(12,[0,2,3]),(13,[2,3]),(14,[0,2,3,47]),(15,[0,2,3]),(16,[0,2,3]),(17,[0,2,3]),(18,[2,3]),(19,[0,2,3,64]),(20,[0,2,3]),(21,[2,3]),(22,[2]),(9600002,[1]),(9600004,[1]),(9600006,[1]),(9600008,[1]),(9600010,[1]),(9600011,[3]),(9600012,[1]),(9600013,[1]),(9600015,[1]),(9600016,[1]),(9600017,[1]),(9600018,[1]),(9600020,[1]),(9600021,[1])]
noncomputable def Qka (y:Qac×Int):D :=.p (.agg [iV y.1.Kind,sV y.1.Text,iV y.1.N,iV y.1.From,iV y.1.To])
noncomputable def Qo9:List (Nat×List Nat):=[(0,[0,1,4]),(1,[0,1,4,5]),(2,[0,4,5]),(3,[4,5]),(4,[4]),(9600002,[5])]
noncomputable def Qgk (y:Bool×Int):D :=.p (bV y.1)
noncomputable def Qpa:List (Nat×List Nat):=[(0,[0,1]),(1,[0,1,5]),(2,[0,16]),(3,[4]),(4,[]),(5,[4]),(3000002,[])]
noncomputable def Qm5 (h0_0:(List Qac)) (h0_1:Int) (x1:Qac) (o2:Bool):St:=⟨[(0,.ptr 0 0),(16,.p (bV o2))],⟨[[.p (.sl false (h0_0.map Qab)),.p (iV h0_1)],[.p (iV x1.Kind),.p (sV x1.Text),.p (iV x1.N),.p (iV x1.From),.p (iV x1.To)]],[]⟩⟩
noncomputable def Qkf (y:(List UInt8)):D :=.p (sV y)
noncomputable def Qen (y:Unit×Bool×(List Int)):D :=.p (.v .nilIface)
noncomputable def Qis:List (Nat×List Nat):=[(0,[0,1]),(1,[0,1]),(2,[]),(3,[4])]
noncomputable def Qdw (y:Int×Unit×Bool×(List Int)):D :=.tup [.p (iV y.1),.p (.v .nilIface)]
noncomputable def Qhg:List (Nat×List Nat):=[(0,[0,1]),(1,[0,1]),(2,[1]),(3,[4,5])]
noncomputable def Qi7 (_:Bool):D :=.tup []
noncomputable def Qgl (y:Bool):D :=.p (bV y)
noncomputable def Qpb:List (Nat×List Nat):=[(0,[0,1]),(1,[4])]
noncomputable def Qg8 (y:Int):D :=.p (iV y)
noncomputable def Qsq:List (Nat×List Nat):=[(0,[0,1]),(1,[4])]
noncomputable def Qkq (y:(List UInt8)):D :=.p (sV y)
noncomputable def Qny (y:Int):D :=.p (iV y)
noncomputable def Qmd:List (Nat×List Nat):=[(0,[0]),(1,[0,3]),(2,[3,5]),(3,[3,5]),(4,[2]),(4000003,[3,5])]
noncomputable def Qde (x1:(List Qaa)×Int) (h0_0:Int):St:=⟨[(3,.ptr 0 0),(5,.fn (.func 59) [] [.p (.ep [.sl false (x1.1.map Qae)]),.p (.ep [iV x1.2])])],⟨[[.p (iV h0_0)]],[]⟩⟩
noncomputable def Qi8 (x1:(List Qaa)×Int) (o6:Int):St:=⟨[(3,.ptr 0 0),(5,.fn (.func 59) [] [.p (.ep [.sl false (x1.1.map Qae)]),.p (.ep [iV x1.2])])],⟨[[.p (iV o6)]],[]⟩⟩
noncomputable def Qdx:Code:=((loopsOf (Tryz.f18.body.getD .skip)).getD 0 .skip)
noncomputable def Qpz (y:Int):D :=.p (iV y)
noncomputable def Qnz:List (Nat×List Nat):=[(0,[0,5]),(1,[0,3,5]),(2,[3,5,7]),(3,[3,5,7]),(4,[3,5,7]),(5,[2]),(4000003,[3,5,7])]
noncomputable def Qdy (x1:(List Qaa)×Int) (h0_0:Int):St:=⟨[(3,.ptr 0 0),(7,.fn (.func 59) [] [.p (.ep [.sl false (x1.1.map Qae)]),.p (.ep [iV x1.2])])],⟨[[.p (iV h0_0)]],[]⟩⟩
noncomputable def Qkb (x1:(List Qaa)×Int) (o6:Int):St:=⟨[(3,.ptr 0 0),(7,.fn (.func 59) [] [.p (.ep [.sl false (x1.1.map Qae)]),.p (.ep [iV x1.2])])],⟨[[.p (iV o6)]],[]⟩⟩
noncomputable def Qes:Code:=((loopsOf (Tryz.f19.body.getD .skip)).getD 0 .skip)
noncomputable def Qme (y:Bool):D :=.p (bV y)
noncomputable def Qzx:List (Nat×List Nat):=[(0,[0]),(1,[0,3]),(2,[0,3,4]),(3,[0,3,4]),(4,[0,3,4]),(5,[0,3,4]),(6,[0,3,4]),(7,[0,3,4]),(8,[0,3,4]),(9,[0,3,4]),(10,[0,3,4]),(11,[0,4]),(12,[2]),(13,[2]),(2002037,[])]
noncomputable def Qvk (p0:(List UInt8)) (o1:Bool):St:=⟨[(0,.p (sV p0)),(4,.p (bV o1))],⟨[],[]⟩⟩
noncomputable def Qlj (y:(List Qaa)×Int):D :=.fn (.func 59) [] [.p (.ep [.sl false (y.1.map Qae)]),.p (.ep [iV y.2])]
noncomputable def Q1f:List (Nat×List Nat):=[(0,[2,3]),(1,[4])]
noncomputable def Qbj (y:(Qaa×Int)):List V:=[.agg [iV y.1.Kind,sV y.1.Name,sV y.1.Text,iV y.1.N,.sl false (y.1.L.map Qae),.sl false (y.1.Then.map Qae),.sl false (y.1.Else.map Qae)],iV y.2]
noncomputable def Qg9:List (Nat×List Nat):=[(0,[1,2,3,8,9]),(1,[2,3,8,9,10,11,12]),(2,[2,3,8,9,10,11,12,13]),(3,[2,3,5,8,9,10,11,12]),(4,[2,3,5,8,9,10,11,12,20]),(5,[2,3,8,9,10,11,12,27,28]),(6,[2,3,8,9,10,11,12,27,28,29]),(7,[2,3,7,8,9,10,11,12,27,28]),(8,[2,3,8,9,10,11,12,27,28,34]),(9,[2,3,8,10,11,12,27,28,34,36]),(10,[2,3,8,9,10,11,12,27,28,34]),(11,[2,3,8,9,10,11,12,27,28,34,41]),(12,[2,3,8,9,10,11,12,27,28]),(13,[2,3,8,9,10,11,12]),(1000002,[2,3,8,9,10,11,12]),(1000006,[2,3,8,9,10,11,12,27,28]),(4000009,[2,3,8,9,10,11,12,27,28,34])]
noncomputable def Qdf (p0:(List Qaa)) (p1:Int) (v12:Int) (x3:Qaa) (v28:Int) (x7:(List Qaa)×Int) (gxs gp:List (List V)):St:=⟨[(2,.p (.ep [iV p1])),(3,.ptr 0 0),(10,.p (.sl false (p0.map Qae))),(11,.p (iV (p0.length:Int))),(12,.p (iV v12)),(27,.p (.agg [.sl false (x3.L.map Qae),.sl false (x3.Then.map Qae),.sl false (x3.Else.map Qae)])),(28,.p (iV v28)),(34,.fn (.func 59) [] [.p (.ep [.sl false (x7.1.map Qae)]),.p (.ep [iV x7.2])])],⟨[[.yld Tryz.prog 0 gxs],[.p (iV x3.Kind),.p (sV x3.Name),.p (sV x3.Text),.p (iV x3.N),.p (.sl false (x3.L.map Qae)),.p (.sl false (x3.Then.map Qae)),.p (.sl false (x3.Else.map Qae))]],[gp.length]⟩⟩
noncomputable def Qi9 (p0:(List Qaa)) (p1:Int) (v12:Int) (x3:Qaa) (v28:Int) (x7:(List Qaa)×Int) (gxs:List (List V)) (gq12:List (List V)) (oy:Unit):St:=⟨[(2,.p (.ep [iV p1])),(3,.ptr 0 0),(10,.p (.sl false (p0.map Qae))),(11,.p (iV (p0.length:Int))),(12,.p (iV v12)),(27,.p (.agg [.sl false (x3.L.map Qae),.sl false (x3.Then.map Qae),.sl false (x3.Else.map Qae)])),(28,.p (iV v28)),(34,.fn (.func 59) [] [.p (.ep [.sl false (x7.1.map Qae)]),.p (.ep [iV x7.2])])],⟨[[.yld Tryz.prog 0 gxs],[.p (iV x3.Kind),.p (sV x3.Name),.p (sV x3.Text),.p (iV x3.N),.p (.sl false (x3.L.map Qae)),.p (.sl false (x3.Then.map Qae)),.p (.sl false (x3.Else.map Qae))]],[gq12.length]⟩⟩
noncomputable def Qdz:Code:=((loopsOf (Tryz.f59.body.getD .skip)).getD 2 .skip)
noncomputable def Qja (p0:(List Qaa)) (p1:Int) (v12:Int) (x3:Qaa) (v28:Int) (gxs gp:List (List V)):St:=⟨[(2,.p (.ep [iV p1])),(3,.ptr 0 0),(10,.p (.sl false (p0.map Qae))),(11,.p (iV (p0.length:Int))),(12,.p (iV v12)),(27,.p (.agg [.sl false (x3.L.map Qae),.sl false (x3.Then.map Qae),.sl false (x3.Else.map Qae)])),(28,.p (iV v28))],⟨[[.yld Tryz.prog 0 gxs],[.p (iV x3.Kind),.p (sV x3.Name),.p (sV x3.Text),.p (iV x3.N),.p (.sl false (x3.L.map Qae)),.p (.sl false (x3.Then.map Qae)),.p (.sl false (x3.Else.map Qae))]],[gp.length]⟩⟩
noncomputable def Qms (p0:(List Qaa)) (p1:Int) (v12:Int) (x3:Qaa) (gxs:List (List V)) (gq4:List (List V)) (oy:Unit):St:=⟨[(2,.p (.ep [iV p1])),(3,.ptr 0 0),(10,.p (.sl false (p0.map Qae))),(11,.p (iV (p0.length:Int))),(12,.p (iV v12))],⟨[[.yld Tryz.prog 0 gxs],[.p (iV x3.Kind),.p (sV x3.Name),.p (sV x3.Text),.p (iV x3.N),.p (.sl false (x3.L.map Qae)),.p (.sl false (x3.Then.map Qae)),.p (.sl false (x3.Else.map Qae))]],[gq4.length]⟩⟩
noncomputable def Qug:Code:=((loopsOf (Tryz.f59.body.getD .skip)).getD 1 .skip)
noncomputable def Qjb (p0:(List Qaa)) (p1:Int) (v12:Int) (gxs gp:List (List V)):St:=⟨[(2,.p (.ep [iV p1])),(3,.ptr 0 0),(10,.p (.sl false (p0.map Qae))),(11,.p (iV (p0.length:Int))),(12,.p (iV v12))],⟨[[.yld Tryz.prog 0 gxs]],[gp.length]⟩⟩
noncomputable def Qmt (p0:(List Qaa)) (p1:Int) (gxs:List (List V)) (gq1:List (List V)) (oy:Unit):St:=⟨[],⟨[[.yld Tryz.prog 0 gxs]],[gq1.length]⟩⟩
noncomputable def Quh:Code:=((loopsOf (Tryz.f59.body.getD .skip)).getD 0 .skip)
noncomputable def Qjw (y:Int×Int):D :=.tup [.p (nV .i32 y.1),.p (iV y.2)]
noncomputable def Q1g:List (Nat×List Nat):=[(0,[0,1]),(1,[0,1,17]),(2,[4,5]),(3,[0,1,6]),(4,[4,5]),(5,[0,1,6,21]),(6,[4,5]),(7,[0,1,6,26]),(8,[0,1,4,7,8]),(9,[0,1,6,36]),(10,[0,1,4,7,8]),(11,[0,1,6,46]),(12,[0,1,4,7,8]),(13,[4,7,8,9]),(14,[4,8,77]),(15,[4,5]),(16,[4,5]),(2004022,[]),(3000001,[]),(3000007,[]),(3000009,[]),(3000011,[]),(3000014,[])]
noncomputable def Qxq (p0:(List UInt8)) (p1:Int) (o1:Bool):St:=⟨[(0,.p (sV p0)),(1,.p (iV p1)),(17,.p (bV o1))],⟨[],[]⟩⟩
noncomputable def Qxr (p0:(List UInt8)) (p1:Int) (y4:Int×Int×Int):St:=⟨[(0,.p (sV p0)),(1,.p (iV p1)),(4,.p (nV .i32 y4.1)),(7,.p (nV .i32 y4.2.1)),(8,.p (iV y4.2.2))],⟨[],[]⟩⟩
noncomputable def Qxs (p0:(List UInt8)) (p1:Int) (y5:Int):St:=⟨[(4,.p (nV .i32 y5)),(5,.p (iV 1))],⟨[],[]⟩⟩
noncomputable def Qxt (p0:(List UInt8)) (p1:Int) (x2:UInt8) (o6:Bool):St:=⟨[(0,.p (sV p0)),(1,.p (iV p1)),(6,.p (nV .u8 (x2.toNat:Int))),(26,.p (bV o6))],⟨[],[]⟩⟩
noncomputable def Qxu (p0:(List UInt8)) (p1:Int) (x2:UInt8) (o7:Bool):St:=⟨[(0,.p (sV p0)),(1,.p (iV p1)),(6,.p (nV .u8 (x2.toNat:Int))),(36,.p (bV o7))],⟨[],[]⟩⟩
noncomputable def Qxv (p0:(List UInt8)) (p1:Int) (x2:UInt8) (o8:Bool):St:=⟨[(0,.p (sV p0)),(1,.p (iV p1)),(6,.p (nV .u8 (x2.toNat:Int))),(46,.p (bV o8))],⟨[],[]⟩⟩
noncomputable def Qxw (y4:Int×Int×Int) (x10:Int×Bool) (o11:Bool):St:=⟨[(4,.p (nV .i32 x10.1)),(8,.p (iV y4.2.2)),(77,.p (bV o11))],⟨[],[]⟩⟩
noncomputable def Qxx (y:Bool):D :=.p (bV y)
noncomputable def Q49:List (Nat×List Nat):=[(0,[0]),(1,[2]),(3000001,[])]
noncomputable def Q1h  (o1:Bool):St:=⟨[(2,.p (bV o1))],⟨[],[]⟩⟩
noncomputable def Qlk (y:Int×Bool):D :=.tup [.p (nV .i32 y.1),.p (bV y.2)]
noncomputable def Qui:List (Nat×List Nat):=[(0,[0,1,2]),(1,[0,1,2,12]),(2,[6,7]),(3,[0,1,13,14]),(4,[0,1,13,14,15]),(5,[0,1,8,13,14]),(6,[0,1,8,13,14,21]),(7,[6,7]),(8,[0,1,13,14]),(9,[0,1,13,14]),(10,[6,7]),(1000004,[0,1,13,14])]
noncomputable def Qib (p0:(List UInt8)) (p2:Int) (v1:Int) (v14:Int):St:=⟨[(0,.p (sV p0)),(1,.p (nV .i32 v1)),(13,.p (iV p2)),(14,.p (iV v14))],⟨[],[]⟩⟩
noncomputable def Qk9 (p0:(List UInt8)) (p2:Int) (y2:Int):St:=⟨[(1,.p (nV .i32 y2))],⟨[],[]⟩⟩
noncomputable def Qla (p0:(List UInt8)) (p2:Int) (y3:Unit):St:=⟨[(6,.p (nV .i32 0)),(7,.p (bV false))],⟨[],[]⟩⟩
noncomputable def Qqw:Code:=((loopsOf (Tryz.f107.body.getD .skip)).getD 0 .skip)
noncomputable def Qcs (p0:(List UInt8)) (p1:(List UInt8)) (p2:Int):Option (Bool) :=
 ( if(decide (p2 ≥ 0)) then
   if(decide (p2≤(p0.length:Int))) then
    if(decide ((p1.length:Int)≤(wr ((p0.length:Int)-p2)))) then
     cutL p0 p2 (wr (p2+(p1.length:Int)))>>=fun x2 =>
     some (x2==p1)
    else
     some false
   else
    some false
  else
   some false:Option (Bool))>>=fun o1 =>
 some o1
theorem Qmf:∀ (p0:(List UInt8)) (p1:(List UInt8)) (p2:Int) (o:Bool),Qcs p0 p1 p2=some o→PCall Tryz.prog 40 [sV p0,sV p1,iV p2] (Qik o):=by
 intro p0 p1 p2 o h
 unfold Qcs at h
 refine PCall.ofB mixed tbOk Qxc Tryz.func40 rfl (by kernel_rfl) (Nat.le_of_ble_eq_true rfl) ?_
 refine Qai h (fun o1 ho hk=>?_)
 refine Exists.intro (JP1 _ _ o1 .normal (Qtw )) (And.intro ?_ (join1 ?_))
 ·have h:=ho
  refine Qaf h (fun hb h=>?_) (fun hb h=>?_)
  ·refine vrfl ?_
   refine Qaf h (fun hb h=>?_) (fun hb h=>?_)
   ·refine vrfl ?_
    refine vrfl ?_
    refine Qaf h (fun hb h=>?_) (fun hb h=>?_)
    ·refine vrfl ?_
     refine Qev (some p2) (some (wr (p2+(p1.length:Int)))) h (fun x2 hi h=>?_)
     refine JP1.a h ?_
     exact Le.tz 0 0 rfl rfl rfl
    ·refine JP1.a h ?_
     exact Le.tz 0 0 rfl rfl rfl
   ·refine bF ?_
    refine JP1.a h ?_
    exact Le.tz 0 0 rfl rfl rfl
  ·refine bF ?_
   refine bF ?_
   refine JP1.a h ?_
   exact Le.tz 0 0 rfl rfl rfl
 ·have h:=hk
  refine Qax (t:=Qik) h ?_
  exact .refl _
noncomputable def Qou (p0:(List UInt8)):Option (Int×Bool) :=
 need (p0.length≤9223372036854775807)>>=fun _ =>
 some (rnumP p0)
theorem Qxy:∀ (p0:(List UInt8)) (o:Int×Bool),Qou p0=some o→PCall Tryz.prog 65 [sV p0] (Qsc o):=by
 intro p0 o h
 unfold Qou at h
 obtain⟨h1,h⟩:=Qnd h
 cases h
 exact Q3r _ h1
noncomputable def Qmg (p0:Int):Option (Bool) :=
 ( if(decide (p0 ≥ 0)) then
   if(decide (p0≤1114111)) then
    if(decide (p0 ≥ 55296)) then
     some (!(decide (p0≤57343)))
    else
     some true
   else
    some false
  else
   some false:Option (Bool))>>=fun o1 =>
 some o1
theorem Quj:∀ (p0:Int) (o:Bool),Qmg p0=some o→PCall Tryz.prog 112 [iV p0] (Qoq o):=by
 intro p0 o h
 unfold Qmg at h
 refine PCall.ofB mixed tbOk Q1e Tryz.func112 rfl (by kernel_rfl) (Nat.le_of_ble_eq_true rfl) ?_
 refine Qai h (fun o1 ho hk=>?_)
 refine Exists.intro (JP1 _ _ o1 .normal (Qxg )) (And.intro ?_ (join1 ?_))
 ·have h:=ho
  refine Qaf h (fun hb h=>?_) (fun hb h=>?_)
  ·refine Qaf h (fun hb h=>?_) (fun hb h=>?_)
   ·refine Qaf h (fun hb h=>?_) (fun hb h=>?_)
    ·refine JP1.a h ?_
     exact Le.tz 0 0 rfl rfl rfl
    ·refine JP1.a h ?_
     exact Le.tz 0 0 rfl rfl rfl
   ·refine JP1.a h ?_
    exact Le.tz 0 0 rfl rfl rfl
  ·refine bF ?_
   refine JP1.a h ?_
   exact Le.tz 0 0 rfl rfl rfl
 ·have h:=hk
  refine Qax (t:=Qoq) h ?_
  exact .refl _
noncomputable def Qll (p0:Int):Option ((List UInt8)) :=
 ( Qmg p0>>=fun x2 =>
  if(!x2) then
   some 65533
  else
   some p0:Option (Int))>>=fun o1 =>
 if(decide (o1<128)) then
  b2s [(IntKind.u8.wrap o1)]>>=fun x3 =>
  some x3
 else
  if(decide (o1<2048)) then
   b2s [(IntKind.u8.wrap (wr (192+(wr (o1.tdiv 64))))),(IntKind.u8.wrap (wr (128+(o1.tmod 64))))]>>=fun x4 =>
   some x4
  else
   if(decide (o1<65536)) then
    b2s [(IntKind.u8.wrap (wr (224+(wr (o1.tdiv 4096))))),(IntKind.u8.wrap (wr (128+((wr (o1.tdiv 64)).tmod 64)))),(IntKind.u8.wrap (wr (128+(o1.tmod 64))))]>>=fun x5 =>
    some x5
   else
    b2s [(IntKind.u8.wrap (wr (240+(wr (o1.tdiv 262144))))),(IntKind.u8.wrap (wr (128+((wr (o1.tdiv 4096)).tmod 64)))),(IntKind.u8.wrap (wr (128+((wr (o1.tdiv 64)).tmod 64)))),(IntKind.u8.wrap (wr (128+(o1.tmod 64))))]>>=fun x6 =>
    some x6
theorem Qzy:∀ (p0:Int) (o:(List UInt8)),Qll p0=some o→PCall Tryz.prog 113 [iV p0] (Qhr o):=by
 intro p0 o h
 unfold Qll at h
 refine PCall.ofB mixed tbOk Qzn Tryz.func113 rfl (by kernel_rfl) (Nat.le_of_ble_eq_true rfl) ?_
 refine Qai h (fun o1 ho hk=>?_)
 refine Exists.intro (JP1 _ _ o1 .normal (Qvc )) (And.intro ?_ (join1 ?_))
 ·have h:=ho
  refine Qar [iV p0] Qoq h (fun x2 hy=>(Quj p0 x2 hy)) (fun x2 hy h=>?_)
  refine Qaf h (fun hb h=>?_) (fun hb h=>?_)
  ·refine JP1.a h ?_
   exact Le.tz 0 0 rfl rfl rfl
  ·refine JP1.a h ?_
   exact Le.tz 0 0 rfl rfl rfl
 ·have h:=hk
  refine Qaf h (fun hb h=>?_) (fun hb h=>?_)
  ·refine vrfl ?_
   refine Qzj (l:=[(IntKind.u8.wrap o1)]) h (fun x3 hi h=>?_)
   refine Qax (t:=Qhr) h ?_
   exact .refl _
  ·refine Qaf h (fun hb h=>?_) (fun hb h=>?_)
   ·refine And.intro (by decide) ?_
    refine vrfl ?_
    refine And.intro (by decide) ?_
    refine vrfl ?_
    refine Qzj (l:=[(IntKind.u8.wrap (wr (192+(wr (o1.tdiv 64))))),(IntKind.u8.wrap (wr (128+(o1.tmod 64))))]) h (fun x4 hi h=>?_)
    refine Qax (t:=Qhr) h ?_
    exact .refl _
   ·refine Qaf h (fun hb h=>?_) (fun hb h=>?_)
    ·refine And.intro (by decide) ?_
     refine vrfl ?_
     refine And.intro (by decide) ?_
     refine And.intro (by decide) ?_
     refine vrfl ?_
     refine And.intro (by decide) ?_
     refine vrfl ?_
     refine Qzj (l:=[(IntKind.u8.wrap (wr (224+(wr (o1.tdiv 4096))))),(IntKind.u8.wrap (wr (128+((wr (o1.tdiv 64)).tmod 64)))),(IntKind.u8.wrap (wr (128+(o1.tmod 64))))]) h (fun x5 hi h=>?_)
     refine Qax (t:=Qhr) h ?_
     exact .refl _
    ·refine And.intro (by decide) ?_
     refine vrfl ?_
     refine And.intro (by decide) ?_
     refine And.intro (by decide) ?_
     refine vrfl ?_
     refine And.intro (by decide) ?_
     refine And.intro (by decide) ?_
     refine vrfl ?_
     refine And.intro (by decide) ?_
     refine vrfl ?_
     refine Qzj (l:=[(IntKind.u8.wrap (wr (240+(wr (o1.tdiv 262144))))),(IntKind.u8.wrap (wr (128+((wr (o1.tdiv 4096)).tmod 64)))),(IntKind.u8.wrap (wr (128+((wr (o1.tdiv 64)).tmod 64)))),(IntKind.u8.wrap (wr (128+(o1.tmod 64))))]) h (fun x6 hi h=>?_)
     refine Qax (t:=Qhr) h ?_
     exact .refl _
noncomputable def Qfc (p0:(List UInt8)) (p1:Int) (v6:(List Int)) (v7:Int) (v8:Int) (v9:Int):Option (Int) :=
 if(decide (v9<v7)) then
  idx p0 (wr (p1+v9))>>=fun x9 =>
  Qfc p0 p1 v6 v7 (wr ((wr ((wr (64*v8))+(wr (x9.toNat:Int))))-128)) (wr (v9+1))
 else
  some v8
 partial_fixpoint
theorem Quk:∀ (p0:(List UInt8)) (p1:Int) (v6:(List Int)) (v7:Int),(∀ (v8:Int) (v9:Int) (o8:Int),Qfc p0 p1 v6 v7 v8 v9=some o8→TL (0,0) Tryz.prog 74 Qqk (JP1 (0,0) 74 o8 (.exit 2) (Qkx p0 p1 v6 v7)) (Qh4 p0 p1 v6 v7 v8 v9)):=by
 intro p0 p1 v6 v7
 refine Qfc.partial_correctness p0 p1 v6 v7 _ ?_
 intro Qfc' iQfc v8 v9 o8 h
 refine TL.round (Qam mixed tbOk (lv:=Qps) _ _ _ ?_)
 refine Qaf h (fun hb h=>?_) (fun hb h=>?_)
 ·refine Qcq h (fun x9 hi h=>?_)
  refine vrfl ?_
  refine TL.le (τ := Qh4 p0 p1 v6 v7 (wr ((wr ((wr (64*v8))+(wr (x9.toNat:Int))))-128)) (wr (v9+1))) ?_ ((iQfc (wr ((wr ((wr (64*v8))+(wr (x9.toNat:Int))))-128)) (wr (v9+1)) _ h))
  exact Le.tz 0 0 rfl rfl rfl
 ·exact JP1.a h (Le.tz 0 0 rfl rfl rfl)
theorem Qvl:∀ (p0:(List UInt8)) (p1:Int) (v6:(List Int)) (v7:Int) (v8:Int) (v9:Int) (o8:Int),Qfc p0 p1 v6 v7 v8 v9=some o8→TL (0,0) Tryz.prog 74 Qqk (JP1 (0,0) 74 o8 (.exit 2) (Qkx p0 p1 v6 v7)) (Qh4 p0 p1 v6 v7 v8 v9):=fun p0 p1 v6 v7 v8 v9=>(Quk p0 p1 v6 v7) v8 v9
noncomputable def Qc7 (p0:(List UInt8)) (p1:Int) (v6:(List Int)) (v7:Int):Option (Unit⊕(Int×Int)) :=
 ( if(decide (v7≤4)) then
   some (decide (v7≤(wr ((p0.length:Int)-p1))))
  else
   some false:Option (Bool))>>=fun o5 =>
 if o5 then
  idx p0 p1>>=fun x6 =>
  idx v6 v7>>=fun x7 =>
  (Qfc p0 p1 v6 v7 (wr ((wr (x6.toNat:Int))-x7)) 1)>>=fun o8 =>
  ( if(decide (o8 ≥ 0)) then
    Qmg o8>>=fun x11 =>
    if x11 then
     Qll o8>>=fun x12 =>
     cutL p0 p1 (wr (p1+v7))>>=fun x13 =>
     some (x12==x13)
    else
     some false
   else
    some false:Option (Bool))>>=fun o10 =>
  if o10 then
   some (.inr (o8,v7))
  else
   Qc7 p0 p1 v6 (wr (v7+1))
 else
  some (.inl ())
 partial_fixpoint
theorem Qul:∀ (p0:(List UInt8)) (p1:Int) (v6:(List Int)),(∀ (v7:Int) (o2:Unit⊕(Int×Int)),Qc7 p0 p1 v6 v7=some o2→TL (0,0) Tryz.prog 74 Qql (JP2 (0,0) 74 o2 (.exit 0) (Qky p0 p1) .ret (Qkz p0 p1)) (Qh5 p0 p1 v6 v7)):=by
 intro p0 p1 v6
 refine Qc7.partial_correctness p0 p1 v6 _ ?_
 intro Qc7' iQc7 v7 o2 h
 refine TL.round (Qam mixed tbOk (lv:=Qps) _ _ _ ?_)
 refine Qai h (fun o5 ho hk=>?_)
 refine Exists.intro (JP1 _ _ o5 .normal (Qxe p0 p1 v6 v7)) (And.intro ?_ (join1 ?_))
 ·have h:=ho
  refine Qaf h (fun hb h=>?_) (fun hb h=>?_)
  ·refine vrfl ?_
   refine JP1.a h ?_
   exact Le.tz 0 0 rfl rfl rfl
  ·refine JP1.a h ?_
   exact Le.tz 0 0 rfl rfl rfl
 ·have h:=hk
  refine Qaf h (fun hb h=>?_) (fun hb h=>?_)
  ·refine And.intro (by decide +kernel) (And.intro rfl ?_)
   refine Qcq h (fun x6 hi h=>?_)
   refine vrfl ?_
   refine Qel (l:=v6) (c:=cInt) (c' := cInt) h (fun _=>rfl) (fun _=>rfl) (by decide) (fun x7 hi h=>?_)
   refine Qai h (fun o8 ho hk=>?_)
   refine Exists.intro (JP1 _ _ o8 (.exit 2) (Qkx p0 p1 v6 v7)) (And.intro (T_le (τ := Qh4 p0 p1 v6 v7 (wr ((wr (x6.toNat:Int))-x7)) 1) ?_ (TL.loop (Qvl p0 p1 v6 v7 (wr ((wr (x6.toNat:Int))-x7)) 1 o8 ho))) (join1 ?_))
   ·exact Le.tz 0 0 rfl rfl rfl
   have h:=hk
   refine Qai h (fun o10 ho hk=>?_)
   refine Exists.intro (JP1 _ _ o10 .normal (Qxf p0 p1 v6 v7 o8)) (And.intro ?_ (join1 ?_))
   ·have h:=ho
    refine And.intro (by decide +kernel) (And.intro rfl ?_)
    refine Qaf h (fun hb h=>?_) (fun hb h=>?_)
    ·refine Qf1 [iV o8] Qoq h (fun x11 hy=>(Quj o8 x11 hy)) (fun x11 hy h=>?_)
     refine Qaf h (fun hb h=>?_) (fun hb h=>?_)
     ·refine Qf1 [iV o8] Qhr h (fun x12 hy=>(Qzy o8 x12 hy)) (fun x12 hy h=>?_)
      refine Qev (some p1) (some (wr (p1+v7))) h (fun x13 hi h=>?_)
      refine JP1.a h ?_
      exact Le.tz 0 0 rfl rfl rfl
     ·refine JP1.a h ?_
      exact Le.tz 0 0 rfl rfl rfl
    ·refine bF ?_
     refine JP1.a h ?_
     exact Le.tz 0 0 rfl rfl rfl
   ·have h:=hk
    refine Qaf h (fun hb h=>?_) (fun hb h=>?_)
    ·exact JP2.b h (Le.tz 0 0 rfl rfl rfl)
    ·refine TL.le (τ := Qh5 p0 p1 v6 (wr (v7+1))) ?_ ((iQc7 (wr (v7+1)) _ h))
     exact Le.tz 0 0 rfl rfl rfl
  ·exact JP2.a h (Le.tz 0 0 rfl rfl rfl)
theorem Qvm:∀ (p0:(List UInt8)) (p1:Int) (v6:(List Int)) (v7:Int) (o2:Unit⊕(Int×Int)),Qc7 p0 p1 v6 v7=some o2→TL (0,0) Tryz.prog 74 Qql (JP2 (0,0) 74 o2 (.exit 0) (Qky p0 p1) .ret (Qkz p0 p1)) (Qh5 p0 p1 v6 v7):=fun p0 p1 v6 v7=>(Qul p0 p1 v6) v7
noncomputable def Qov (p0:(List UInt8)) (p1:Int):Option (Int×Int) :=
 ( if(decide (p1<0)) then
   some true
  else
   some (decide (p1 ≥ (p0.length:Int))):Option (Bool))>>=fun o1 =>
 if o1 then
  some (0,0)
 else
  (Qc7 p0 p1 [0,0,192,224,240] 1)>>=fun o2 =>
  match o2 with
  | .inl y3 =>
   some (65533,1)
  | .inr y4 =>
   some (y4.1,y4.2)
theorem Q1i:∀ (p0:(List UInt8)) (p1:Int) (o:Int×Int),Qov p0 p1=some o→PCall Tryz.prog 94 [sV p0,iV p1] (Qlf o):=by
 intro p0 p1 o h
 unfold Qov at h
 refine PCall.ofB mixed tbOk Qps Tryz.func94 rfl (by kernel_rfl) (Nat.le_of_ble_eq_true rfl) ?_
 refine Qai h (fun o1 ho hk=>?_)
 refine Exists.intro (JP1 _ _ o1 .normal (Qxd p0 p1)) (And.intro ?_ (join1 ?_))
 ·have h:=ho
  refine Qaf h (fun hb h=>?_) (fun hb h=>?_)
  ·refine JP1.a h ?_
   exact Le.tz 0 0 rfl rfl rfl
  ·refine vrfl ?_
   refine JP1.a h ?_
   exact Le.tz 0 0 rfl rfl rfl
 ·have h:=hk
  refine Qaf h (fun hb h=>?_) (fun hb h=>?_)
  ·refine Qax (t:=Qlf) h ?_
   exact .refl _
  ·refine Qai h (fun o2 ho hk=>?_)
   refine Exists.intro (JP2 _ _ o2 (.exit 0) (Qky p0 p1) .ret (Qkz p0 p1)) (And.intro (T_le (τ := Qh5 p0 p1 [0,0,192,224,240] 1) ?_ (TL.loop (Qvm p0 p1 [0,0,192,224,240] 1 o2 ho))) (join2 (fun y3 hy=>?_) (fun y4 hy=>?_)))
   ·exact Le.tz 0 0 rfl rfl rfl
   ·have h:=(by rw[hy] at hk; exact hk)
    refine Qax (t:=Qlf) h ?_
    exact .refl _
   ·have h:=(by rw[hy] at hk; exact hk)
    refine Qax (t:=Qlf) h ?_
    exact .refl _
noncomputable def Qzz (p0:(List UInt8)) (v3:Int):Option (Unit⊕Unit) :=
 if(decide (v3<(p0.length:Int))) then
  Qov p0 v3>>=fun x4 =>
  ( if(x4.1==65533) then
    some (x4.2==1)
   else
    some false:Option (Bool))>>=fun o5 =>
  if o5 then
   some (.inr ())
  else
   Qzz p0 (wr (v3+x4.2))
 else
  some (.inl ())
 partial_fixpoint
noncomputable def Q7g (p0:(List UInt8)):Option (Bool) :=
 (Qzz p0 0)>>=fun o1 =>
 match o1 with
 | .inl y2 =>
  some true
 | .inr y3 =>
  some false
noncomputable def Qsh (p0:(List UInt8)) (v4:(List UInt8)) (v5:Int):Option ((List UInt8)⊕Unit) :=
 if(decide (v5<(p0.length:Int))) then
  cutL p0 v5 (wr (v5+1))>>=fun x5 =>
  if(x5==[13]) then
   some (.inr ())
  else
   ( if(x5==[10]) then
     some [92,110]
    else
     if(x5==[9]) then
      some [92,116]
     else
      ( if(x5==[34]) then
        some true
       else
        some (x5==[92]):Option (Bool))>>=fun o7 =>
      if o7 then
       need ([92].length+x5.length≤9223372036854775807)>>=fun _ =>
       some ([92]++x5)
      else
       some x5:Option ((List UInt8)))>>=fun o6 =>
   need (v4.length+o6.length≤9223372036854775807)>>=fun _ =>
   Qsh p0 (v4++o6) (wr (v5+1))
 else
  some (.inl v4)
 partial_fixpoint
noncomputable def Qqx (p0:(List UInt8)):Option ((List UInt8)×Bool) :=
 Q7g p0>>=fun x1 =>
 if(!x1) then
  some ([],false)
 else
  (Qsh p0 [34] 0)>>=fun o2 =>
  match o2 with
  | .inl y3 =>
   need (y3.length+[34].length≤9223372036854775807)>>=fun _ =>
   some ((y3++[34]),true)
  | .inr y4 =>
   some ([],false)
noncomputable def Qn0 (p0:Int):Option (Bool) :=
 ( if(p0==32) then
   some true
  else
   if(p0==9) then
    some true
   else
    if(p0==10) then
     some true
    else
     some (p0==13):Option (Bool))>>=fun o1 =>
 some o1
theorem Qz0:∀ (p0:Int) (o:Bool),Qn0 p0=some o→PCall Tryz.prog 60 [nV .u8 p0] (Qpt o):=by
 intro p0 o h
 unfold Qn0 at h
 refine PCall.ofB mixed tbOk Qzo Tryz.func60 rfl (by kernel_rfl) (Nat.le_of_ble_eq_true rfl) ?_
 refine Qai h (fun o1 ho hk=>?_)
 refine Exists.intro (JP1 _ _ o1 .normal (Qvd )) (And.intro ?_ (join1 ?_))
 ·have h:=ho
  refine Qaf h (fun hb h=>?_) (fun hb h=>?_)
  ·refine bT ?_
   refine bT ?_
   refine JP1.a h ?_
   exact Le.tz 0 0 rfl rfl rfl
  ·refine Qaf h (fun hb h=>?_) (fun hb h=>?_)
   ·refine bT ?_
    refine JP1.a h ?_
    exact Le.tz 0 0 rfl rfl rfl
   ·refine Qaf h (fun hb h=>?_) (fun hb h=>?_)
    ·refine JP1.a h ?_
     exact Le.tz 0 0 rfl rfl rfl
    ·refine JP1.a h ?_
     exact Le.tz 0 0 rfl rfl rfl
 ·have h:=hk
  refine Qax (t:=Qpt) h ?_
  exact .refl _
noncomputable def Qdi (p0:(List UInt8)) (v1:Int):Option (Int) :=
 ( if(decide (v1<(p0.length:Int))) then
   idx p0 v1>>=fun x3 =>
   Qn0 (x3.toNat:Int)>>=fun x4 =>
   some x4
  else
   some false:Option (Bool))>>=fun o2 =>
 if o2 then
  Qdi p0 (wr (v1+1))
 else
  some v1
 partial_fixpoint
theorem Qrs:∀ (p0:(List UInt8)),(∀ (v1:Int) (o1:Int),Qdi p0 v1=some o1→TL (0,0) Tryz.prog 18 Qnh (JP1 (0,0) 18 o1 (.exit 0) (Qi4 p0)) (Qf4 p0 v1)):=by
 intro p0
 refine Qdi.partial_correctness p0 _ ?_
 intro Qdi' iQdi v1 o1 h
 refine TL.round (Qam mixed tbOk (lv:=Qqn) _ _ _ ?_)
 refine Qai h (fun o2 ho hk=>?_)
 refine Exists.intro (JP1 _ _ o2 .normal (Qt0 p0 v1)) (And.intro ?_ (join1 ?_))
 ·have h:=ho
  refine vrfl ?_
  refine Qaf h (fun hb h=>?_) (fun hb h=>?_)
  ·refine Qcq h (fun x3 hi h=>?_)
   refine Qar [nV .u8 (x3.toNat:Int)] Qpt h (fun x4 hy=>(Qz0 (x3.toNat:Int) x4 hy)) (fun x4 hy h=>?_)
   refine JP1.a h ?_
   exact Le.tz 0 0 rfl rfl rfl
  ·refine JP1.a h ?_
   exact Le.tz 0 0 rfl rfl rfl
 ·have h:=hk
  refine Qaf h (fun hb h=>?_) (fun hb h=>?_)
  ·refine TL.le (τ := Qf4 p0 (wr (v1+1))) ?_ ((iQdi (wr (v1+1)) _ h))
   exact Le.tz 0 0 rfl rfl rfl
  ·exact JP1.a h (Le.tz 0 0 rfl rfl rfl)
theorem Qsr:∀ (p0:(List UInt8)) (v1:Int) (o1:Int),Qdi p0 v1=some o1→TL (0,0) Tryz.prog 18 Qnh (JP1 (0,0) 18 o1 (.exit 0) (Qi4 p0)) (Qf4 p0 v1):=fun p0 v1=>(Qrs p0) v1
noncomputable def Qdg (p0:(List UInt8)) (p1:Int):Option (Int) :=
 (Qdi p0 p1)>>=fun o1 =>
 some o1
theorem Qqy:∀ (p0:(List UInt8)) (p1:Int) (o:Int),Qdg p0 p1=some o→PCall Tryz.prog 39 [sV p0,iV p1] (Qkl o):=by
 intro p0 p1 o h
 unfold Qdg at h
 refine PCall.ofB mixed tbOk Qqn Tryz.func39 rfl (by kernel_rfl) (Nat.le_of_ble_eq_true rfl) ?_
 refine Qai h (fun o1 ho hk=>?_)
 refine Exists.intro (JP1 _ _ o1 (.exit 0) (Qi4 p0)) (And.intro (T_le (τ := Qf4 p0 p1) ?_ (TL.loop (Qsr p0 p1 o1 ho))) (join1 ?_))
 ·exact Le.tz 0 0 rfl rfl rfl
 have h:=hk
 refine Qax (t:=Qkl) h ?_
 exact .refl _
noncomputable def Qfw (p0:Int):Option (Bool) :=
 ( if(decide (p0 ≥ 48)) then
   some (decide (p0≤57))
  else
   some false:Option (Bool))>>=fun o1 =>
 some o1
theorem Qkr:∀ (p0:Int) (o:Bool),Qfw p0=some o→PCall Tryz.prog 63 [nV .u8 p0] (Qht o):=by
 intro p0 o h
 unfold Qfw at h
 refine PCall.ofB mixed tbOk Qzp Tryz.func63 rfl (by kernel_rfl) (Nat.le_of_ble_eq_true rfl) ?_
 refine Qai h (fun o1 ho hk=>?_)
 refine Exists.intro (JP1 _ _ o1 .normal (Qve )) (And.intro ?_ (join1 ?_))
 ·have h:=ho
  refine Qaf h (fun hb h=>?_) (fun hb h=>?_)
  ·refine JP1.a h ?_
   exact Le.tz 0 0 rfl rfl rfl
  ·refine JP1.a h ?_
   exact Le.tz 0 0 rfl rfl rfl
 ·have h:=hk
  refine Qax (t:=Qht) h ?_
  exact .refl _
noncomputable def Qfx (p0:Int):Option (Bool) :=
 ( if(decide (p0 ≥ 97)) then
   some (decide (p0≤122))
  else
   some false:Option (Bool))>>=fun o1 =>
 some o1
theorem Qks:∀ (p0:Int) (o:Bool),Qfx p0=some o→PCall Tryz.prog 62 [nV .u8 p0] (Qhu o):=by
 intro p0 o h
 unfold Qfx at h
 refine PCall.ofB mixed tbOk Qzt Tryz.func62 rfl (by kernel_rfl) (Nat.le_of_ble_eq_true rfl) ?_
 refine Qai h (fun o1 ho hk=>?_)
 refine Exists.intro (JP1 _ _ o1 .normal (Qvf )) (And.intro ?_ (join1 ?_))
 ·have h:=ho
  refine Qaf h (fun hb h=>?_) (fun hb h=>?_)
  ·refine JP1.a h ?_
   exact Le.tz 0 0 rfl rfl rfl
  ·refine JP1.a h ?_
   exact Le.tz 0 0 rfl rfl rfl
 ·have h:=hk
  refine Qax (t:=Qhu) h ?_
  exact .refl _
noncomputable def Qfd (p0:(List UInt8)) (v3:Int):Option (Unit⊕Unit) :=
 if(decide (v3<(p0.length:Int))) then
  ( idx p0 v3>>=fun x8 =>
   Qfx (x8.toNat:Int)>>=fun x9 =>
   if(!x9) then
    idx p0 v3>>=fun x10 =>
    Qfw (x10.toNat:Int)>>=fun x11 =>
    if(!x11) then
     idx p0 v3>>=fun x12 =>
     some ((x12.toNat:Int) != 95)
    else
     some false
   else
    some false:Option (Bool))>>=fun o7 =>
  if o7 then
   some (.inr ())
  else
   Qfd p0 (wr (v3+1))
 else
  some (.inl ())
 partial_fixpoint
theorem Qum:∀ (p0:(List UInt8)),(∀ (v3:Int) (o4:Unit⊕Unit),Qfd p0 v3=some o4→TL (0,0) Tryz.prog 42 Qqm (JP2 (0,0) 42 o4 (.exit 0) (Qk0 p0) .ret (Qk1 p0)) (Qh6 p0 v3)):=by
 intro p0
 refine Qfd.partial_correctness p0 _ ?_
 intro Qfd' iQfd v3 o4 h
 refine TL.round (Qam mixed tbOk (lv:=Qtz) _ _ _ ?_)
 refine vrfl ?_
 refine Qaf h (fun hb h=>?_) (fun hb h=>?_)
 ·refine Qai h (fun o7 ho hk=>?_)
  refine Exists.intro (JP1 _ _ o7 .normal (Qxi p0 v3)) (And.intro ?_ (join1 ?_))
  ·have h:=ho
   refine Qcq h (fun x8 hi h=>?_)
   refine Qar [nV .u8 (x8.toNat:Int)] Qhu h (fun x9 hy=>(Qks (x8.toNat:Int) x9 hy)) (fun x9 hy h=>?_)
   refine Qaf h (fun hb h=>?_) (fun hb h=>?_)
   ·refine Qcq h (fun x10 hi h=>?_)
    refine Qar [nV .u8 (x10.toNat:Int)] Qht h (fun x11 hy=>(Qkr (x10.toNat:Int) x11 hy)) (fun x11 hy h=>?_)
    refine Qaf h (fun hb h=>?_) (fun hb h=>?_)
    ·refine Qcq h (fun x12 hi h=>?_)
     refine JP1.a h ?_
     exact Le.tz 0 0 rfl rfl rfl
    ·refine JP1.a h ?_
     exact Le.tz 0 0 rfl rfl rfl
   ·refine bF ?_
    refine JP1.a h ?_
    exact Le.tz 0 0 rfl rfl rfl
  ·have h:=hk
   refine Qaf h (fun hb h=>?_) (fun hb h=>?_)
   ·exact JP2.b h (Le.tz 0 0 rfl rfl rfl)
   ·refine TL.le (τ := Qh6 p0 (wr (v3+1))) ?_ ((iQfd (wr (v3+1)) _ h))
    exact Le.tz 0 0 rfl rfl rfl
 ·exact JP2.a h (Le.tz 0 0 rfl rfl rfl)
theorem Qvn:∀ (p0:(List UInt8)) (v3:Int) (o4:Unit⊕Unit),Qfd p0 v3=some o4→TL (0,0) Tryz.prog 42 Qqm (JP2 (0,0) 42 o4 (.exit 0) (Qk0 p0) .ret (Qk1 p0)) (Qh6 p0 v3):=fun p0 v3=>(Qum p0) v3
noncomputable def Qic (p0:(List UInt8)):Option (Bool) :=
 ( if(decide ((p0.length:Int)<1)) then
   some true
  else
   if(decide ((p0.length:Int)>32)) then
    some true
   else
    idx p0 0>>=fun x2 =>
    Qfx (x2.toNat:Int)>>=fun x3 =>
    some (!x3):Option (Bool))>>=fun o1 =>
 if o1 then
  some false
 else
  (Qfd p0 0)>>=fun o4 =>
  match o4 with
  | .inl y5 =>
   some true
  | .inr y6 =>
   some false
theorem Qp0:∀ (p0:(List UInt8)) (o:Bool),Qic p0=some o→PCall Tryz.prog 64 [sV p0] (Qhs o):=by
 intro p0 o h
 unfold Qic at h
 refine PCall.ofB mixed tbOk Qtz Tryz.func64 rfl (by kernel_rfl) (Nat.le_of_ble_eq_true rfl) ?_
 refine Qai h (fun o1 ho hk=>?_)
 refine Exists.intro (JP1 _ _ o1 .normal (Qxh p0)) (And.intro ?_ (join1 ?_))
 ·have h:=ho
  refine vrfl ?_
  refine Qaf h (fun hb h=>?_) (fun hb h=>?_)
  ·refine bT ?_
   refine JP1.a h ?_
   exact Le.tz 0 0 rfl rfl rfl
  ·refine vrfl ?_
   refine Qaf h (fun hb h=>?_) (fun hb h=>?_)
   ·refine JP1.a h ?_
    exact Le.tz 0 0 rfl rfl rfl
   ·refine Qcq h (fun x2 hi h=>?_)
    refine Qar [nV .u8 (x2.toNat:Int)] Qhu h (fun x3 hy=>(Qks (x2.toNat:Int) x3 hy)) (fun x3 hy h=>?_)
    refine JP1.a h ?_
    exact Le.tz 0 0 rfl rfl rfl
 ·have h:=hk
  refine Qaf h (fun hb h=>?_) (fun hb h=>?_)
  ·refine Qax (t:=Qhs) h ?_
   exact .refl _
  ·refine Qai h (fun o4 ho hk=>?_)
   refine Exists.intro (JP2 _ _ o4 (.exit 0) (Qk0 p0) .ret (Qk1 p0)) (And.intro (T_le (τ := Qh6 p0 0) ?_ (TL.loop (Qvn p0 0 o4 ho))) (join2 (fun y5 hy=>?_) (fun y6 hy=>?_)))
   ·exact Le.tz 0 0 rfl rfl rfl
   ·have h:=(by rw[hy] at hk; exact hk)
    refine Qax (t:=Qhs) h ?_
    exact .refl _
   ·have h:=(by rw[hy] at hk; exact hk)
    refine Qax (t:=Qhs) h ?_
    exact .refl _
noncomputable def Qd0 (p0:(List UInt8)) (p1:Int) (x1:UInt8) (v9:Int):Option (Unit⊕(Int×Int)) :=
 if(decide (v9<([46,40,41,44,61].length:Int))) then
  idx ([46,40,41,44,61]:List UInt8) v9>>=fun x6 =>
  if((x6.toNat:Int)==(x1.toNat:Int)) then
   idx ([7,8,9,10,11]:List Int) v9>>=fun x7 =>
   some (.inr (x7,x7))
  else
   Qd0 p0 p1 x1 (wr (v9+1))
 else
  some (.inl ())
 partial_fixpoint
theorem Qvo:∀ (p0:(List UInt8)) (p1:Int) (x1:UInt8),(∀ (v9:Int) (o3:Unit⊕(Int×Int)),Qd0 p0 p1 x1 v9=some o3→TL (0,0) Tryz.prog 133 Qsd (JP2 (0,0) 133 o3 (.exit 0) (Ql4 p0 p1 x1) .ret (Ql5 p0 p1 x1)) (Qjm p0 p1 x1 v9)):=by
 intro p0 p1 x1
 refine Qd0.partial_correctness p0 p1 x1 _ ?_
 intro Qd0' iQd0 v9 o3 h
 refine TL.round (Qam mixed tbOk (lv:=Qos) _ _ _ ?_)
 refine vrfl ?_
 refine Qaf h (fun hb h=>?_) (fun hb h=>?_)
 ·refine Qcq h (fun x6 hi h=>?_)
  refine Qaf h (fun hb h=>?_) (fun hb h=>?_)
  ·refine Qel (l:=[7,8,9,10,11]) (c:=cInt) (c' := cInt) h (fun _=>rfl) (fun _=>rfl) (by decide) (fun x7 hi h=>?_)
   exact JP2.b h (Le.tz 2 0 rfl rfl rfl)
  ·refine TL.le (τ := Qjm p0 p1 x1 (wr (v9+1))) ?_ ((iQd0 (wr (v9+1)) _ h))
   exact Le.tz 2 0 rfl rfl rfl
 ·exact JP2.a h (Le.tz 2 0 rfl rfl rfl)
theorem Qxz:∀ (p0:(List UInt8)) (p1:Int) (x1:UInt8) (v9:Int) (o3:Unit⊕(Int×Int)),Qd0 p0 p1 x1 v9=some o3→TL (0,0) Tryz.prog 133 Qsd (JP2 (0,0) 133 o3 (.exit 0) (Ql4 p0 p1 x1) .ret (Ql5 p0 p1 x1)) (Qjm p0 p1 x1 v9):=fun p0 p1 x1 v9=>(Qvo p0 p1 x1) v9
noncomputable def Qgw (p0:(List UInt8)) (p1:Int) (v12:Int):Option (Int) :=
 ( if(decide (v12<(p0.length:Int))) then
   idx p0 v12>>=fun x12 =>
   Qfx (x12.toNat:Int)>>=fun x13 =>
   if x13 then
    some true
   else
    idx p0 v12>>=fun x14 =>
    Qfw (x14.toNat:Int)>>=fun x15 =>
    if x15 then
     some true
    else
     idx p0 v12>>=fun x16 =>
     some ((x16.toNat:Int)==95)
  else
   some false:Option (Bool))>>=fun o11 =>
 if o11 then
  Qgw p0 p1 (wr (v12+1))
 else
  some v12
 partial_fixpoint
theorem Qvp:∀ (p0:(List UInt8)) (p1:Int),(∀ (v12:Int) (o10:Int),Qgw p0 p1 v12=some o10→TL (0,0) Tryz.prog 133 Qse (JP1 (0,0) 133 o10 (.exit 2) (Ql6 p0 p1)) (Qjn p0 p1 v12)):=by
 intro p0 p1
 refine Qgw.partial_correctness p0 p1 _ ?_
 intro Qgw' iQgw v12 o10 h
 refine TL.round (Qam mixed tbOk (lv:=Qos) _ _ _ ?_)
 refine Qai h (fun o11 ho hk=>?_)
 refine Exists.intro (JP1 _ _ o11 .normal (Qzq p0 p1 v12)) (And.intro ?_ (join1 ?_))
 ·have h:=ho
  refine vrfl ?_
  refine Qaf h (fun hb h=>?_) (fun hb h=>?_)
  ·refine Qcq h (fun x12 hi h=>?_)
   refine Qar [nV .u8 (x12.toNat:Int)] Qhu h (fun x13 hy=>(Qks (x12.toNat:Int) x13 hy)) (fun x13 hy h=>?_)
   refine Qaf h (fun hb h=>?_) (fun hb h=>?_)
   ·refine bT ?_
    refine JP1.a h ?_
    exact Le.tz 2 0 rfl rfl rfl
   ·refine Qcq h (fun x14 hi h=>?_)
    refine Qar [nV .u8 (x14.toNat:Int)] Qht h (fun x15 hy=>(Qkr (x14.toNat:Int) x15 hy)) (fun x15 hy h=>?_)
    refine Qaf h (fun hb h=>?_) (fun hb h=>?_)
    ·refine JP1.a h ?_
     exact Le.tz 2 0 rfl rfl rfl
    ·refine Qcq h (fun x16 hi h=>?_)
     refine JP1.a h ?_
     exact Le.tz 2 0 rfl rfl rfl
  ·refine JP1.a h ?_
   exact Le.tz 2 0 rfl rfl rfl
 ·have h:=hk
  refine Qaf h (fun hb h=>?_) (fun hb h=>?_)
  ·refine TL.le (τ := Qjn p0 p1 (wr (v12+1))) ?_ ((iQgw (wr (v12+1)) _ h))
   exact Le.tz 2 0 rfl rfl rfl
  ·exact JP1.a h (Le.tz 2 0 rfl rfl rfl)
theorem Qx0:∀ (p0:(List UInt8)) (p1:Int) (v12:Int) (o10:Int),Qgw p0 p1 v12=some o10→TL (0,0) Tryz.prog 133 Qse (JP1 (0,0) 133 o10 (.exit 2) (Ql6 p0 p1)) (Qjn p0 p1 v12):=fun p0 p1 v12=>(Qvp p0 p1) v12
noncomputable def Qgx (p0:(List UInt8)) (p1:Int) (v12:Int):Option (Int) :=
 ( if(decide (v12<(p0.length:Int))) then
   idx p0 v12>>=fun x24 =>
   Qfw (x24.toNat:Int)>>=fun x25 =>
   some x25
  else
   some false:Option (Bool))>>=fun o23 =>
 if o23 then
  Qgx p0 p1 (wr (v12+1))
 else
  some v12
 partial_fixpoint
theorem Qvq:∀ (p0:(List UInt8)) (p1:Int),(∀ (v12:Int) (o22:Int),Qgx p0 p1 v12=some o22→TL (0,0) Tryz.prog 133 Qsf (JP1 (0,0) 133 o22 (.exit 4) (Ql7 p0 p1)) (Qjo p0 p1 v12)):=by
 intro p0 p1
 refine Qgx.partial_correctness p0 p1 _ ?_
 intro Qgx' iQgx v12 o22 h
 refine TL.round (Qam mixed tbOk (lv:=Qos) _ _ _ ?_)
 refine Qai h (fun o23 ho hk=>?_)
 refine Exists.intro (JP1 _ _ o23 .normal (Qzs p0 p1 v12)) (And.intro ?_ (join1 ?_))
 ·have h:=ho
  refine vrfl ?_
  refine Qaf h (fun hb h=>?_) (fun hb h=>?_)
  ·refine Qcq h (fun x24 hi h=>?_)
   refine Qar [nV .u8 (x24.toNat:Int)] Qht h (fun x25 hy=>(Qkr (x24.toNat:Int) x25 hy)) (fun x25 hy h=>?_)
   refine JP1.a h ?_
   exact Le.tz 2 0 rfl rfl rfl
  ·refine JP1.a h ?_
   exact Le.tz 2 0 rfl rfl rfl
 ·have h:=hk
  refine Qaf h (fun hb h=>?_) (fun hb h=>?_)
  ·refine TL.le (τ := Qjo p0 p1 (wr (v12+1))) ?_ ((iQgx (wr (v12+1)) _ h))
   exact Le.tz 2 0 rfl rfl rfl
  ·exact JP1.a h (Le.tz 2 0 rfl rfl rfl)
theorem Qx1:∀ (p0:(List UInt8)) (p1:Int) (v12:Int) (o22:Int),Qgx p0 p1 v12=some o22→TL (0,0) Tryz.prog 133 Qsf (JP1 (0,0) 133 o22 (.exit 4) (Ql7 p0 p1)) (Qjo p0 p1 v12):=fun p0 p1 v12=>(Qvq p0 p1) v12
noncomputable def Qcb (p0:(List UInt8)) (v1:Int) (v6:(List UInt8)):Option (Unit⊕((List UInt8)×Int)) :=
 if(decide (v1<(p0.length:Int))) then
  idx p0 v1>>=fun x4 =>
  if((x4.toNat:Int)==34) then
   some (.inr (v6,(wr (v1+1))))
  else
   idx p0 v1>>=fun x5 =>
   if((x5.toNat:Int)==92) then
    if((wr (v1+1))==(p0.length:Int)) then
     some (.inr ([],(-1)))
    else
     ( idx p0 (wr (v1+1))>>=fun x7 =>
      some (x7.toNat:Int):Option (Int))>>=fun o6 =>
     if(o6==110) then
      need (v6.length+[10].length≤9223372036854775807)>>=fun _ =>
      Qcb p0 (wr (v1+2)) (v6++[10])
     else
      if(o6==116) then
       need (v6.length+[9].length≤9223372036854775807)>>=fun _ =>
       Qcb p0 (wr (v1+2)) (v6++[9])
      else
       ( if(o6==34) then
         some true
        else
         some (o6==92):Option (Bool))>>=fun o8 =>
       if o8 then
        cutL p0 (wr (v1+1)) (wr (v1+2))>>=fun x9 =>
        need (v6.length+x9.length≤9223372036854775807)>>=fun _ =>
        Qcb p0 (wr (v1+2)) (v6++x9)
       else
        some (.inr ([],(-1)))
   else
    Qov p0 v1>>=fun x10 =>
    ( if(x10.1==10) then
      some true
     else
      if(x10.1==13) then
       some true
      else
       if(x10.1==65533) then
        some (x10.2==1)
       else
        some false:Option (Bool))>>=fun o11 =>
    if o11 then
     some (.inr ([],(-1)))
    else
     cutL p0 v1 (wr (v1+x10.2))>>=fun x12 =>
     need (v6.length+x12.length≤9223372036854775807)>>=fun _ =>
     Qcb p0 (wr (v1+x10.2)) (v6++x12)
 else
  some (.inl ())
 partial_fixpoint
theorem Qrt:∀ (p0:(List UInt8)),(∀ (v1:Int) (v6:(List UInt8)) (o1:Unit⊕((List UInt8)×Int)),Qcb p0 v1 v6=some o1→TL (0,0) Tryz.prog 91 Qni (JP2 (0,0) 91 o1 (.exit 0) (Qi5 p0) .ret (Qi6 p0)) (Qc0 p0 v1 v6)):=by
 intro p0
 refine Qcb.partial_correctness p0 _ ?_
 intro Qcb' iQcb v1 v6 o1 h
 refine TL.round (Qam mixed tbOk (lv:=Qqp) _ _ _ ?_)
 refine vrfl ?_
 refine Qaf h (fun hb h=>?_) (fun hb h=>?_)
 ·refine Qcq h (fun x4 hi h=>?_)
  refine Qaf h (fun hb h=>?_) (fun hb h=>?_)
  ·exact JP2.b h (Le.tz 0 0 rfl rfl rfl)
  ·refine Qcq h (fun x5 hi h=>?_)
   refine Qaf h (fun hb h=>?_) (fun hb h=>?_)
   ·refine vrfl ?_
    refine Qaf h (fun hb h=>?_) (fun hb h=>?_)
    ·exact JP2.b h (Le.tz 0 0 rfl rfl rfl)
    ·refine Qai h (fun o6 ho hk=>?_)
     refine Exists.intro (JP1 _ _ o6 .normal (Qt2 p0 v1 v6)) (And.intro ?_ (join1 ?_))
     ·have h:=ho
      refine Qcq h (fun x7 hi h=>?_)
      refine JP1.a h ?_
      exact Le.tz 0 0 rfl rfl rfl
     ·have h:=hk
      refine Qaf h (fun hb h=>?_) (fun hb h=>?_)
      ·refine Qkw h (fun h=>?_)
       refine TL.le (τ := Qc0 p0 (wr (v1+2)) (v6++[10])) ?_ ((iQcb (wr (v1+2)) (v6++[10]) _ h))
       exact Le.tz 0 0 rfl rfl rfl
      ·refine Qaf h (fun hb h=>?_) (fun hb h=>?_)
       ·refine Qkw h (fun h=>?_)
        refine TL.le (τ := Qc0 p0 (wr (v1+2)) (v6++[9])) ?_ ((iQcb (wr (v1+2)) (v6++[9]) _ h))
        exact Le.tz 0 0 rfl rfl rfl
       ·refine Qai h (fun o8 ho hk=>?_)
        refine Exists.intro (JP1 _ _ o8 .normal (Qt3 p0 v1 v6)) (And.intro ?_ (join1 ?_))
        ·have h:=ho
         refine Qaf h (fun hb h=>?_) (fun hb h=>?_)
         ·refine JP1.a h ?_
          exact Le.tz 0 0 rfl rfl rfl
         ·refine JP1.a h ?_
          exact Le.tz 0 0 rfl rfl rfl
        ·have h:=hk
         refine Qaf h (fun hb h=>?_) (fun hb h=>?_)
         ·refine Qev (some (wr (v1+1))) (some (wr (v1+2))) h (fun x9 hi h=>?_)
          refine Qkw h (fun h=>?_)
          refine TL.le (τ := Qc0 p0 (wr (v1+2)) (v6++x9)) ?_ ((iQcb (wr (v1+2)) (v6++x9) _ h))
          exact Le.tz 0 0 rfl rfl rfl
         ·exact JP2.b h (Le.tz 0 0 rfl rfl rfl)
   ·refine Qar [sV p0,iV v1] Qlf h (fun x10 hy=>(Q1i p0 v1 x10 hy)) (fun x10 hy h=>?_)
    refine Qai h (fun o11 ho hk=>?_)
    refine Exists.intro (JP1 _ _ o11 .normal (Qt4 p0 v1 v6 x10)) (And.intro ?_ (join1 ?_))
    ·have h:=ho
     refine Qaf h (fun hb h=>?_) (fun hb h=>?_)
     ·refine bT ?_
      refine JP1.a h ?_
      exact Le.tz 0 0 rfl rfl rfl
     ·refine Qaf h (fun hb h=>?_) (fun hb h=>?_)
      ·refine JP1.a h ?_
       exact Le.tz 0 0 rfl rfl rfl
      ·refine Qaf h (fun hb h=>?_) (fun hb h=>?_)
       ·refine JP1.a h ?_
        exact Le.tz 0 0 rfl rfl rfl
       ·refine JP1.a h ?_
        exact Le.tz 0 0 rfl rfl rfl
    ·have h:=hk
     refine Qaf h (fun hb h=>?_) (fun hb h=>?_)
     ·exact JP2.b h (Le.tz 0 0 rfl rfl rfl)
     ·refine Qev (some v1) (some (wr (v1+x10.2))) h (fun x12 hi h=>?_)
      refine Qkw h (fun h=>?_)
      refine TL.le (τ := Qc0 p0 (wr (v1+x10.2)) (v6++x12)) ?_ ((iQcb (wr (v1+x10.2)) (v6++x12) _ h))
      exact Le.tz 0 0 rfl rfl rfl
 ·exact JP2.a h (Le.tz 0 0 rfl rfl rfl)
theorem Qss:∀ (p0:(List UInt8)) (v1:Int) (v6:(List UInt8)) (o1:Unit⊕((List UInt8)×Int)),Qcb p0 v1 v6=some o1→TL (0,0) Tryz.prog 91 Qni (JP2 (0,0) 91 o1 (.exit 0) (Qi5 p0) .ret (Qi6 p0)) (Qc0 p0 v1 v6):=fun p0 v1 v6=>(Qrt p0) v1 v6
noncomputable def Qow (p0:(List UInt8)) (p1:Int):Option ((List UInt8)×Int) :=
 (Qcb p0 (wr (p1+1)) [])>>=fun o1 =>
 match o1 with
 | .inl y2 =>
  some ([],(-1))
 | .inr y3 =>
  some (y3.1,y3.2)
theorem Qx2:∀ (p0:(List UInt8)) (p1:Int) (o:(List UInt8)×Int),Qow p0 p1=some o→PCall Tryz.prog 61 [sV p0,iV p1] (Qkm o):=by
 intro p0 p1 o h
 unfold Qow at h
 refine PCall.ofB mixed tbOk Qqp Tryz.func61 rfl (by kernel_rfl) (Nat.le_of_ble_eq_true rfl) ?_
 refine Qai h (fun o1 ho hk=>?_)
 refine Exists.intro (JP2 _ _ o1 (.exit 0) (Qi5 p0) .ret (Qi6 p0)) (And.intro (T_le (τ := Qc0 p0 (wr (p1+1)) []) ?_ (TL.loop (Qss p0 (wr (p1+1)) [] o1 ho))) (join2 (fun y2 hy=>?_) (fun y3 hy=>?_)))
 ·exact Le.tz 0 0 rfl rfl rfl
 ·have h:=(by rw[hy] at hk; exact hk)
  refine Qax (t:=Qkm) h ?_
  exact .refl _
 ·have h:=(by rw[hy] at hk; exact hk)
  refine Qax (t:=Qkm) h ?_
  exact .refl _
noncomputable def Qmh (p0:(List UInt8)) (p1:Int):Option (Qac×Bool) :=
 idx p0 p1>>=fun x1 =>
 Qcs p0 [125,125] p1>>=fun x2 =>
 if x2 then
  some ((Qac.mk 3 [] 0 p1 (wr (p1+2))),true)
 else
  (Qd0 p0 p1 x1 0)>>=fun o3 =>
  match o3 with
  | .inl y4 =>
   if((x1.toNat:Int)==34) then
    Qow p0 p1>>=fun x8 =>
    some ((Qac.mk 5 x8.1 0 p1 x8.2),(decide (x8.2>0)))
   else
    Qfx (x1.toNat:Int)>>=fun x9 =>
    if x9 then
     (Qgw p0 p1 (wr (p1+1)))>>=fun o10 =>
     cutL p0 p1 o10>>=fun x17 =>
     cutL p0 p1 o10>>=fun x18 =>
     Qic x18>>=fun x19 =>
     some ((Qac.mk 4 x17 0 p1 o10),x19)
    else
     ( if((x1.toNat:Int)==45) then
       some true
      else
       Qfw (x1.toNat:Int)>>=fun x21 =>
       some x21:Option (Bool))>>=fun o20 =>
     if o20 then
      (Qgx p0 p1 (wr (p1+1)))>>=fun o22 =>
      cutL p0 p1 o22>>=fun x26 =>
      Qou x26>>=fun x27 =>
      some ((Qac.mk 6 [] x27.1 p1 o22),x27.2)
     else
      some ((Qac.mk 0 [] 0 p1 (wr (p1+1))),false)
  | .inr y5 =>
   some ((Qac.mk y5.1 [] 0 p1 (wr (p1+1))),true)
theorem Q3w:∀ (p0:(List UInt8)) (p1:Int) (o:Qac×Bool),Qmh p0 p1=some o→PCall Tryz.prog 41 [sV p0,iV p1] (Qim o):=by
 intro p0 p1 o h
 unfold Qmh at h
 refine PCall.ofB mixed tbOk Qos Tryz.func41 rfl (by kernel_rfl) (Nat.le_of_ble_eq_true rfl) ?_
 refine Qcq h (fun x1 hi h=>?_)
 refine Qar [sV p0,sV [125,125],iV p1] Qik h (fun x2 hy=>(Qmf p0 [125,125] p1 x2 hy)) (fun x2 hy h=>?_)
 refine Qaf h (fun hb h=>?_) (fun hb h=>?_)
 ·refine Qax (t:=Qim) h ?_
  exact .refl _
 ·refine Qai h (fun o3 ho hk=>?_)
  refine Exists.intro (JP2 _ _ o3 (.exit 0) (Ql4 p0 p1 x1) .ret (Ql5 p0 p1 x1)) (And.intro (T_le (τ := Qjm p0 p1 x1 0) ?_ (TL.loop (Qxz p0 p1 x1 0 o3 ho))) (join2 (fun y4 hy=>?_) (fun y5 hy=>?_)))
  ·exact Le.tz 2 0 rfl rfl rfl
  ·have h:=(by rw[hy] at hk; exact hk)
   refine Qaf h (fun hb h=>?_) (fun hb h=>?_)
   ·refine Qar [sV p0,iV p1] Qkm h (fun x8 hy=>(Qx2 p0 p1 x8 hy)) (fun x8 hy h=>?_)
    refine Qax (t:=Qim) h ?_
    exact .refl _
   ·refine Qar [nV .u8 (x1.toNat:Int)] Qhu h (fun x9 hy=>(Qks (x1.toNat:Int) x9 hy)) (fun x9 hy h=>?_)
    refine Qaf h (fun hb h=>?_) (fun hb h=>?_)
    ·refine Qai h (fun o10 ho hk=>?_)
     refine Exists.intro (JP1 _ _ o10 (.exit 2) (Ql6 p0 p1)) (And.intro (T_le (τ := Qjn p0 p1 (wr (p1+1))) ?_ (TL.loop (Qx0 p0 p1 (wr (p1+1)) o10 ho))) (join1 ?_))
     ·exact Le.tz 2 0 rfl rfl rfl
     have h:=hk
     refine And.intro (by decide +kernel) (And.intro rfl ?_)
     refine Qev (some p1) (some o10) h (fun x17 hi h=>?_)
     refine Qev (some p1) (some o10) h (fun x18 hi h=>?_)
     refine Qf1 [sV x18] Qhs h (fun x19 hy=>(Qp0 x18 x19 hy)) (fun x19 hy h=>?_)
     refine Qax (t:=Qim) h ?_
     exact .refl _
    ·refine Qai h (fun o20 ho hk=>?_)
     refine Exists.intro (JP1 _ _ o20 .normal (Qzr p0 p1)) (And.intro ?_ (join1 ?_))
     ·have h:=ho
      refine Qaf h (fun hb h=>?_) (fun hb h=>?_)
      ·refine JP1.a h ?_
       exact Le.tz 2 0 rfl rfl rfl
      ·refine Qar [nV .u8 (x1.toNat:Int)] Qht h (fun x21 hy=>(Qkr (x1.toNat:Int) x21 hy)) (fun x21 hy h=>?_)
       refine JP1.a h ?_
       exact Le.tz 2 0 rfl rfl rfl
     ·have h:=hk
      refine Qaf h (fun hb h=>?_) (fun hb h=>?_)
      ·refine Qai h (fun o22 ho hk=>?_)
       refine Exists.intro (JP1 _ _ o22 (.exit 4) (Ql7 p0 p1)) (And.intro (T_le (τ := Qjo p0 p1 (wr (p1+1))) ?_ (TL.loop (Qx1 p0 p1 (wr (p1+1)) o22 ho))) (join1 ?_))
       ·exact Le.tz 2 0 rfl rfl rfl
       have h:=hk
       refine Qev (some p1) (some o22) h (fun x26 hi h=>?_)
       refine Qar [sV x26] Qsc h (fun x27 hy=>(Qxy x26 x27 hy)) (fun x27 hy h=>?_)
       refine Qax (t:=Qim) h ?_
       exact .refl _
      ·refine Qax (t:=Qim) h ?_
       exact .refl _
  ·have h:=(by rw[hy] at hk; exact hk)
   refine Qax (t:=Qim) h ?_
   exact .refl _
noncomputable def Qed (p0:(List UInt8)) (v5_:(List Qac)) (v6_:Int):Option (((List Qac)×Int)⊕Int) :=
 Qdg p0 v6_>>=fun x16 =>
 if(x16==(p0.length:Int)) then
  some (.inr x16)
 else
  Qmh p0 x16>>=fun x17 =>
  if(!x17.2) then
   some (.inr x16)
  else
   appL 48 v5_ [x17.1]>>=fun x18 =>
   if(x17.1.Kind==3) then
    some (.inl (x18,x17.1.To))
   else
    Qed p0 x18 x17.1.To
 partial_fixpoint
theorem Qru:∀ (p0:(List UInt8)),(∀ (v5_:(List Qac)) (v6_:Int) (o13:((List Qac)×Int)⊕Int),Qed p0 v5_ v6_=some o13→TL (0,0) Tryz.prog 83 Qnf (JP2 (0,0) 83 o13 (.exit 2) (Qi0 p0) .ret (Qi1 p0)) (Qf2 p0 v5_ v6_)):=by
 intro p0
 refine Qed.partial_correctness p0 _ ?_
 intro Qed' iQed v5_ v6_ o13 h
 refine TL.round (Qam mixed tbOk (lv:=Ql3) _ _ _ ?_)
 refine Qar [sV p0,iV v6_] Qkl h (fun x16 hy=>(Qqy p0 v6_ x16 hy)) (fun x16 hy h=>?_)
 refine vrfl ?_
 refine Qaf h (fun hb h=>?_) (fun hb h=>?_)
 ·exact JP2.b h (Le.tz 0 0 rfl rfl rfl)
 ·refine Qar [sV p0,iV x16] Qim h (fun x17 hy=>(Q3w p0 x16 x17 hy)) (fun x17 hy h=>?_)
  refine Qaf h (fun hb h=>?_) (fun hb h=>?_)
  ·exact JP2.b h (Le.tz 0 0 rfl rfl rfl)
  ·refine Qpp (a:=v5_) (b:=[x17.1]) (c:=Qab) h (.refl _) (fun _=>rfl) rfl (fun x18 hi h=>?_)
   refine Qaf h (fun hb h=>?_) (fun hb h=>?_)
   ·exact JP2.a h (Le.tz 0 1 rfl rfl rfl)
   ·refine TL.le (τ := Qf2 p0 x18 x17.1.To) ?_ ((iQed x18 x17.1.To _ h))
    exact Le.tz 0 1 rfl rfl rfl
theorem Qst:∀ (p0:(List UInt8)) (v5_:(List Qac)) (v6_:Int) (o13:((List Qac)×Int)⊕Int),Qed p0 v5_ v6_=some o13→TL (0,0) Tryz.prog 83 Qnf (JP2 (0,0) 83 o13 (.exit 2) (Qi0 p0) .ret (Qi1 p0)) (Qf2 p0 v5_ v6_):=fun p0 v5_ v6_=>(Qru p0) v5_ v6_
noncomputable def Qfe (p0:(List UInt8)) (p1:(List UInt8)) (v2:Int):Option (Int) :=
 ( if(decide (v2<(p0.length:Int))) then
   Qcs p0 p1 v2>>=fun x3 =>
   some (!x3)
  else
   some false:Option (Bool))>>=fun o2 =>
 if o2 then
  Qfe p0 p1 (wr (v2+1))
 else
  some v2
 partial_fixpoint
theorem Qun:∀ (p0:(List UInt8)) (p1:(List UInt8)),(∀ (v2:Int) (o1:Int),Qfe p0 p1 v2=some o1→TL (0,0) Tryz.prog 21 Qqo (JP1 (0,0) 21 o1 (.exit 0) (Qk2 p0 p1)) (Qh7 p0 p1 v2)):=by
 intro p0 p1
 refine Qfe.partial_correctness p0 p1 _ ?_
 intro Qfe' iQfe v2 o1 h
 refine TL.round (Qam mixed tbOk (lv:=Qt1) _ _ _ ?_)
 refine Qai h (fun o2 ho hk=>?_)
 refine Exists.intro (JP1 _ _ o2 .normal (Qxj p0 p1 v2)) (And.intro ?_ (join1 ?_))
 ·have h:=ho
  refine vrfl ?_
  refine Qaf h (fun hb h=>?_) (fun hb h=>?_)
  ·refine Qar [sV p0,sV p1,iV v2] Qik h (fun x3 hy=>(Qmf p0 p1 v2 x3 hy)) (fun x3 hy h=>?_)
   refine JP1.a h ?_
   exact Le.tz 0 0 rfl rfl rfl
  ·refine JP1.a h ?_
   exact Le.tz 0 0 rfl rfl rfl
 ·have h:=hk
  refine Qaf h (fun hb h=>?_) (fun hb h=>?_)
  ·refine TL.le (τ := Qh7 p0 p1 (wr (v2+1))) ?_ ((iQfe (wr (v2+1)) _ h))
   exact Le.tz 0 0 rfl rfl rfl
  ·exact JP1.a h (Le.tz 0 0 rfl rfl rfl)
theorem Qvr:∀ (p0:(List UInt8)) (p1:(List UInt8)) (v2:Int) (o1:Int),Qfe p0 p1 v2=some o1→TL (0,0) Tryz.prog 21 Qqo (JP1 (0,0) 21 o1 (.exit 0) (Qk2 p0 p1)) (Qh7 p0 p1 v2):=fun p0 p1 v2=>(Qun p0 p1) v2
noncomputable def Qmi (p0:(List UInt8)) (p1:(List UInt8)) (p2:Int):Option (Int) :=
 (Qfe p0 p1 p2)>>=fun o1 =>
 some o1
theorem Quo:∀ (p0:(List UInt8)) (p1:(List UInt8)) (p2:Int) (o:Int),Qmi p0 p1 p2=some o→PCall Tryz.prog 38 [sV p0,sV p1,iV p2] (Qor o):=by
 intro p0 p1 p2 o h
 unfold Qmi at h
 refine PCall.ofB mixed tbOk Qt1 Tryz.func38 rfl (by kernel_rfl) (Nat.le_of_ble_eq_true rfl) ?_
 refine Qai h (fun o1 ho hk=>?_)
 refine Exists.intro (JP1 _ _ o1 (.exit 0) (Qk2 p0 p1)) (And.intro (T_le (τ := Qh7 p0 p1 p2) ?_ (TL.loop (Qvr p0 p1 p2 o1 ho))) (join1 ?_))
 ·exact Le.tz 0 0 rfl rfl rfl
 have h:=hk
 refine Qax (t:=Qor) h ?_
 exact .refl _
noncomputable def Qdj (p0:(List UInt8)) (v5:(List Qac)) (v6:Int):Option ((List Qac)⊕((List Qac)×Int×Int)) :=
 if(decide (v6<(p0.length:Int))) then
  Qmi p0 [123,123] v6>>=fun x4 =>
  ( if(decide (x4>v6)) then
    cutL p0 v6 x4>>=fun x6 =>
    appL 48 v5 [(Qac.mk 1 x6 0 v6 x4)]>>=fun x7 =>
    some x7
   else
    some v5:Option ((List Qac)))>>=fun o5 =>
  if(x4==(p0.length:Int)) then
   some (.inr (o5,0,0))
  else
   appL 48 o5 ([(Qac.mk 2 [] 0 x4 (wr (x4+2)))])>>=fun x8 =>
   Qdg p0 (wr (x4+2))>>=fun x9 =>
   ( Qcs p0 [35] x9>>=fun x11 =>
    if x11 then
     Qmi p0 [125,125] x9>>=fun x12 =>
     some x12
    else
     some x9:Option (Int))>>=fun o10 =>
   (Qed p0 x8 o10)>>=fun o13 =>
   match o13 with
   | .inl y14 =>
    Qdj p0 y14.1 y14.2
   | .inr y15 =>
    some (.inr ([],y15,7))
 else
  some (.inl v5)
 partial_fixpoint
theorem Qrv:∀ (p0:(List UInt8)),(∀ (v5:(List Qac)) (v6:Int) (o1:(List Qac)⊕((List Qac)×Int×Int)),Qdj p0 v5 v6=some o1→TL (0,0) Tryz.prog 83 Qng (JP2 (0,0) 83 o1 (.exit 0) (Qi2 p0) .ret (Qi3 p0)) (Qf3 p0 v5 v6)):=by
 intro p0
 refine Qdj.partial_correctness p0 _ ?_
 intro Qdj' iQdj v5 v6 o1 h
 refine TL.round (Qam mixed tbOk (lv:=Ql3) _ _ _ ?_)
 refine vrfl ?_
 refine Qaf h (fun hb h=>?_) (fun hb h=>?_)
 ·refine Qar [sV p0,sV [123,123],iV v6] Qor h (fun x4 hy=>(Quo p0 [123,123] v6 x4 hy)) (fun x4 hy h=>?_)
  refine Qai h (fun o5 ho hk=>?_)
  refine Exists.intro (JP1 _ _ o5 .normal (Qtx p0 x4)) (And.intro ?_ (join1 ?_))
  ·have h:=ho
   refine Qaf h (fun hb h=>?_) (fun hb h=>?_)
   ·refine Qev (some v6) (some x4) h (fun x6 hi h=>?_)
    refine Qpp (a:=v5) (b:=[(Qac.mk 1 x6 0 v6 x4)]) (c:=Qab) h (.refl _) (fun _=>rfl) rfl (fun x7 hi h=>?_)
    refine JP1.a h ?_
    exact Le.tz 0 1 rfl rfl rfl
   ·refine JP1.a h ?_
    exact Le.tz 0 1 rfl rfl rfl
  ·have h:=hk
   refine vrfl ?_
   refine Qaf h (fun hb h=>?_) (fun hb h=>?_)
   ·exact JP2.b h (Le.tz 0 0 rfl rfl rfl)
   ·refine Qpp (a:=o5) (b:=[(Qac.mk 2 [] 0 x4 (wr (x4+2)))]) (c:=Qab) h (.refl _) (fun _=>rfl) rfl (fun x8 hi h=>?_)
    refine Qar [sV p0,iV (wr (x4+2))] Qkl h (fun x9 hy=>(Qqy p0 (wr (x4+2)) x9 hy)) (fun x9 hy h=>?_)
    refine Qai h (fun o10 ho hk=>?_)
    refine Exists.intro (JP1 _ _ o10 .normal (Qty p0 x8)) (And.intro ?_ (join1 ?_))
    ·have h:=ho
     refine Qar [sV p0,sV [35],iV x9] Qik h (fun x11 hy=>(Qmf p0 [35] x9 x11 hy)) (fun x11 hy h=>?_)
     refine Qaf h (fun hb h=>?_) (fun hb h=>?_)
     ·refine Qar [sV p0,sV [125,125],iV x9] Qor h (fun x12 hy=>(Quo p0 [125,125] x9 x12 hy)) (fun x12 hy h=>?_)
      refine JP1.a h ?_
      exact Le.tz 0 1 rfl rfl rfl
     ·refine JP1.a h ?_
      exact Le.tz 0 1 rfl rfl rfl
    ·have h:=hk
     refine Qai h (fun o13 ho hk=>?_)
     refine Exists.intro (JP2 _ _ o13 (.exit 2) (Qi0 p0) .ret (Qi1 p0)) (And.intro (T_le (τ := Qf2 p0 x8 o10) ?_ (TL.loop (Qst p0 x8 o10 o13 ho))) (join2 (fun y14 hy=>?_) (fun y15 hy=>?_)))
     ·exact Le.tz 0 1 rfl rfl rfl
     ·have h:=(by rw[hy] at hk; exact hk)
      refine TL.le (τ := Qf3 p0 y14.1 y14.2) ?_ ((iQdj y14.1 y14.2 _ h))
      exact Le.tz 0 1 rfl rfl rfl
     ·have h:=(by rw[hy] at hk; exact hk)
      exact JP2.b h (Le.tow 0 0 rfl (.cons rfl (.p (.not)) (.cons rfl (.refl _) (.cons rfl (.refl _) (.nil)))) (.refl _) rfl)
 ·exact JP2.a h (Le.tz 0 1 rfl rfl rfl)
theorem Qsu:∀ (p0:(List UInt8)) (v5:(List Qac)) (v6:Int) (o1:(List Qac)⊕((List Qac)×Int×Int)),Qdj p0 v5 v6=some o1→TL (0,0) Tryz.prog 83 Qng (JP2 (0,0) 83 o1 (.exit 0) (Qi2 p0) .ret (Qi3 p0)) (Qf3 p0 v5 v6):=fun p0 v5 v6=>(Qrv p0) v5 v6
noncomputable def Qlm (p0:(List UInt8)):Option ((List Qac)×Int×Int) :=
 if(decide ((p0.length:Int)>65536)) then
  some ([],0,6)
 else
  (Qdj p0 [] 0)>>=fun o1 =>
  match o1 with
  | .inl y2 =>
   some (y2,0,0)
  | .inr y3 =>
   some (y3.1,y3.2.1,y3.2.2)
theorem Qx3:∀ (p0:(List UInt8)) (o:(List Qac)×Int×Int),Qlm p0=some o→PCall Tryz.prog 20 [sV p0] (Qil o):=by
 intro p0 o h
 unfold Qlm at h
 refine PCall.ofB mixed tbOk Ql3 Tryz.func20 rfl (by kernel_rfl) (Nat.le_of_ble_eq_true rfl) ?_
 refine vrfl ?_
 refine Qaf h (fun hb h=>?_) (fun hb h=>?_)
 ·refine Qax (t:=Qil) h ?_
  exact .tup (xs:=[.sl true [],iV 0,iV 6]) (ys:=[.sl false [],iV 0,iV 6]) (.cons (.not) (.cons (.refl _) (.cons (.refl _) (.nil))))
 ·refine Qai h (fun o1 ho hk=>?_)
  refine Exists.intro (JP2 _ _ o1 (.exit 0) (Qi2 p0) .ret (Qi3 p0)) (And.intro (T_le (τ := Qf3 p0 [] 0) ?_ (TL.loop (Qsu p0 [] 0 o1 ho))) (join2 (fun y2 hy=>?_) (fun y3 hy=>?_)))
  ·exact Le.trans (τ := ⟨[(0,.p (sV p0)),(5,.p (.sl true [])),(6,.p (iV 0))],⟨[],[]⟩⟩) (Le.tz 0 0 rfl rfl rfl) ((Le.own 5 59 5 rfl sizeNil).trans (Le.tz 0 1 rfl rfl rfl))
  ·have h:=(by rw[hy] at hk; exact hk)
   refine Qax (t:=Qil) h ?_
   exact .refl _
  ·have h:=(by rw[hy] at hk; exact hk)
   refine Qax (t:=Qil) h ?_
   exact .refl _
mutual
noncomputable def Qff (p0:(List Qaa)):Option (Int) :=
 (Qfg p0 0 0)>>=fun o1 =>
 some o1
 partial_fixpoint
noncomputable def Qfg (p0:(List Qaa)) (v3:Int) (v4:Int):Option (Int) :=
 if(decide (v4<(p0.length:Int))) then
  idx p0 v4>>=fun x2 =>
  Qff x2.L>>=fun x3 =>
  idx p0 v4>>=fun x4 =>
  Qff x4.Then>>=fun x5 =>
  idx p0 v4>>=fun x6 =>
  Qff x6.Else>>=fun x7 =>
  Qfg p0 (wr ((wr ((wr ((wr (v3+1))+x3))+x5))+x7)) (wr (v4+1))
 else
  some v3
 partial_fixpoint
end
theorem Qx4:(∀ (p0:(List Qaa)) (o:Int),Qff p0=some o→PCall Tryz.prog 22 [.sl false (p0.map Qae)] (Qgd o))∧(∀ (p0:(List Qaa)) (v3:Int) (v4:Int) (o1:Int),Qfg p0 v3 v4=some o1→TL (0,0) Tryz.prog 35 Qvg (JP1 (0,0) 35 o1 (.exit 0) (Qnj p0)) (Qj3 p0 v3 v4)):=by
 refine Qff.mutual_partial_correctness _ _ ?_ ?_
 ·intro Qfg' iQfg p0 o h
  refine PCall.ofB mixed tbOk Qsg Tryz.func22 rfl (by kernel_rfl) (Nat.le_of_ble_eq_true rfl) ?_
  refine Qai h (fun o1 ho hk=>?_)
  refine Exists.intro (JP1 _ _ o1 (.exit 0) (Qnj p0)) (And.intro (T_le (τ := Qj3 p0 0 0) ?_ (TL.loop (iQfg p0 0 0 o1 ho))) (join1 ?_))
  ·exact Le.tz 0 0 rfl rfl rfl
  have h:=hk
  refine Qax (t:=Qgd) h ?_
  exact .refl _
 ·intro Qff' Qfg' iQff iQfg p0 v3 v4 o1 h
  refine TL.round (Qam mixed tbOk (lv:=Qsg) _ _ _ ?_)
  refine view (lenMap _ _) rfl ?_
  refine Qaf h (fun hb h=>?_) (fun hb h=>?_)
  ·refine And.intro (by decide +kernel) (And.intro rfl ?_)
   refine Qel (l:=p0) (c:=Qae) (c' := Qb1) h Qak (fun _=>rfl) (by decide) (fun x2 hi h=>?_)
   refine Qf1 [.sl false (x2.L.map Qae)] Qgd h (fun x3 hy=>(iQff x2.L x3 hy)) (fun x3 hy h=>?_)
   refine Qel (l:=p0) (c:=Qae) (c' := Qb1) h Qak (fun _=>rfl) (by decide) (fun x4 hi h=>?_)
   refine Qf1 [.sl false (x4.Then.map Qae)] Qgd h (fun x5 hy=>(iQff x4.Then x5 hy)) (fun x5 hy h=>?_)
   refine Qel (l:=p0) (c:=Qae) (c' := Qb1) h Qak (fun _=>rfl) (by decide) (fun x6 hi h=>?_)
   refine Qf1 [.sl false (x6.Else.map Qae)] Qgd h (fun x7 hy=>(iQff x6.Else x7 hy)) (fun x7 hy h=>?_)
   refine TL.le (τ := Qj3 p0 (wr ((wr ((wr ((wr (v3+1))+x3))+x5))+x7)) (wr (v4+1))) ?_ ((iQfg p0 (wr ((wr ((wr ((wr (v3+1))+x3))+x5))+x7)) (wr (v4+1)) _ h))
   exact Le.tz 0 0 rfl rfl rfl
  ·exact JP1.a h (Le.tz 0 0 rfl rfl rfl)
theorem Qz1:∀ (p0:(List Qaa)) (o:Int),Qff p0=some o→PCall Tryz.prog 22 [.sl false (p0.map Qae)] (Qgd o):=fun p0=>Qx4.1 p0
mutual
noncomputable def Qha (p0:(List Qaa)):Option (Int) :=
 (Qgm p0 0 0)>>=fun o1 =>
 some o1
 partial_fixpoint
noncomputable def Qgm (p0:(List Qaa)) (v3:Int) (v4:Int):Option (Int) :=
 if(decide (v4<(p0.length:Int))) then
  idx p0 v4>>=fun x2 =>
  Qha x2.L>>=fun x3 =>
  idx p0 v4>>=fun x4 =>
  Qha x4.Then>>=fun x5 =>
  idx p0 v4>>=fun x6 =>
  Qha x6.Else>>=fun x7 =>
  Qgm p0 (if(wr (1+(if x7>(if x5>x3 then x5 else x3) then x7 else(if x5>x3 then x5 else x3))))>v3 then(wr (1+(if x7>(if x5>x3 then x5 else x3) then x7 else(if x5>x3 then x5 else x3)))) else v3) (wr (v4+1))
 else
  some v3
 partial_fixpoint
end
theorem Qz2:(∀ (p0:(List Qaa)) (o:Int),Qha p0=some o→PCall Tryz.prog 23 [.sl false (p0.map Qae)] (Qhv o))∧(∀ (p0:(List Qaa)) (v3:Int) (v4:Int) (o1:Int),Qgm p0 v3 v4=some o1→TL (0,0) Tryz.prog 34 Qxk (JP1 (0,0) 34 o1 (.exit 0) (Qpg p0)) (Qk3 p0 v3 v4)):=by
 refine Qha.mutual_partial_correctness _ _ ?_ ?_
 ·intro Qgm' iQgm p0 o h
  refine PCall.ofB mixed tbOk Qt5 Tryz.func23 rfl (by kernel_rfl) (Nat.le_of_ble_eq_true rfl) ?_
  refine Qai h (fun o1 ho hk=>?_)
  refine Exists.intro (JP1 _ _ o1 (.exit 0) (Qpg p0)) (And.intro (T_le (τ := Qk3 p0 0 0) ?_ (TL.loop (iQgm p0 0 0 o1 ho))) (join1 ?_))
  ·exact Le.tz 0 0 rfl rfl rfl
  have h:=hk
  refine Qax (t:=Qhv) h ?_
  exact .refl _
 ·intro Qha' Qgm' iQha iQgm p0 v3 v4 o1 h
  refine TL.round (Qam mixed tbOk (lv:=Qt5) _ _ _ ?_)
  refine view (lenMap _ _) rfl ?_
  refine Qaf h (fun hb h=>?_) (fun hb h=>?_)
  ·refine And.intro (by decide +kernel) (And.intro rfl ?_)
   refine Qel (l:=p0) (c:=Qae) (c' := Qb1) h Qak (fun _=>rfl) (by decide) (fun x2 hi h=>?_)
   refine Qf1 [.sl false (x2.L.map Qae)] Qhv h (fun x3 hy=>(iQha x2.L x3 hy)) (fun x3 hy h=>?_)
   refine Qel (l:=p0) (c:=Qae) (c' := Qb1) h Qak (fun _=>rfl) (by decide) (fun x4 hi h=>?_)
   refine Qf1 [.sl false (x4.Then.map Qae)] Qhv h (fun x5 hy=>(iQha x4.Then x5 hy)) (fun x5 hy h=>?_)
   refine Qel (l:=p0) (c:=Qae) (c' := Qb1) h Qak (fun _=>rfl) (by decide) (fun x6 hi h=>?_)
   refine Qf1 [.sl false (x6.Else.map Qae)] Qhv h (fun x7 hy=>(iQha x6.Else x7 hy)) (fun x7 hy h=>?_)
   refine TL.le (τ := Qk3 p0 (if(wr (1+(if x7>(if x5>x3 then x5 else x3) then x7 else(if x5>x3 then x5 else x3))))>v3 then(wr (1+(if x7>(if x5>x3 then x5 else x3) then x7 else(if x5>x3 then x5 else x3)))) else v3) (wr (v4+1))) ?_ ((iQgm p0 (if(wr (1+(if x7>(if x5>x3 then x5 else x3) then x7 else(if x5>x3 then x5 else x3))))>v3 then(wr (1+(if x7>(if x5>x3 then x5 else x3) then x7 else(if x5>x3 then x5 else x3)))) else v3) (wr (v4+1)) _ h))
   exact Le.tz 0 0 rfl rfl rfl
  ·exact JP1.a h (Le.tz 0 0 rfl rfl rfl)
theorem Q1j:∀ (p0:(List Qaa)) (o:Int),Qha p0=some o→PCall Tryz.prog 23 [.sl false (p0.map Qae)] (Qhv o):=fun p0=>Qz2.1 p0
noncomputable def Qee (p0:(List UInt8)) (x1:(List (List UInt8))) (v4:Int):Option (Unit⊕Unit) :=
 if(decide (v4<(x1.length:Int))) then
  idx x1 v4>>=fun x5 =>
  if(x5==p0) then
   some (.inr ())
  else
   Qee p0 x1 (wr (v4+1))
 else
  some (.inl ())
 partial_fixpoint
theorem Qup:∀ (p0:(List UInt8)) (x1:(List (List UInt8))),(∀ (v4:Int) (o2:Unit⊕Unit),Qee p0 x1 v4=some o2→TL (0,0) Tryz.prog 20 Qqq (JP2 (0,0) 20 o2 (.exit 0) (Qk4 p0 x1) .ret (Qk5 p0 x1)) (Qh8 p0 x1 v4)):=by
 intro p0 x1
 refine Qee.partial_correctness p0 x1 _ ?_
 intro Qee' iQee v4 o2 h
 refine TL.round (Qam mixed tbOk (lv:=Qt6) _ _ _ ?_)
 refine view (lenMap _ _) rfl ?_
 refine Qaf h (fun hb h=>?_) (fun hb h=>?_)
 ·refine Qel (l:=x1) (c:=cStr) (c' := cStr) h (fun _=>rfl) (fun _=>rfl) (by decide) (fun x5 hi h=>?_)
  refine Qaf h (fun hb h=>?_) (fun hb h=>?_)
  ·exact JP2.b h (Le.tz 0 0 rfl rfl rfl)
  ·refine TL.le (τ := Qh8 p0 x1 (wr (v4+1))) ?_ ((iQee (wr (v4+1)) _ h))
   exact Le.tz 0 0 rfl rfl rfl
 ·exact JP2.a h (Le.tz 0 0 rfl rfl rfl)
theorem Qvs:∀ (p0:(List UInt8)) (x1:(List (List UInt8))) (v4:Int) (o2:Unit⊕Unit),Qee p0 x1 v4=some o2→TL (0,0) Tryz.prog 20 Qqq (JP2 (0,0) 20 o2 (.exit 0) (Qk4 p0 x1) .ret (Qk5 p0 x1)) (Qh8 p0 x1 v4):=fun p0 x1 v4=>(Qup p0 x1) v4
noncomputable def Qqz:Option ((List (List UInt8))) :=
 some ([[105,102],[101,108,115,101],[101,110,100],[101,97,99,104],[105,110],[108,101,116],[117,115,101],[116,114,117,101],[102,97,108,115,101],[115,101,99,114,101,116]])
theorem Qz3:∀ (o:(List (List UInt8))),Qqz  = some o→PCall Tryz.prog 114 [] (Qpu o):=by
 intro o h
 unfold Qqz at h
 refine PCall.ofB mixed tbOk Qzu Tryz.func114 rfl (by kernel_rfl) (Nat.le_of_ble_eq_true rfl) ?_
 refine Qax (t:=Qpu) h ?_
 exact .p (.not)
noncomputable def Qjr (p0:(List UInt8)):Option (Bool) :=
 Qqz>>=fun x1 =>
 (Qee p0 x1 0)>>=fun o2 =>
 match o2 with
 | .inl y3 =>
  Qic p0>>=fun x6 =>
  some x6
 | .inr y4 =>
  some false
theorem Q1k:∀ (p0:(List UInt8)) (o:Bool),Qjr p0=some o→PCall Tryz.prog 96 [sV p0] (Qot o):=by
 intro p0 o h
 unfold Qjr at h
 refine PCall.ofB mixed tbOk Qt6 Tryz.func96 rfl (by kernel_rfl) (Nat.le_of_ble_eq_true rfl) ?_
 refine Qar [] Qpu h (fun x1 hy=>(Qz3 x1 hy)) (fun x1 hy h=>?_)
 refine Qai h (fun o2 ho hk=>?_)
 refine Exists.intro (JP2 _ _ o2 (.exit 0) (Qk4 p0 x1) .ret (Qk5 p0 x1)) (And.intro (T_le (τ := Qh8 p0 x1 0) ?_ (TL.loop (Qvs p0 x1 0 o2 ho))) (join2 (fun y3 hy=>?_) (fun y4 hy=>?_)))
 ·exact Le.tz 0 0 rfl rfl rfl
 ·have h:=(by rw[hy] at hk; exact hk)
  refine Qar [sV p0] Qhs h (fun x6 hy=>(Qp0 p0 x6 hy)) (fun x6 hy h=>?_)
  refine Qax (t:=Qot) h ?_
  exact .refl _
 ·have h:=(by rw[hy] at hk; exact hk)
  refine Qax (t:=Qot) h ?_
  exact .refl _
noncomputable def Qfo (p0:Qaa) (p1:Bool) (p2:Bool) (p3:Bool) (p4:Bool) (p5:Bool):Option (Bool) :=
 ( if p1 then
   if p2 then
    if p3 then
     if p4 then
      if p5 then
       if(p0.Kind==10) then
        some true
       else
        some ((p0.Else.length:Int)==0)
      else
       if((p0.Then.length:Int)==0) then
        if(p0.Kind==10) then
         some true
        else
         some ((p0.Else.length:Int)==0)
       else
        some false
     else
      if((p0.L.length:Int)==0) then
       if p5 then
        if(p0.Kind==10) then
         some true
        else
         some ((p0.Else.length:Int)==0)
       else
        if((p0.Then.length:Int)==0) then
         if(p0.Kind==10) then
          some true
         else
          some ((p0.Else.length:Int)==0)
        else
         some false
      else
       some false
    else
     if(p0.N==0) then
      if p4 then
       if p5 then
        if(p0.Kind==10) then
         some true
        else
         some ((p0.Else.length:Int)==0)
       else
        if((p0.Then.length:Int)==0) then
         if(p0.Kind==10) then
          some true
         else
          some ((p0.Else.length:Int)==0)
        else
         some false
      else
       if((p0.L.length:Int)==0) then
        if p5 then
         if(p0.Kind==10) then
          some true
         else
          some ((p0.Else.length:Int)==0)
        else
         if((p0.Then.length:Int)==0) then
          if(p0.Kind==10) then
           some true
          else
           some ((p0.Else.length:Int)==0)
         else
          some false
       else
        some false
     else
      some false
   else
    if(p0.Text==[]) then
     if p3 then
      if p4 then
       if p5 then
        if(p0.Kind==10) then
         some true
        else
         some ((p0.Else.length:Int)==0)
       else
        if((p0.Then.length:Int)==0) then
         if(p0.Kind==10) then
          some true
         else
          some ((p0.Else.length:Int)==0)
        else
         some false
      else
       if((p0.L.length:Int)==0) then
        if p5 then
         if(p0.Kind==10) then
          some true
         else
          some ((p0.Else.length:Int)==0)
        else
         if((p0.Then.length:Int)==0) then
          if(p0.Kind==10) then
           some true
          else
           some ((p0.Else.length:Int)==0)
         else
          some false
       else
        some false
     else
      if(p0.N==0) then
       if p4 then
        if p5 then
         if(p0.Kind==10) then
          some true
         else
          some ((p0.Else.length:Int)==0)
        else
         if((p0.Then.length:Int)==0) then
          if(p0.Kind==10) then
           some true
          else
           some ((p0.Else.length:Int)==0)
         else
          some false
       else
        if((p0.L.length:Int)==0) then
         if p5 then
          if(p0.Kind==10) then
           some true
          else
           some ((p0.Else.length:Int)==0)
         else
          if((p0.Then.length:Int)==0) then
           if(p0.Kind==10) then
            some true
           else
            some ((p0.Else.length:Int)==0)
          else
           some false
        else
         some false
      else
       some false
    else
     some false
  else
   if(p0.Name==[]) then
    if p2 then
     if p3 then
      if p4 then
       if p5 then
        if(p0.Kind==10) then
         some true
        else
         some ((p0.Else.length:Int)==0)
       else
        if((p0.Then.length:Int)==0) then
         if(p0.Kind==10) then
          some true
         else
          some ((p0.Else.length:Int)==0)
        else
         some false
      else
       if((p0.L.length:Int)==0) then
        if p5 then
         if(p0.Kind==10) then
          some true
         else
          some ((p0.Else.length:Int)==0)
        else
         if((p0.Then.length:Int)==0) then
          if(p0.Kind==10) then
           some true
          else
           some ((p0.Else.length:Int)==0)
         else
          some false
       else
        some false
     else
      if(p0.N==0) then
       if p4 then
        if p5 then
         if(p0.Kind==10) then
          some true
         else
          some ((p0.Else.length:Int)==0)
        else
         if((p0.Then.length:Int)==0) then
          if(p0.Kind==10) then
           some true
          else
           some ((p0.Else.length:Int)==0)
         else
          some false
       else
        if((p0.L.length:Int)==0) then
         if p5 then
          if(p0.Kind==10) then
           some true
          else
           some ((p0.Else.length:Int)==0)
         else
          if((p0.Then.length:Int)==0) then
           if(p0.Kind==10) then
            some true
           else
            some ((p0.Else.length:Int)==0)
          else
           some false
        else
         some false
      else
       some false
    else
     if(p0.Text==[]) then
      if p3 then
       if p4 then
        if p5 then
         if(p0.Kind==10) then
          some true
         else
          some ((p0.Else.length:Int)==0)
        else
         if((p0.Then.length:Int)==0) then
          if(p0.Kind==10) then
           some true
          else
           some ((p0.Else.length:Int)==0)
         else
          some false
       else
        if((p0.L.length:Int)==0) then
         if p5 then
          if(p0.Kind==10) then
           some true
          else
           some ((p0.Else.length:Int)==0)
         else
          if((p0.Then.length:Int)==0) then
           if(p0.Kind==10) then
            some true
           else
            some ((p0.Else.length:Int)==0)
          else
           some false
        else
         some false
      else
       if(p0.N==0) then
        if p4 then
         if p5 then
          if(p0.Kind==10) then
           some true
          else
           some ((p0.Else.length:Int)==0)
         else
          if((p0.Then.length:Int)==0) then
           if(p0.Kind==10) then
            some true
           else
            some ((p0.Else.length:Int)==0)
          else
           some false
        else
         if((p0.L.length:Int)==0) then
          if p5 then
           if(p0.Kind==10) then
            some true
           else
            some ((p0.Else.length:Int)==0)
          else
           if((p0.Then.length:Int)==0) then
            if(p0.Kind==10) then
             some true
            else
             some ((p0.Else.length:Int)==0)
           else
            some false
         else
          some false
       else
        some false
     else
      some false
   else
    some false:Option (Bool))>>=fun o1 =>
 some o1
mutual
noncomputable def Q2p (p0:Qaa):Option (Bool) :=
 if(p0.Kind==1) then
  Qqx p0.Text>>=fun x1 =>
  ( if x1.2 then
    Qfo p0 false true false false false>>=fun x3 =>
    some x3
   else
    some false:Option (Bool))>>=fun o2 =>
  some o2
 else
  if(p0.Kind==2) then
   Qfo p0 false false true false false>>=fun x4 =>
   some x4
  else
   if(p0.Kind==3) then
    ( if(p0.N==0) then
      Qfo p0 false false true false false>>=fun x6 =>
      some x6
     else
      if(p0.N==1) then
       Qfo p0 false false true false false>>=fun x7 =>
       some x7
      else
       some false:Option (Bool))>>=fun o5 =>
    some o5
   else
    if(p0.Kind==4) then
     ( Qjr p0.Name>>=fun x9 =>
      if x9 then
       Qfo p0 true false false false false>>=fun x10 =>
       some x10
      else
       some false:Option (Bool))>>=fun o8 =>
     some o8
    else
     if(p0.Kind==5) then
      ( Qic p0.Name>>=fun x12 =>
       if x12 then
        if((p0.L.length:Int)==1) then
         Quq p0.L>>=fun x13 =>
         if x13 then
          Qfo p0 true false false true false>>=fun x14 =>
          some x14
         else
          some false
        else
         some false
       else
        some false:Option (Bool))>>=fun o11 =>
      some o11
     else
      if(p0.Kind==6) then
       ( Qjr p0.Name>>=fun x16 =>
        if x16 then
         if(decide ((p0.L.length:Int)≤3)) then
          Quq p0.L>>=fun x17 =>
          if x17 then
           Qfo p0 true false false true false>>=fun x18 =>
           some x18
          else
           some false
         else
          some false
        else
         some false:Option (Bool))>>=fun o15 =>
       some o15
      else
       if(p0.Kind==7) then
        ( Qic p0.Name>>=fun x20 =>
         if x20 then
          Qfo p0 true false false false false>>=fun x21 =>
          some x21
         else
          some false:Option (Bool))>>=fun o19 =>
        some o19
       else
        some false
 partial_fixpoint
noncomputable def Quq (p0:(List Qaa)):Option (Bool) :=
 (Qsi p0 0)>>=fun o1 =>
 match o1 with
 | .inl y2 =>
  some true
 | .inr y3 =>
  some false
 partial_fixpoint
noncomputable def Qsi (p0:(List Qaa)) (v3:Int):Option (Unit⊕Unit) :=
 if(decide (v3<(p0.length:Int))) then
  idx p0 v3>>=fun x4 =>
  Q2p x4>>=fun x5 =>
  if(!x5) then
   some (.inr ())
  else
   Qsi p0 (wr (v3+1))
 else
  some (.inl ())
 partial_fixpoint
end
noncomputable def Qq0 (p0:(List UInt8)) (p1:(List UInt8)) (v5:Int):Option (Unit⊕Unit) :=
 if(decide (v5<(p0.length:Int))) then
  Qcs p0 p1 v5>>=fun x4 =>
  if x4 then
   some (.inr ())
  else
   Qq0 p0 p1 (wr (v5+1))
 else
  some (.inl ())
 partial_fixpoint
noncomputable def Q3x (p0:(List UInt8)) (p1:(List UInt8)):Option (Bool) :=
 (Qq0 p0 p1 0)>>=fun o1 =>
 match o1 with
 | .inl y2 =>
  some false
 | .inr y3 =>
  some true
mutual
noncomputable def Qur (p0:(List Qaa)) (p1:Bool):Option (Bool) :=
 (Qn1 p0 p1 0)>>=fun o1 =>
 match o1 with
 | .inl y2 =>
  some true
 | .inr y3 =>
  some false
 partial_fixpoint
noncomputable def Qn1 (p0:(List Qaa)) (p1:Bool) (v5:Int):Option (Unit⊕Unit) :=
 if(decide (v5<(p0.length:Int))) then
  idx p0 v5>>=fun x4 =>
  Q2q x4>>=fun x5 =>
  if(!x5) then
   some (.inr ())
  else
   idx p0 v5>>=fun x6 =>
   if(x6.Kind != 8) then
    Qn1 p0 p1 (wr (v5+1))
   else
    idx p0 v5>>=fun x7 =>
    ( if(!(v5==(wr ((p0.length:Int)-1)))) then
      idx p0 (wr (v5+1))>>=fun x9 =>
      if(x9.Kind==8) then
       some true
      else
       if(!(v5==(wr ((p0.length:Int)-1)))) then
        idx x7.Text (wr ((x7.Text.length:Int)-1))>>=fun x10 =>
        some ((x10.toNat:Int)==123)
       else
        if p1 then
         idx x7.Text (wr ((x7.Text.length:Int)-1))>>=fun x11 =>
         some ((x11.toNat:Int)==123)
        else
         some false
     else
      if(!(v5==(wr ((p0.length:Int)-1)))) then
       idx x7.Text (wr ((x7.Text.length:Int)-1))>>=fun x12 =>
       some ((x12.toNat:Int)==123)
      else
       if p1 then
        idx x7.Text (wr ((x7.Text.length:Int)-1))>>=fun x13 =>
        some ((x13.toNat:Int)==123)
       else
        some false:Option (Bool))>>=fun o8 =>
    if o8 then
     some (.inr ())
    else
     Qn1 p0 p1 (wr (v5+1))
 else
  some (.inl ())
 partial_fixpoint
noncomputable def Q2q (p0:Qaa):Option (Bool) :=
 ( if((p0.L.length:Int)==1) then
   Quq p0.L>>=fun x2 =>
   some x2
  else
   some false:Option (Bool))>>=fun o1 =>
 if(p0.Kind==8) then
  ( if(!(p0.Text==[])) then
    Q3x p0.Text [123,123]>>=fun x4 =>
    if(!x4) then
     Qfo p0 false true false false false>>=fun x5 =>
     some x5
    else
     some false
   else
    some false:Option (Bool))>>=fun o3 =>
  some o3
 else
  if(p0.Kind==9) then
   ( if o1 then
     Qfo p0 false false false true false>>=fun x7 =>
     some x7
    else
     some false:Option (Bool))>>=fun o6 =>
   some o6
  else
   if(p0.Kind==10) then
    ( if o1 then
      Qur p0.Then true>>=fun x9 =>
      if x9 then
       Qur p0.Else true>>=fun x10 =>
       if x10 then
        Qfo p0 false false false true true>>=fun x11 =>
        some x11
       else
        some false
      else
       some false
     else
      some false:Option (Bool))>>=fun o8 =>
    some o8
   else
    ( if(p0.Kind==11) then
      some (p0.Kind==11)
     else
      some (p0.Kind==12):Option (Bool))>>=fun o12 =>
    if o12 then
     ( Qjr p0.Name>>=fun x14 =>
      if x14 then
       if o1 then
        Qur p0.Then true>>=fun x15 =>
        if x15 then
         Qfo p0 true false false true true>>=fun x16 =>
         some x16
        else
         some false
       else
        some false
      else
       some false:Option (Bool))>>=fun o13 =>
     some o13
    else
     if(p0.Kind==13) then
      ( Qjr p0.Name>>=fun x18 =>
       if x18 then
        if o1 then
         Qfo p0 true false false true false>>=fun x19 =>
         some x19
        else
         some false
       else
        some false:Option (Bool))>>=fun o17 =>
      some o17
     else
      some false
 partial_fixpoint
end
mutual
noncomputable def Qf6 (p0:(List Qaa)) (p1:(List Qaa)):Option (Bool) :=
 if((p0.length:Int) != (p1.length:Int)) then
  some false
 else
  (Qgn p0 p1 0)>>=fun o1 =>
  match o1 with
  | .inl y2 =>
   some true
  | .inr y3 =>
   some false
 partial_fixpoint
noncomputable def Qgn (p0:(List Qaa)) (p1:(List Qaa)) (v5:Int):Option (Unit⊕Unit) :=
 if(decide (v5<(p0.length:Int))) then
  ( idx p0 v5>>=fun x5 =>
   idx p1 v5>>=fun x6 =>
   some (x5.Kind,x5.Name,x5.Text,x5.N,x5.L,x5.Then,x5.Else,x6.Kind,x6.Name,x6.Text,x6.N,x6.L,x6.Then,x6.Else):Option ((Int×(List UInt8)×(List UInt8)×Int×(List Qaa)×(List Qaa)×(List Qaa)×Int×(List UInt8)×(List UInt8)×Int×(List Qaa)×(List Qaa)×(List Qaa))))>>=fun o4 =>
  ( if(o4.1 != o4.2.2.2.2.2.2.2.1) then
    some true
   else
    if(!(o4.2.1==o4.2.2.2.2.2.2.2.2.1)) then
     some true
    else
     if(!(o4.2.2.1==o4.2.2.2.2.2.2.2.2.2.1)) then
      some true
     else
      if(o4.2.2.2.1 != o4.2.2.2.2.2.2.2.2.2.2.1) then
       some true
      else
       Qf6 o4.2.2.2.2.1 o4.2.2.2.2.2.2.2.2.2.2.2.1>>=fun x8 =>
       if(!x8) then
        some true
       else
        Qf6 o4.2.2.2.2.2.1 o4.2.2.2.2.2.2.2.2.2.2.2.2.1>>=fun x9 =>
        if(!x9) then
         some true
        else
         Qf6 o4.2.2.2.2.2.2.1 o4.2.2.2.2.2.2.2.2.2.2.2.2.2>>=fun x10 =>
         some (!x10):Option (Bool))>>=fun o7 =>
  if o7 then
   some (.inr ())
  else
   Qgn p0 p1 (wr (v5+1))
 else
  some (.inl ())
 partial_fixpoint
end
theorem Qz4:(∀ (p0:(List Qaa)) (p1:(List Qaa)) (o:Bool),Qf6 p0 p1=some o→PCall Tryz.prog 9 [.sl false (p0.map Qae),.sl false (p1.map Qae)] (Qfn o))∧(∀ (p0:(List Qaa)) (p1:(List Qaa)) (v5:Int) (o1:Unit⊕Unit),Qgn p0 p1 v5=some o1→TL (0,0) Tryz.prog 77 Qxn (JP2 (0,0) 77 o1 (.exit 0) (Qph p0 p1) .ret (Qpi p0 p1)) (Qk6 p0 p1 v5)):=by
 refine Qf6.mutual_partial_correctness _ _ ?_ ?_
 ·intro Qgn' iQgn p0 p1 o h
  refine PCall.ofB mixed tbOk Qt7 Tryz.func9 rfl (by kernel_rfl) (Nat.le_of_ble_eq_true rfl) ?_
  refine view (lenMap _ _) rfl ?_
  refine view (lenMap _ _) rfl ?_
  refine Qaf h (fun hb h=>?_) (fun hb h=>?_)
  ·refine Qax (t:=Qfn) h ?_
   exact .refl _
  ·refine Qai h (fun o1 ho hk=>?_)
   refine Exists.intro (JP2 _ _ o1 (.exit 0) (Qph p0 p1) .ret (Qpi p0 p1)) (And.intro (T_le (τ := Qk6 p0 p1 0) ?_ (TL.loop (iQgn p0 p1 0 o1 ho))) (join2 (fun y2 hy=>?_) (fun y3 hy=>?_)))
   ·exact Le.tz 0 0 rfl rfl rfl
   ·have h:=(by rw[hy] at hk; exact hk)
    refine Qax (t:=Qfn) h ?_
    exact .refl _
   ·have h:=(by rw[hy] at hk; exact hk)
    refine Qax (t:=Qfn) h ?_
    exact .refl _
 ·intro Qf6' Qgn' iQf6 iQgn p0 p1 v5 o1 h
  refine TL.round (Qam mixed tbOk (lv:=Qt7) _ _ _ ?_)
  refine view (lenMap _ _) rfl ?_
  refine Qaf h (fun hb h=>?_) (fun hb h=>?_)
  ·refine Qai h (fun o4 ho hk=>?_)
   refine Exists.intro (JP1 _ _ o4 .normal (Qxl p0 p1 v5)) (And.intro ?_ (join1 ?_))
   ·have h:=ho
    refine And.intro (by decide +kernel) (And.intro (by decide +kernel) (And.intro (by decide +kernel) (And.intro rfl ?_)))
    refine Qel (l:=p0) (c:=Qae) (c' := Qb1) h Qak (fun _=>rfl) (by decide) (fun x5 hi h=>?_)
    refine Qel (l:=p1) (c:=Qae) (c' := Qb1) h Qak (fun _=>rfl) (by decide) (fun x6 hi h=>?_)
    refine And.intro (Nat.le_of_ble_eq_true rfl) (And.intro ?_ ?_)
    ·refine JP1.a h ?_
     exact Le.tz 2 0 rfl rfl rfl
    ·refine JP1.a h ?_
     exact Le.trans (τ := ⟨[(0,.p (.sl false (p0.map Qae))),(1,.p (.sl false (p1.map Qae))),(5,.p (iV v5)),(6,.ptr 0 0),(7,.ptr 1 0)],⟨[[.p (iV x5.Kind),.p (sV x5.Name),.p (sV x5.Text),.p (iV x5.N),.p (.sl false (x5.L.map Qae)),.p (.sl false (x5.Then.map Qae)),.p (.sl false (x5.Else.map Qae))],[.p (iV x6.Kind),.p (sV x6.Name),.p (sV x6.Text),.p (iV x6.N),.p (.sl false (x6.L.map Qae)),.p (.sl false (x6.Then.map Qae)),.p (.sl false (x6.Else.map Qae))]],[]⟩⟩) (Le.perm [1,0] rfl rfl rfl) (Le.tz 2 0 rfl rfl rfl)
   ·have h:=hk
    refine Qai h (fun o7 ho hk=>?_)
    refine Exists.intro (JP1 _ _ o7 .normal (Qxm p0 p1 v5 o4)) (And.intro ?_ (join1 ?_))
    ·have h:=ho
     refine Qaf h (fun hb h=>?_) (fun hb h=>?_)
     ·refine bT ?_
      refine bT ?_
      refine bT ?_
      refine bT ?_
      refine bT ?_
      refine JP1.a h ?_
      exact Le.tz 2 0 rfl rfl rfl
     ·refine Qaf h (fun hb h=>?_) (fun hb h=>?_)
      ·refine bT ?_
       refine bT ?_
       refine bT ?_
       refine bT ?_
       refine JP1.a h ?_
       exact Le.tz 2 0 rfl rfl rfl
      ·refine Qaf h (fun hb h=>?_) (fun hb h=>?_)
       ·refine bT ?_
        refine bT ?_
        refine bT ?_
        refine JP1.a h ?_
        exact Le.tz 2 0 rfl rfl rfl
       ·refine Qaf h (fun hb h=>?_) (fun hb h=>?_)
        ·refine bT ?_
         refine bT ?_
         refine JP1.a h ?_
         exact Le.tz 2 0 rfl rfl rfl
        ·refine Qar [.sl false (o4.2.2.2.2.1.map Qae),.sl false (o4.2.2.2.2.2.2.2.2.2.2.2.1.map Qae)] Qfn h (fun x8 hy=>(iQf6 o4.2.2.2.2.1 o4.2.2.2.2.2.2.2.2.2.2.2.1 x8 hy)) (fun x8 hy h=>?_)
         refine Qaf h (fun hb h=>?_) (fun hb h=>?_)
         ·refine bT ?_
          refine JP1.a h ?_
          exact Le.tz 2 0 rfl rfl rfl
         ·refine Qar [.sl false (o4.2.2.2.2.2.1.map Qae),.sl false (o4.2.2.2.2.2.2.2.2.2.2.2.2.1.map Qae)] Qfn h (fun x9 hy=>(iQf6 o4.2.2.2.2.2.1 o4.2.2.2.2.2.2.2.2.2.2.2.2.1 x9 hy)) (fun x9 hy h=>?_)
          refine Qaf h (fun hb h=>?_) (fun hb h=>?_)
          ·refine JP1.a h ?_
           exact Le.tz 2 0 rfl rfl rfl
          ·refine Qar [.sl false (o4.2.2.2.2.2.2.1.map Qae),.sl false (o4.2.2.2.2.2.2.2.2.2.2.2.2.2.map Qae)] Qfn h (fun x10 hy=>(iQf6 o4.2.2.2.2.2.2.1 o4.2.2.2.2.2.2.2.2.2.2.2.2.2 x10 hy)) (fun x10 hy h=>?_)
           refine JP1.a h ?_
           exact Le.tz 2 0 rfl rfl rfl
    ·have h:=hk
     refine Qaf h (fun hb h=>?_) (fun hb h=>?_)
     ·exact JP2.b h (Le.tz 0 0 rfl rfl rfl)
     ·refine TL.le (τ := Qk6 p0 p1 (wr (v5+1))) ?_ ((iQgn p0 p1 (wr (v5+1)) _ h))
      exact Le.tz 0 0 rfl rfl rfl
  ·exact JP2.a h (Le.tz 0 0 rfl rfl rfl)
theorem Q1l:∀ (p0:(List Qaa)) (p1:(List Qaa)) (o:Bool),Qf6 p0 p1=some o→PCall Tryz.prog 9 [.sl false (p0.map Qae),.sl false (p1.map Qae)] (Qfn o):=fun p0 p1=>Qz4.1 p0 p1
noncomputable def Qan (p1:Int) (h0_0:(List Qac)) (h0_1:Int) (h0_2:Bool):Option (Bool) :=
 ( if(!h0_2) then
   if(decide (h0_1<(h0_0.length:Int))) then
    idx h0_0 h0_1>>=fun x2 =>
    some (x2.Kind==p1)
   else
    some false
  else
   some false:Option (Bool))>>=fun o1 =>
 some o1
theorem Qap:∀ (p1:Int) (h0_0:(List Qac)) (h0_1:Int) (h0_2:Bool) (o:Bool),Qan p1 h0_0 h0_1 h0_2=some o→CallOK Tryz.prog 42 [.ptr 0 0,.p (iV p1)] ⟨[[.p (.sl false (h0_0.map Qab)),.p (iV h0_1),.p (bV h0_2)]],[]⟩ (Qc6 o) ⟨[[.p (.sl false (h0_0.map Qab)),.p (iV h0_1),.p (bV h0_2)]],[]⟩:=by
 intro p1 h0_0 h0_1 h0_2 o h
 unfold Qan at h
 refine CallOK.ofB mixed tbOk Qso Tryz.func42 rfl (by kernel_rfl) (Nat.le_of_ble_eq_true rfl) rfl rfl rfl ?_
 refine Qai h (fun o1 ho hk=>?_)
 refine Exists.intro (JP1 _ _ o1 .normal (Qqr h0_0 h0_1 h0_2)) (And.intro ?_ (join1 ?_))
 ·have h:=ho
  refine And.intro (by decide +kernel) (And.intro rfl ?_)
  refine Qaf h (fun hb h=>?_) (fun hb h=>?_)
  ·refine view (lenMap _ _) rfl ?_
   refine Qaf h (fun hb h=>?_) (fun hb h=>?_)
   ·refine Qel (l:=h0_0) (c:=Qab) (c' := Qab) h (fun _=>rfl) (fun _=>rfl) (by decide) (fun x2 hi h=>?_)
    refine JP1.a h ?_
    exact Le.tz 1 0 rfl rfl rfl
   ·refine JP1.a h ?_
    exact Le.tz 1 0 rfl rfl rfl
  ·refine bF ?_
   refine JP1.a h ?_
   exact Le.tz 1 0 rfl rfl rfl
 ·have h:=hk
  refine Exists.intro _ (And.intro (Le.refl _ _ _) ?_)
  exact Qa7 (t:=Qc6) (ss:=fun o=>⟨[[.p (.sl false (h0_0.map Qab)),.p (iV h0_1),.p (bV h0_2)]],[]⟩) h ⟨[],rfl,.refl _,.refl _,rfl⟩
noncomputable def Qbm (p1:(List UInt8)) (h0_0:(List Qac)) (h0_1:Int) (h0_2:Bool):Option (Bool) :=
 ( Qan 2 h0_0 h0_1 h0_2>>=fun x2 =>
  if x2 then
   if(decide ((wr (h0_1+1))<(h0_0.length:Int))) then
    idx h0_0 (wr (h0_1+1))>>=fun x3 =>
    if(x3.Kind==4) then
     idx h0_0 (wr (h0_1+1))>>=fun x4 =>
     some (x4.Text==p1)
    else
     some false
   else
    some false
  else
   some false:Option (Bool))>>=fun o1 =>
 some o1
theorem Qef:∀ (p1:(List UInt8)) (h0_0:(List Qac)) (h0_1:Int) (h0_2:Bool) (o:Bool),Qbm p1 h0_0 h0_1 h0_2=some o→CallOK Tryz.prog 44 [.ptr 0 0,.p (sV p1)] ⟨[[.p (.sl false (h0_0.map Qab)),.p (iV h0_1),.p (bV h0_2)]],[]⟩ (Qkn o) ⟨[[.p (.sl false (h0_0.map Qab)),.p (iV h0_1),.p (bV h0_2)]],[]⟩:=by
 intro p1 h0_0 h0_1 h0_2 o h
 unfold Qbm at h
 refine CallOK.ofB mixed tbOk Qpv Tryz.func44 rfl (by kernel_rfl) (Nat.le_of_ble_eq_true rfl) rfl rfl rfl ?_
 refine Qai h (fun o1 ho hk=>?_)
 refine Exists.intro (JP1 _ _ o1 .normal (Qnk h0_0 h0_1 h0_2)) (And.intro ?_ (join1 ?_))
 ·have h:=ho
  refine And.intro (by decide +kernel) (And.intro rfl ?_)
  refine Qqh (fun x2=>(Qc6 x2).ren [0] []) h (fun x2 hy=>(Qap 2 h0_0 h0_1 h0_2 x2 hy).fd rfl rfl [0] rfl rfl) (fun x2 hy h=>?_)
  refine Qaf h (fun hb h=>?_) (fun hb h=>?_)
  ·refine view (lenMap _ _) rfl ?_
   refine Qaf h (fun hb h=>?_) (fun hb h=>?_)
   ·refine Qel (l:=h0_0) (c:=Qab) (c' := Qab) h (fun _=>rfl) (fun _=>rfl) (by decide) (fun x3 hi h=>?_)
    refine Qaf h (fun hb h=>?_) (fun hb h=>?_)
    ·refine Qel (l:=h0_0) (c:=Qab) (c' := Qab) h (fun _=>rfl) (fun _=>rfl) (by decide) (fun x4 hi h=>?_)
     refine JP1.a h ?_
     exact Le.tz 1 0 rfl rfl rfl
    ·refine JP1.a h ?_
     exact Le.tz 1 0 rfl rfl rfl
   ·refine bF ?_
    refine JP1.a h ?_
    exact Le.tz 1 0 rfl rfl rfl
  ·refine bF ?_
   refine bF ?_
   refine JP1.a h ?_
   exact Le.tz 1 0 rfl rfl rfl
 ·have h:=hk
  refine Exists.intro _ (And.intro (Le.refl _ _ _) ?_)
  exact Qa7 (t:=Qkn) (ss:=fun o=>⟨[[.p (.sl false (h0_0.map Qab)),.p (iV h0_1),.p (bV h0_2)]],[]⟩) h ⟨[],rfl,.refl _,.refl _,rfl⟩
noncomputable def Qah (p1:Bool) (h0_0:(List Qac)) (h0_1:Int) (h0_2:Bool):Option (Qac×Int×Bool) :=
 ( if(!p1) then
   some true
  else
   some h0_2:Option (Bool))>>=fun o1 =>
 if o1 then
  some ((Qac.mk 0 [] 0 0 0),h0_1,true)
 else
  idx h0_0 (wr ((wr (h0_1+1))-1))>>=fun x2 =>
  some (x2,(wr (h0_1+1)),h0_2)
theorem Qaj:∀ (p1:Bool) (h0_0:(List Qac)) (h0_1:Int) (h0_2:Bool) (o:Qac×Int×Bool),Qah p1 h0_0 h0_1 h0_2=some o→CallOK Tryz.prog 43 [.ptr 0 0,.p (bV p1)] ⟨[[.p (.sl false (h0_0.map Qab)),.p (iV h0_1),.p (bV h0_2)]],[]⟩ (Qhx o) ⟨[[.p (.sl false (h0_0.map Qab)),.p (iV o.2.1),.p (bV o.2.2)]],[]⟩:=by
 intro p1 h0_0 h0_1 h0_2 o h
 unfold Qah at h
 refine CallOK.ofB mixed tbOk Qqt Tryz.func43 rfl (by kernel_rfl) (Nat.le_of_ble_eq_true rfl) rfl rfl rfl ?_
 refine Qai h (fun o1 ho hk=>?_)
 refine Exists.intro (JP1 _ _ o1 .normal (Qo1 h0_0 h0_1 h0_2)) (And.intro ?_ (join1 ?_))
 ·have h:=ho
  refine Qaf h (fun hb h=>?_) (fun hb h=>?_)
  ·refine JP1.a h ?_
   exact Le.tz 2 0 rfl rfl rfl
  ·refine JP1.a h ?_
   exact Le.tz 2 0 rfl rfl rfl
 ·have h:=hk
  refine Qaf h (fun hb h=>?_) (fun hb h=>?_)
  ·refine Exists.intro _ (And.intro (Le.refl _ _ _) ?_)
   exact Qa7 (t:=Qhx) (ss:=fun o=>⟨[[.p (.sl false (h0_0.map Qab)),.p (iV o.2.1),.p (bV o.2.2)]],[]⟩) h ⟨[],rfl,.refl _,.refl _,rfl⟩
  ·refine And.intro (by decide +kernel) (And.intro rfl ?_)
   refine Qel (l:=h0_0) (c:=Qab) (c' := Qab) h (fun _=>rfl) (fun _=>rfl) (by decide) (fun x2 hi h=>?_)
   refine Exists.intro _ (And.intro (Le.refl _ _ _) ?_)
   exact Qa7 (t:=Qhx) (ss:=fun o=>⟨[[.p (.sl false (h0_0.map Qab)),.p (iV o.2.1),.p (bV o.2.2)]],[]⟩) h ⟨[],rfl,.refl _,.refl _,rfl⟩
noncomputable instance Qyi:Lean.Order.CCPO ((List Qaa)→(List Qaa)→(List Qaa)→Option ((Int×Bool×Int×(List UInt8)×(List UInt8)×Int×(List Qaa)×(List Qaa)×(List Qaa)))):=inferInstance
noncomputable instance Qyj:Lean.Order.CCPO ((List UInt8)→(List UInt8)→Int→(List Qaa)→(List Qaa)→(List Qaa)→Option ((Int×Bool×Int×(List UInt8)×(List UInt8)×Int×(List Qaa)×(List Qaa)×(List Qaa)))):=inferInstance
noncomputable def Qbh (h0_0:(List Qac)) (h0_1_:Int) (h0_2_:Bool) (h2_0:Int) (h2_1:(List UInt8)) (h2_2:(List UInt8)) (h2_3:Int) (h2_4:(List Qaa)) (h2_5:(List Qaa)) (h2_6:(List Qaa)):Option ((Int×Bool×Int×(List UInt8)×(List UInt8)×Int×(List Qaa)×(List Qaa)×(List Qaa))) :=
 Qan 7 h0_0 h0_1_ h0_2_>>=fun x3 =>
 if x3 then
  Qah true h0_0 h0_1_ h0_2_>>=fun x4 =>
  Qan 4 h0_0 x4.2.1 x4.2.2>>=fun x5 =>
  Qah x5 h0_0 x4.2.1 x4.2.2>>=fun x6 =>
  Qbh h0_0 x6.2.1 x6.2.2 5 x6.1.Text [] 0 [(Qaa.mk h2_0 h2_1 h2_2 h2_3 h2_4 h2_5 h2_6)] [] []
 else
  some (h0_1_,h0_2_,h2_0,h2_1,h2_2,h2_3,h2_4,h2_5,h2_6)
 partial_fixpoint
theorem Qm6:∀ (h0_0:(List Qac)),(∀ (h0_1_:Int) (h0_2_:Bool) (h2_0:Int) (h2_1:(List UInt8)) (h2_2:(List UInt8)) (h2_3:Int) (h2_4:(List Qaa)) (h2_5:(List Qaa)) (h2_6:(List Qaa)) (o2:(Int×Bool×Int×(List UInt8)×(List UInt8)×Int×(List Qaa)×(List Qaa)×(List Qaa))),Qbh h0_0 h0_1_ h0_2_ h2_0 h2_1 h2_2 h2_3 h2_4 h2_5 h2_6=some o2→TL (1,0) Tryz.prog 19 Qjg (JP1 (1,0) 19 o2 (.exit 0) (Qfa h0_0)) (Qdh h0_0 h0_1_ h0_2_ h2_0 h2_1 h2_2 h2_3 h2_4 h2_5 h2_6)):=by
 intro h0_0
 refine Qbh.partial_correctness h0_0 _ ?_
 intro Qbh' iQbh h0_1_ h0_2_ h2_0 h2_1 h2_2 h2_3 h2_4 h2_5 h2_6 o2 h
 refine TL.round (Qam mixed tbOk (lv:=Qko) _ _ _ ?_)
 refine Qag _ _ h (fun x3 hy=>((Qap 7 h0_0 h0_1_ h0_2_ x3 hy).fr [0] [] rfl rfl rfl)) (fun x3 hy h=>?_)
 refine Qaf h (fun hb h=>?_) (fun hb h=>?_)
 ·refine Qag _ _ h (fun x4 hy=>((Qaj true h0_0 h0_1_ h0_2_ x4 hy).fr [0] [] rfl rfl rfl)) (fun x4 hy h=>?_)
  refine And.intro (by decide +kernel) (And.intro rfl ?_)
  refine Qqh (fun x5=>(Qc6 x5).ren [0] []) h (fun x5 hy=>(Qap 4 h0_0 x4.2.1 x4.2.2 x5 hy).fd rfl rfl [0] rfl rfl) (fun x5 hy h=>?_)
  refine Qkk _ _ h (fun x6 hy=>((Qaj x5 h0_0 x4.2.1 x4.2.2 x6 hy).fg [0] [] rfl rfl rfl (Nat.le_of_ble_eq_true rfl))) (fun x6 hy h=>?_)
  refine TL.le (τ := Qdh h0_0 x6.2.1 x6.2.2 5 x6.1.Text [] 0 [(Qaa.mk h2_0 h2_1 h2_2 h2_3 h2_4 h2_5 h2_6)] [] []) ?_ ((iQbh x6.2.1 x6.2.2 5 x6.1.Text [] 0 [(Qaa.mk h2_0 h2_1 h2_2 h2_3 h2_4 h2_5 h2_6)] [] [] _ h))
  exact Le.tow 3 0 rfl (.cons rfl (.refl _) (.cons rfl (.refl _) (.cons rfl (.refl _) (.nil)))) (.cons (.refl _) (.cons (.refl _) (.cons (.cons (.refl _) (.cons (.refl _) (.cons (.refl _) (.cons (.refl _) (.cons (.p (.no (.cons (.ceq (Qak _) (.refl _)) (.nil)))) (.cons (.p (.not)) (.cons (.p (.not)) (.nil)))))))) (.nil)))) rfl
 ·exact JP1.a h (Le.tz 3 0 rfl rfl rfl)
theorem Qn2:∀ (h0_0:(List Qac)) (h0_1_:Int) (h0_2_:Bool) (h2_0:Int) (h2_1:(List UInt8)) (h2_2:(List UInt8)) (h2_3:Int) (h2_4:(List Qaa)) (h2_5:(List Qaa)) (h2_6:(List Qaa)) (o2:(Int×Bool×Int×(List UInt8)×(List UInt8)×Int×(List Qaa)×(List Qaa)×(List Qaa))),Qbh h0_0 h0_1_ h0_2_ h2_0 h2_1 h2_2 h2_3 h2_4 h2_5 h2_6=some o2→TL (1,0) Tryz.prog 19 Qjg (JP1 (1,0) 19 o2 (.exit 0) (Qfa h0_0)) (Qdh h0_0 h0_1_ h0_2_ h2_0 h2_1 h2_2 h2_3 h2_4 h2_5 h2_6):=fun h0_0 h0_1_ h0_2_ h2_0 h2_1 h2_2 h2_3 h2_4 h2_5 h2_6=>(Qm6 h0_0) h0_1_ h0_2_ h2_0 h2_1 h2_2 h2_3 h2_4 h2_5 h2_6
noncomputable def Qch (h0_0:(List Qac)) (h0_1:Int) (h0_2:Bool):Option ((List UInt8)×Int×Bool) :=
 ( Qan 4 h0_0 h0_1 h0_2>>=fun x2 =>
  if x2 then
   idx h0_0 h0_1>>=fun x3 =>
   Qjr x3.Text>>=fun x4 =>
   Qah x4 h0_0 h0_1 h0_2>>=fun x5 =>
   some (x5.1.Text,x5.2.1,x5.2.2)
  else
   Qah false h0_0 h0_1 h0_2>>=fun x6 =>
   some (x6.1.Text,x6.2.1,x6.2.2):Option (((List UInt8)×Int×Bool)))>>=fun o1 =>
 some (o1.1,o1.2.1,o1.2.2)
end Go.Proofs.YtagokkpnfceidaaGreatDoor
end
