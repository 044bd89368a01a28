/- The proof's texts, part 9 of 12: the walks by a logic in which data are by value, the plain laws, and at the end the law, for every input. -/
import Derived.Test.YtagokkpnfceidaaGreatDoorMgParseTrees8

noncomputable section
set_option linter.unusedVariables false
set_option linter.unusedSimpArgs false
set_option maxRecDepth 100000
set_option maxHeartbeats 4000000
namespace Go.Proofs.YtagokkpnfceidaaGreatDoor
open Go.RowKit
theorem Qaft:∀ (p0:(List UInt8)),(∀ (v6:Int) (o1:Unit⊕Unit),Qhx p0 v6=some o1→TL (0,0) Tryz.prog 27 Q4g (JP2 (0,0) 27 o1 (.exit 0) (Qtp p0) .ret (Qtq p0)) (Qnq p0 v6)):=by
 intro p0;refine Qhx.partial_correctness p0 _ ?_;intro Qhx' iQhx v6 o1 h;refine TL.round (Qan mixed tbOk (lv:=Qzy) _ _ _ ?_);refine Qaf h (fun hb h=>?_) (fun hb h=>?_)
 ·refine Qcn h (fun x4 hi h=>?_);refine Qak [nV .u8 (x4.toNat:Int)] Qki h (fun x5 hy=>(Qo8 (x4.toNat:Int) x5 hy)) (fun x5 hy h=>?_);refine Qaf h (fun hb h=>?_) (fun hb h=>?_)
  ·exact JP2.b h (Le.tz 0 0 rfl rfl rfl)
  ·refine TL.le (τ := Qnq p0 (wr (v6+1))) ?_ ((iQhx (wr (v6+1)) _ h));exact Le.tz 0 0 rfl rfl rfl
 ·exact JP2.a h (Le.tz 0 0 rfl rfl rfl)
def Qna (p0:(List UInt8)):Option (Bool) :=
 (Qhx p0 0)>>=fun o1 =>
 match o1 with
 | .inl y2 =>
  ( if(!(p0==[])) then
    if(decide ((p0.length:Int)≤32)) then
     idx p0 0>>=fun x7 =>
     some (decide ((x7.toNat:Int) ≥ 97))
    else
     some false
   else
    some false:Option (Bool))>>=fun o6 =>
  some o6
 | .inr y3 =>
  some false
theorem Quj:∀ (p0:(List UInt8)) (o:Bool),Qna p0=some o→PCall Tryz.prog 91 [sV p0] (Qlq o):=by
 intro p0 o h;unfold Qna at h;refine PCall.ofB mixed tbOk Qzy Tryz.func91 rfl (by kernel_rfl) (Nat.le_of_ble_eq_true rfl) ?_;refine vrfl ?_;refine Qag h (fun o1 ho hk=>?_);refine Exists.intro (JP2 _ _ o1 (.exit 0) (Qtp p0) .ret (Qtq p0)) (And.intro (Qnx (τ := Qnq p0 0) ?_ (TL.loop (Qaft p0 0 o1 ho))) (Qlx (fun y2 hy=>?_) (fun y3 hy=>?_)))
 ·exact Le.tz 0 0 rfl rfl rfl
 ·have h:=(by rw[hy] at hk; exact hk);refine Qag h (fun o6 ho hk=>?_);refine Exists.intro (JP1 _ _ o6 .normal (Q4h )) (And.intro ?_ (Qa5 ?_))
  ·have h:=ho;refine Qaf h (fun hb h=>?_) (fun hb h=>?_)
   ·refine vrfl ?_;refine Qaf h (fun hb h=>?_) (fun hb h=>?_)
    ·refine Qcn h (fun x7 hi h=>?_);refine JP1.a h ?_;exact Le.tz 0 0 rfl rfl rfl
    ·refine JP1.a h ?_;exact Le.tz 0 0 rfl rfl rfl
   ·refine bF ?_;refine JP1.a h ?_;exact Le.tz 0 0 rfl rfl rfl
  ·have h:=hk;refine Qao (t:=Qlq) h ?_;exact .refl _
 ·have h:=(by rw[hy] at hk; exact hk);refine Qao (t:=Qlq) h ?_;exact .refl _
def Qba (h0_0:(List UInt8)) (h0_1:Int) (h0_2:(List Qaa)) (v7:Int):Option (Int) :=
 ( if(decide (v7<(h0_0.length:Int))) then
   idx h0_0 v7>>=fun x3 =>
   Qj3 (x3.toNat:Int)>>=fun x4 =>
   some x4
  else
   some false:Option (Bool))>>=fun o2 =>
 if o2 then
  Qba h0_0 h0_1 h0_2 (wr (v7+1))
 else
  some v7
 partial_fixpoint
theorem Qvm:∀ (h0_0:(List UInt8)) (h0_1:Int) (h0_2:(List Qaa)),(∀ (v7:Int) (o1:Int),Qba h0_0 h0_1 h0_2 v7=some o1→TL (1,1) Tryz.prog 38 Qjx (JP1 (1,1) 38 o1 (.exit 0) (Qeh h0_0 h0_1 h0_2)) (Qc4 h0_0 h0_1 h0_2 v7)):=by
 intro h0_0 h0_1 h0_2;refine Qba.partial_correctness h0_0 h0_1 h0_2 _ ?_;intro Qba' iQba v7 o1 h;refine TL.round (Qan mixed tbOk (lv:=Qfg) _ _ _ ?_);refine Qag h (fun o2 ho hk=>?_);refine Exists.intro (JP1 _ _ o2 .normal (Qjw h0_0 h0_1 h0_2 v7)) (And.intro ?_ (Qa5 ?_))
 ·have h:=ho;refine vrfl ?_;refine Qaf h (fun hb h=>?_) (fun hb h=>?_)
  ·refine Qcn h (fun x3 hi h=>?_);refine Qak [nV .u8 (x3.toNat:Int)] Qki h (fun x4 hy=>(Qo8 (x3.toNat:Int) x4 hy)) (fun x4 hy h=>?_);refine JP1.a h ?_;exact Le.tz 1 1 rfl rfl rfl
  ·refine JP1.a h ?_;exact Le.tz 1 1 rfl rfl rfl
 ·have h:=hk;refine Qaf h (fun hb h=>?_) (fun hb h=>?_)
  ·refine TL.le (τ := Qc4 h0_0 h0_1 h0_2 (wr (v7+1))) ?_ ((iQba (wr (v7+1)) _ h));exact Le.tz 1 1 rfl rfl rfl
  ·exact JP1.a h (Le.tz 1 1 rfl rfl rfl)
def Qc6 (p1:Int) (h0_0:(List UInt8)) (h0_1:Int) (h0_2:(List Qaa)):Option ((List UInt8)) :=
 (Qba h0_0 h0_1 h0_2 p1)>>=fun o1 =>
 cutL h0_0 h0_1 o1>>=fun x5 =>
 some x5
theorem Qk4:∀ (p1:Int) (h0_0:(List UInt8)) (h0_1:Int) (h0_2:(List Qaa)) (o:(List UInt8)),Qc6 p1 h0_0 h0_1 h0_2=some o→CallOK Tryz.prog 89 [.ptr 0 0,.p (iV p1),.fn (.func 54) [] []] ⟨[[.p (sV h0_0),.p (iV h0_1),.own 0 59 5 (h0_2.map Qad)]],[(h0_2.map Qad).length]⟩ (Qfz o) ⟨[[.p (sV h0_0),.p (iV h0_1),.own 0 59 5 (h0_2.map Qad)]],[(h0_2.map Qad).length]⟩:=by
 intro p1 h0_0 h0_1 h0_2 o h;unfold Qc6 at h;refine CallOK.ofB mixed tbOk Qfg Tryz.func89 rfl (by kernel_rfl) (Nat.le_of_ble_eq_true rfl) rfl rfl rfl ?_;refine Qag h (fun o1 ho hk=>?_);refine Exists.intro (JP1 _ _ o1 (.exit 0) (Qeh h0_0 h0_1 h0_2)) (And.intro (Qnx (τ := Qc4 h0_0 h0_1 h0_2 p1) ?_ (TL.loop (Qvm h0_0 h0_1 h0_2 p1 o1 ho))) (Qa5 ?_))
 ·exact Le.tz 1 1 rfl rfl rfl
 have h:=hk;refine And.intro (by decide +kernel) (And.intro rfl ?_);refine Qel (some h0_1) (some o1) h (fun x5 hi h=>?_);refine Exists.intro _ (And.intro (Le.refl _ _ _) ?_);exact Qbd (t:=Qfz) (ss:=fun o=>⟨[[.p (sV h0_0),.p (iV h0_1),.own 0 59 5 (h0_2.map Qad)]],[(h0_2.map Qad).length]⟩) h ⟨[0],rfl,.refl _,.refl _,rfl⟩
def Qfm (h0_0:(List UInt8)) (h0_1:Int) (h0_2:(List Qaa)):Option (Bool×Int×(List Qaa)) :=
 Qc6 h0_1 h0_0 h0_1 h0_2>>=fun x1 =>
 Qna x1>>=fun x2 =>
 if(!x2) then
  some (false,h0_1,h0_2)
 else
  Qa3 4 x1 0 (x1.length:Int) h0_0 h0_1 h0_2>>=fun x3 =>
  some (true,x3.1,x3.2)
theorem Quk:∀ (h0_0:(List UInt8)) (h0_1:Int) (h0_2:(List Qaa)) (o:Bool×Int×(List Qaa)),Qfm h0_0 h0_1 h0_2=some o→CallOK Tryz.prog 55 [.ptr 0 0] ⟨[[.p (sV h0_0),.p (iV h0_1),.own 0 59 5 (h0_2.map Qad)]],[(h0_2.map Qad).length]⟩ (Qit o) ⟨[[.p (sV h0_0),.p (iV o.2.1),.own 0 59 5 (o.2.2.map Qad)]],[(o.2.2.map Qad).length]⟩:=by
 intro h0_0 h0_1 h0_2 o h;unfold Qfm at h;refine CallOK.ofB mixed tbOk Qub Tryz.func55 rfl (by kernel_rfl) (Nat.le_of_ble_eq_true rfl) rfl rfl rfl ?_;refine Qah _ _ h (fun x1 hy=>((Qk4 h0_1 h0_0 h0_1 h0_2 x1 hy).fr [0] [0] rfl rfl rfl)) (fun x1 hy h=>?_);refine Qak [sV x1] Qlq h (fun x2 hy=>(Quj x1 x2 hy)) (fun x2 hy h=>?_);refine Qaf h (fun hb h=>?_) (fun hb h=>?_)
 ·refine Exists.intro _ (And.intro (Le.refl _ _ _) ?_);exact Qbd (t:=Qit) (ss:=fun o=>⟨[[.p (sV h0_0),.p (iV o.2.1),.own 0 59 5 (o.2.2.map Qad)]],[(o.2.2.map Qad).length]⟩) h ⟨[0],rfl,.refl _,.refl _,rfl⟩
 ·refine vrfl ?_;refine Qah _ _ h (fun x3 hy=>((Qcd 4 x1 0 (x1.length:Int) h0_0 h0_1 h0_2 x3 hy).fr [0] [0] rfl rfl rfl)) (fun x3 hy h=>?_);refine Exists.intro _ (And.intro (Le.refl _ _ _) ?_);exact Qbd (t:=Qit) (ss:=fun o=>⟨[[.p (sV h0_0),.p (iV o.2.1),.own 0 59 5 (o.2.2.map Qad)]],[(o.2.2.map Qad).length]⟩) h ⟨[0],rfl,.refl _,.refl _,rfl⟩
def Qdt (h0_0:(List UInt8)) (h0_1:Int) (h0_2:(List Qaa)):Option (Bool×Int×(List Qaa)) :=
 idx h0_0 h0_1>>=fun x1 =>
 if((x1.toNat:Int)==34) then
  Qfl h0_0 h0_1 h0_2>>=fun x2 =>
  some (x2.1,x2.2.1,x2.2.2)
 else
  ( if((x1.toNat:Int)==45) then
    some true
   else
    Qko (x1.toNat:Int)>>=fun x4 =>
    some x4:Option (Bool))>>=fun o3 =>
  if o3 then
   Qd7 h0_0 h0_1 h0_2>>=fun x5 =>
   some (x5.1,x5.2.1,x5.2.2)
  else
   Qj3 (x1.toNat:Int)>>=fun x6 =>
   if x6 then
    Qfm h0_0 h0_1 h0_2>>=fun x7 =>
    some (x7.1,x7.2.1,x7.2.2)
   else
    Qfk h0_0 h0_1 h0_2>>=fun x8 =>
    some (x8.1,x8.2.1,x8.2.2)
theorem Qp9:∀ (h0_0:(List UInt8)) (h0_1:Int) (h0_2:(List Qaa)) (o:Bool×Int×(List Qaa)),Qdt h0_0 h0_1 h0_2=some o→CallOK Tryz.prog 30 [.ptr 0 0] ⟨[[.p (sV h0_0),.p (iV h0_1),.own 0 59 5 (h0_2.map Qad)]],[(h0_2.map Qad).length]⟩ (Qdg o) ⟨[[.p (sV h0_0),.p (iV o.2.1),.own 0 59 5 (o.2.2.map Qad)]],[(o.2.2.map Qad).length]⟩:=by
 intro h0_0 h0_1 h0_2 o h;unfold Qdt at h;refine CallOK.ofB mixed tbOk Qp2 Tryz.func30 rfl (by kernel_rfl) (Nat.le_of_ble_eq_true rfl) rfl rfl rfl ?_;refine And.intro (by decide +kernel) (And.intro rfl ?_);refine Qcn h (fun x1 hi h=>?_);refine Qaf h (fun hb h=>?_) (fun hb h=>?_)
 ·refine Qah _ _ h (fun x2 hy=>((Qui h0_0 h0_1 h0_2 x2 hy).fr [0] [0] rfl rfl rfl)) (fun x2 hy h=>?_);refine Exists.intro _ (And.intro (Le.refl _ _ _) ?_);exact Qbd (t:=Qdg) (ss:=fun o=>⟨[[.p (sV h0_0),.p (iV o.2.1),.own 0 59 5 (o.2.2.map Qad)]],[(o.2.2.map Qad).length]⟩) h ⟨[0],rfl,.refl _,.refl _,rfl⟩
 ·refine Qag h (fun o3 ho hk=>?_);refine Exists.intro (JP1 _ _ o3 .normal (Qn6 h0_0 h0_1 h0_2 x1)) (And.intro ?_ (Qa5 ?_))
  ·have h:=ho;refine Qaf h (fun hb h=>?_) (fun hb h=>?_)
   ·refine JP1.a h ?_;exact Le.tz 1 1 rfl rfl rfl
   ·refine Qak [nV .u8 (x1.toNat:Int)] Qjv h (fun x4 hy=>(Qm8 (x1.toNat:Int) x4 hy)) (fun x4 hy h=>?_);refine JP1.a h ?_;exact Le.tz 1 1 rfl rfl rfl
  ·have h:=hk;refine Qaf h (fun hb h=>?_) (fun hb h=>?_)
   ·refine Qah _ _ h (fun x5 hy=>((Qrh h0_0 h0_1 h0_2 x5 hy).fr [0] [0] rfl rfl rfl)) (fun x5 hy h=>?_);refine Exists.intro _ (And.intro (Le.refl _ _ _) ?_);exact Qbd (t:=Qdg) (ss:=fun o=>⟨[[.p (sV h0_0),.p (iV o.2.1),.own 0 59 5 (o.2.2.map Qad)]],[(o.2.2.map Qad).length]⟩) h ⟨[0],rfl,.refl _,.refl _,rfl⟩
   ·refine Qak [nV .u8 (x1.toNat:Int)] Qki h (fun x6 hy=>(Qo8 (x1.toNat:Int) x6 hy)) (fun x6 hy h=>?_);refine Qaf h (fun hb h=>?_) (fun hb h=>?_)
    ·refine Qah _ _ h (fun x7 hy=>((Quk h0_0 h0_1 h0_2 x7 hy).fr [0] [0] rfl rfl rfl)) (fun x7 hy h=>?_);refine Exists.intro _ (And.intro (Le.refl _ _ _) ?_);exact Qbd (t:=Qdg) (ss:=fun o=>⟨[[.p (sV h0_0),.p (iV o.2.1),.own 0 59 5 (o.2.2.map Qad)]],[(o.2.2.map Qad).length]⟩) h ⟨[0],rfl,.refl _,.refl _,rfl⟩
    ·refine Qah _ _ h (fun x8 hy=>((Quh h0_0 h0_1 h0_2 x8 hy).fr [0] [0] rfl rfl rfl)) (fun x8 hy h=>?_);refine Exists.intro _ (And.intro (Le.refl _ _ _) ?_);exact Qbd (t:=Qdg) (ss:=fun o=>⟨[[.p (sV h0_0),.p (iV o.2.1),.own 0 59 5 (o.2.2.map Qad)]],[(o.2.2.map Qad).length]⟩) h ⟨[0],rfl,.refl _,.refl _,rfl⟩
def Qgq (p0:(List UInt8)) (p1:(List UInt8)):Option (Bool) :=
 Qcg p0 p1>>=fun x1 =>
 some x1
theorem Qs4:∀ (p0:(List UInt8)) (p1:(List UInt8)) (o:Bool),Qgq p0 p1=some o→PCall Tryz.prog 50 [sV p0,sV p1] (Qhq o):=by
 intro p0 p1 o h;unfold Qgq at h;refine PCall.ofB mixed tbOk Qs2 Tryz.func50 rfl (by kernel_rfl) (Nat.le_of_ble_eq_true rfl) ?_;refine Qak [sV p0,sV p1] Qc3 h (fun x1 hy=>(Qi6 p0 p1 x1 hy)) (fun x1 hy h=>?_);refine Qao (t:=Qhq) h ?_;exact .refl _
def Qex (p0:(List UInt8)) (p1:(List UInt8)) (p2:Int):Option (Bool) :=
 ( if(decide (p2 ≥ 0)) then
   if(decide (p2≤(p0.length:Int))) then
    cutL p0 p2 (p0.length:Int)>>=fun x2 =>
    Qgq x2 p1>>=fun x3 =>
    some x3
   else
    some false
  else
   some false:Option (Bool))>>=fun o1 =>
 some o1
theorem Qri:∀ (p0:(List UInt8)) (p1:(List UInt8)) (p2:Int) (o:Bool),Qex p0 p1 p2=some o→PCall Tryz.prog 29 [sV p0,sV p1,iV p2] (Qj8 o):=by
 intro p0 p1 p2 o h;unfold Qex at h;refine PCall.ofB mixed tbOk Qz0 Tryz.func29 rfl (by kernel_rfl) (Nat.le_of_ble_eq_true rfl) ?_;refine Qag h (fun o1 ho hk=>?_);refine Exists.intro (JP1 _ _ o1 .normal (Qwl )) (And.intro ?_ (Qa5 ?_))
 ·have h:=ho;refine Qaf h (fun hb h=>?_) (fun hb h=>?_)
  ·refine vrfl ?_;refine Qaf h (fun hb h=>?_) (fun hb h=>?_)
   ·refine Qel (some p2) none h (fun x2 hi h=>?_);refine Qak [sV x2,sV p1] Qhq h (fun x3 hy=>(Qs4 x2 p1 x3 hy)) (fun x3 hy h=>?_);refine JP1.a h ?_;exact Le.tz 0 0 rfl rfl rfl
   ·refine JP1.a h ?_;exact Le.tz 0 0 rfl rfl rfl
  ·refine bF ?_;refine JP1.a h ?_;exact Le.tz 0 0 rfl rfl rfl
 ·have h:=hk;refine Qao (t:=Qj8) h ?_;exact .refl _
def Qgr (p0:(List UInt8)) (p1:(List UInt8)):Option (Int) :=
 Qc5 p0 p1>>=fun x1 =>
 some x1
theorem Qpu:∀ (p0:(List UInt8)) (p1:(List UInt8)) (o:Int),Qgr p0 p1=some o→PCall Tryz.prog 26 [sV p0,sV p1] (Qiz o):=by
 intro p0 p1 o h;unfold Qgr at h;refine PCall.ofB mixed tbOk Qxt Tryz.func26 rfl (by kernel_rfl) (Nat.le_of_ble_eq_true rfl) ?_;refine Qak [sV p0,sV p1] Qfw h (fun x1 hy=>(Qk3 p0 p1 x1 hy)) (fun x1 hy h=>?_);refine Qao (t:=Qiz) h ?_;exact .refl _
mutual
def Qdh (p0:(List UInt8)) (w0:Int×(List Qaa)):Option (((List Qaa)×Int×Int)) :=
 cutL p0 w0.1 (p0.length:Int)>>=fun x2 =>
 Qgr x2 [123,123]>>=fun x3 =>
 ( if(decide (x3<0)) then
   some (wr ((p0.length:Int)-w0.1))
  else
   some x3:Option (Int))>>=fun o4 =>
 ( if(decide (o4>0)) then
   cutL p0 w0.1 (wr (w0.1+o4))>>=fun x6 =>
   Qa3 1 x6 0 o4 p0 w0.1 w0.2>>=fun x7 =>
   some (x7.1,x7.2)
  else
   some (w0.1,w0.2):Option ((Int×(List Qaa))))>>=fun o5 =>
 if(o5.1==(p0.length:Int)) then
  some (o5.2,0,0)
 else
  Qa3 2 [] 0 2 p0 o5.1 o5.2>>=fun x8 =>
  Qc0 p0 x8.1 x8.2>>=fun x9 =>
  ( Qex p0 [35] x9>>=fun x13 =>
   if x13 then
    cutL p0 x9 (p0.length:Int)>>=fun x14 =>
    Qgr x14 [125,125]>>=fun x15 =>
    if(decide (x15<0)) then
     some (.inr ())
    else
     some (.inl (wr (x9+x15)))
   else
    some (.inl x9):Option (Int⊕Unit))>>=fun o10 =>
  match o10 with
  | .inl y11 =>
   Qgg p0 (y11,x8.2)
  | .inr y12 =>
   some ([],(p0.length:Int),7)
 partial_fixpoint
def Qgg (p0:(List UInt8)) (w1:Int×(List Qaa)):Option (((List Qaa)×Int×Int)) :=
 Qc0 p0 w1.1 w1.2>>=fun x16 =>
 Qex p0 [125,125] x16>>=fun x17 =>
 if x17 then
  Qa3 3 [] 0 2 p0 x16 w1.2>>=fun x18 =>
  Qdh p0 (x18.1,x18.2)
 else
  ( if(x16==(p0.length:Int)) then
    some (true,x16,w1.2)
   else
    Qdt p0 x16 w1.2>>=fun x20 =>
    some ((!x20.1),x20.2.1,x20.2.2):Option ((Bool×Int×(List Qaa))))>>=fun o19 =>
  if o19.1 then
   some ([],o19.2.1,7)
  else
   Qgg p0 (o19.2.1,o19.2.2)
 partial_fixpoint
end
theorem Qul:∀ (p0:(List UInt8)),(∀ (w0:Int×(List Qaa)) (o1:((List Qaa)×Int×Int)),Qdh p0 w0=some o1→TG (0,0) Tryz.prog 112 Qen (Qabf Qen 0) (JP1 (0,0) 112 o1 .ret (Qg8 p0)) (Qfx p0 w0))∧(∀ (w1:Int×(List Qaa)) (o1:((List Qaa)×Int×Int)),Qgg p0 w1=some o1→TG (0,0) Tryz.prog 112 Qen (Qabf Qen 1) (JP1 (0,0) 112 o1 .ret (Qg8 p0)) (Qiq p0 w1)):=by
 intro p0;refine Qdh.mutual_partial_correctness p0 _ _ ?_ ?_
 ·intro Qgg' iQgg w0 o1 h;refine TG.seqb mixed tbOk (lv:=Qbs) ?_;refine Qel (some w0.1) none h (fun x2 hi h=>?_);refine Qak [sV x2,sV [123,123]] Qiz h (fun x3 hy=>(Qpu x2 [123,123] x3 hy)) (fun x3 hy h=>?_);refine TG.seqj mixed tbOk (lv:=Qbs) ?_;refine Qag h (fun o4 ho hk=>?_);refine Exists.intro (JP1 _ _ o4 .normal (Qzt p0 w0)) (And.intro ?_ (Qa5 ?_))
  ·have h:=ho;refine Qaf h (fun hb h=>?_) (fun hb h=>?_)
   ·refine vrfl ?_;refine JP1.a h ?_;exact Le.tz 1 1 rfl rfl rfl
   ·refine JP1.a h ?_;exact Le.tz 1 1 rfl rfl rfl
  ·have h:=hk;refine TG.seqj mixed tbOk (lv:=Qbs) ?_;refine Qag h (fun o5 ho hk=>?_);refine Exists.intro (JP1 _ _ o5 .normal (Qzu p0)) (And.intro ?_ (Qa5 ?_))
   ·have h:=ho;refine Qaf h (fun hb h=>?_) (fun hb h=>?_)
    ·refine And.intro (by decide +kernel) (And.intro rfl ?_);refine Qel (some w0.1) (some (wr (w0.1+o4))) h (fun x6 hi h=>?_);refine Qmy _ _ h (fun x7 hy=>((Qcd 1 x6 0 o4 p0 w0.1 w0.2 x7 hy).fg [0] [0] rfl rfl rfl (Nat.le_of_ble_eq_true rfl))) (fun x7 hy h=>?_);refine JP1.a h ?_;exact Le.tz 1 1 rfl rfl rfl
    ·refine JP1.a h ?_;exact Le.tz 1 1 rfl rfl rfl
   ·have h:=hk;refine TG.seqb mixed tbOk (lv:=Qbs) ?_;refine vrfl ?_;refine Qaf h (fun hb h=>?_) (fun hb h=>?_)
    ·refine JP1.a h ?_;exact Le.tz 0 0 rfl rfl rfl
    ·refine TG.seqb mixed tbOk (lv:=Qbs) ?_;refine Qah _ _ h (fun x8 hy=>((Qcd 2 [] 0 2 p0 o5.1 o5.2 x8 hy).fr [0] [0] rfl rfl rfl)) (fun x8 hy h=>?_);refine TG.seqb mixed tbOk (lv:=Qbs) ?_;refine Qah _ _ h (fun x9 hy=>((Qi7 p0 x8.1 x8.2 x9 hy).fr [0] [0] rfl rfl rfl)) (fun x9 hy h=>?_);refine TG.seqj mixed tbOk (lv:=Qbs) ?_;refine Qag h (fun o10 ho hk=>?_);refine Exists.intro (JP2 _ _ o10 .normal (Qzv p0 x8 x9) .ret (Qzw p0 x8 x9)) (And.intro ?_ (Qlx (fun y11 hy=>?_) (fun y12 hy=>?_)))
     ·have h:=ho;refine Qak [sV p0,sV [35],iV x9] Qj8 h (fun x13 hy=>(Qri p0 [35] x9 x13 hy)) (fun x13 hy h=>?_);refine Qaf h (fun hb h=>?_) (fun hb h=>?_)
      ·refine Qel (some x9) none h (fun x14 hi h=>?_);refine Qak [sV x14,sV [125,125]] Qiz h (fun x15 hy=>(Qpu x14 [125,125] x15 hy)) (fun x15 hy h=>?_);refine Qaf h (fun hb h=>?_) (fun hb h=>?_)
       ·refine vrfl ?_;refine JP2.b h ?_;exact Le.tz 1 1 rfl rfl rfl
       ·refine JP2.a h ?_;exact Le.tz 1 1 rfl rfl rfl
      ·refine JP2.a h ?_;exact Le.tz 1 1 rfl rfl rfl
     ·have h:=(by rw[hy] at hk; exact hk);refine TG.label (TG.le (τ := Qiq p0 (y11,x8.2)) ?_ ((iQgg (y11,x8.2) _ h)));exact Le.tz 1 1 rfl rfl rfl
     ·have h:=(by rw[hy] at hk; exact hk);refine JP1.a h ?_;exact Le.tow 0 0 rfl (.cons rfl (.p (.not)) (.cons rfl (.refl _) (.cons rfl (.refl _) (.nil)))) (.refl _) rfl
 ·intro Qdh' Qgg' iQdh iQgg w1 o1 h;refine TG.seqb mixed tbOk (lv:=Qbs) ?_;refine Qah _ _ h (fun x16 hy=>((Qi7 p0 w1.1 w1.2 x16 hy).fr [0] [0] rfl rfl rfl)) (fun x16 hy h=>?_);refine TG.seqb mixed tbOk (lv:=Qbs) ?_;refine Qak [sV p0,sV [125,125],iV x16] Qj8 h (fun x17 hy=>(Qri p0 [125,125] x16 x17 hy)) (fun x17 hy h=>?_);refine Qaf h (fun hb h=>?_) (fun hb h=>?_)
  ·refine Qah _ _ h (fun x18 hy=>((Qcd 3 [] 0 2 p0 x16 w1.2 x18 hy).fr [0] [0] rfl rfl rfl)) (fun x18 hy h=>?_);refine Exists.intro _ (And.intro rfl (TG.skip (TG.le (τ := Qfx p0 (x18.1,x18.2)) ?_ ((iQdh (x18.1,x18.2) _ h)))));exact Le.tz 1 1 rfl rfl rfl
  ·refine TG.seqb mixed tbOk (lv:=Qbs) ?_;refine Qag h (fun o19 ho hk=>?_);refine Exists.intro (JP1 _ _ o19 .normal (Qzx p0)) (And.intro ?_ (Qa5 ?_))
   ·have h:=ho;refine vrfl ?_;refine Qaf h (fun hb h=>?_) (fun hb h=>?_)
    ·refine JP1.a h ?_;exact Le.tz 1 1 rfl rfl rfl
    ·refine Qah _ _ h (fun x20 hy=>((Qp9 p0 x16 w1.2 x20 hy).fr [0] [0] rfl rfl rfl)) (fun x20 hy h=>?_);refine JP1.a h ?_;exact Le.tz 1 1 rfl rfl rfl
   ·have h:=hk;refine Qaf h (fun hb h=>?_) (fun hb h=>?_)
    ·refine And.intro (by decide +kernel) (And.intro rfl ?_);refine JP1.a h ?_;exact Le.tow 0 0 rfl (.cons rfl (.p (.not)) (.cons rfl (.refl _) (.cons rfl (.refl _) (.nil)))) (.refl _) rfl
    ·refine TG.lastb mixed tbOk (lv:=Qbs) ?_;refine Exists.intro _ (And.intro rfl (TG.skip (TG.le (τ := Qiq p0 (o19.2.1,o19.2.2)) ?_ ((iQgg (o19.2.1,o19.2.2) _ h)))));exact Le.tz 1 1 rfl rfl rfl
theorem Qvn:∀ (p0:(List UInt8)) (w0:Int×(List Qaa)) (o1:((List Qaa)×Int×Int)),Qdh p0 w0=some o1→TG (0,0) Tryz.prog 112 Qen (Qabf Qen 0) (JP1 (0,0) 112 o1 .ret (Qg8 p0)) (Qfx p0 w0):=fun p0 w0=>(Qul p0).1 w0
def Qod (p0:(List UInt8)):Option ((List Qaa)×Int×Int) :=
 ( if(decide ((p0.length:Int)>65536)) then
   some ([],0,6)
  else
   Qdh p0 (0,[]):Option (((List Qaa)×Int×Int)))>>=fun o1 =>
 some (o1.1,o1.2.1,o1.2.2)
theorem Q41:∀ (p0:(List UInt8)) (o:(List Qaa)×Int×Int),Qod p0=some o→PCall Tryz.prog 14 [sV p0] (Qq4 o):=by
 intro p0 o h;unfold Qod at h;refine PCall.ofB mixed tbOk Qbs Tryz.func14 rfl (by kernel_rfl) (Nat.le_of_ble_eq_true rfl) ?_;refine Qag h (fun o1 ho hk=>?_);refine Exists.intro (JP1 _ _ o1 .ret (Qg8 p0)) (And.intro (TG.scope ?_) (Qa5 ?_))
 ·have h:=ho;refine TG.seqb mixed tbOk (lv:=Qbs) ?_;refine vrfl ?_;refine Qaf h (fun hb h=>?_) (fun hb h=>?_)
  ·refine JP1.a h ?_;exact Le.tow 0 0 rfl (.cons rfl (.p (.not)) (.cons rfl (.refl _) (.cons rfl (.refl _) (.nil)))) (.refl _) rfl
  ·refine TG.seqb mixed tbOk (lv:=Qbs) ?_;refine TG.seqb mixed tbOk (lv:=Qbs) ?_;refine TG.label (TG.le (τ := Qfx p0 (0,[])) ?_ ((Qvn p0 (0,[]) _ h)));exact(Le.ownH 0 2 59 5 rfl rfl Qy5).trans (Le.tz 1 1 rfl rfl rfl)
 ·have h:=hk;refine Qao (t:=Qq4) h ?_;exact .refl _
def Qbj (h0_0:(List Qaa)) (h0_1:Int):Option (Qaa) :=
 if(h0_1==(h0_0.length:Int)) then
  some (Qaa.mk 0 [] 0 0 0)
 else
  idx h0_0 h0_1>>=fun x1 =>
  some x1
theorem Qce:∀ (h0_0:(List Qaa)) (h0_1:Int) (o:Qaa),Qbj h0_0 h0_1=some o→CallOK Tryz.prog 31 [.ptr 0 0] ⟨[[.p (.sl false (h0_0.map Qad)),.p (iV h0_1)]],[]⟩ (Qhn o) ⟨[[.p (.sl false (h0_0.map Qad)),.p (iV h0_1)]],[]⟩:=by
 intro h0_0 h0_1 o h;unfold Qbj at h;refine CallOK.ofB mixed tbOk Qsx Tryz.func31 rfl (by kernel_rfl) (Nat.le_of_ble_eq_true rfl) rfl rfl rfl ?_;refine And.intro (by decide +kernel) (And.intro rfl ?_);refine view (Qaw _ _) rfl ?_;refine Qaf h (fun hb h=>?_) (fun hb h=>?_)
 ·refine Exists.intro _ (And.intro (Le.refl _ _ _) ?_);exact Qbd (t:=Qhn) (ss:=fun o=>⟨[[.p (.sl false (h0_0.map Qad)),.p (iV h0_1)]],[]⟩) h ⟨[],rfl,.refl _,.refl _,rfl⟩
 ·refine And.intro (by decide +kernel) (And.intro rfl ?_);refine Qcv (l:=h0_0) (c:=Qad) (c' := Qad) h (fun _=>rfl) (fun _=>rfl) (by decide) (fun x1 hi h=>?_);refine Exists.intro _ (And.intro (Le.refl _ _ _) ?_);exact Qbd (t:=Qhn) (ss:=fun o=>⟨[[.p (.sl false (h0_0.map Qad)),.p (iV h0_1)]],[]⟩) h ⟨[],rfl,.refl _,.refl _,rfl⟩
def Qbz (p1:Int) (h0_0:(List Qaa)) (h0_1:Int):Option (Bool×Int) :=
 Qbj h0_0 h0_1>>=fun x1 =>
 if(x1.Kind != p1) then
  some (false,h0_1)
 else
  some (true,(wr (h0_1+1)))
theorem Qc1:∀ (p1:Int) (h0_0:(List Qaa)) (h0_1:Int) (o:Bool×Int),Qbz p1 h0_0 h0_1=some o→CallOK Tryz.prog 32 [.ptr 0 0,.p (iV p1)] ⟨[[.p (.sl false (h0_0.map Qad)),.p (iV h0_1)]],[]⟩ (Qho o) ⟨[[.p (.sl false (h0_0.map Qad)),.p (iV o.2)]],[]⟩:=by
 intro p1 h0_0 h0_1 o h;unfold Qbz at h;refine CallOK.ofB mixed tbOk Qsy Tryz.func32 rfl (by kernel_rfl) (Nat.le_of_ble_eq_true rfl) rfl rfl rfl ?_;refine Qah _ _ h (fun x1 hy=>((Qce h0_0 h0_1 x1 hy).fr [0] [] rfl rfl rfl)) (fun x1 hy h=>?_);refine Qaf h (fun hb h=>?_) (fun hb h=>?_)
 ·refine Exists.intro _ (And.intro (Le.refl _ _ _) ?_);exact Qbd (t:=Qho) (ss:=fun o=>⟨[[.p (.sl false (h0_0.map Qad)),.p (iV o.2)]],[]⟩) h ⟨[],rfl,.refl _,.refl _,rfl⟩
 ·refine Exists.intro _ (And.intro (Le.refl _ _ _) ?_);exact Qbd (t:=Qho) (ss:=fun o=>⟨[[.p (.sl false (h0_0.map Qad)),.p (iV o.2)]],[]⟩) h ⟨[],rfl,.refl _,.refl _,rfl⟩
def Qa4 (p1:Bool) (h0_0:(List Qaa)) (h0_1:Int):Option ((Unit)⊕(Unit)) :=
 some (Qxq p1)
theorem Qbh:∀ (p1:Bool) (h0_0:(List Qaa)) (h0_1:Int) (o:(Unit)⊕(Unit)),Qa4 p1 h0_0 h0_1=some o→CallS Tryz.prog 36 [.ptr 0 0,.p (bV p1)] ⟨[[.p (.sl false (h0_0.map Qad)),.p (iV h0_1)]],[]⟩ Quc (fun(o:Unit)=>⟨[[.p (.sl false (h0_0.map Qad)),.p (iV h0_1)]],[]⟩) (fun(o:Unit)=>⟨[[.p (.sl false (h0_0.map Qad)),.p (iV h0_1)]],[]⟩) o:=by
 intro p1 h0_0 h0_1 o h;unfold Qa4 at h;cases h;exact Qakb _ _ _ _ rfl _ rfl
def Qau (p1:Int) (h0_0:(List Qaa)) (h0_1:Int):Option ((Qaa×Int)⊕(Unit)) :=
 Qbj h0_0 h0_1>>=fun x1 =>
 Qa4 (x1.Kind==p1) h0_0 h0_1>>=fun o3 =>
 match o3 with
 | .inl x2 =>
  some (.inl (x1,(wr (h0_1+1))))
 | .inr z4 =>
  some (.inr ())
theorem Qam:∀ (p1:Int) (h0_0:(List Qaa)) (h0_1:Int) (o:(Qaa×Int)⊕(Unit)),Qau p1 h0_0 h0_1=some o→CallS Tryz.prog 33 [.ptr 0 0,.p (iV p1)] ⟨[[.p (.sl false (h0_0.map Qad)),.p (iV h0_1)]],[]⟩ Qmc (fun(o:Qaa×Int)=>⟨[[.p (.sl false (h0_0.map Qad)),.p (iV o.2)]],[]⟩) (fun(o:Unit)=>⟨[[.p (.sl false (h0_0.map Qad)),.p (iV h0_1)]],[]⟩) o:=by
 intro p1 h0_0 h0_1 o h;unfold Qau at h;refine CallS.ofB mixed tbOk Qs0 Tryz.func33 rfl (by kernel_rfl) (Nat.le_of_ble_eq_true rfl) (fun _=>rfl) (fun _=>rfl) (fun _=>rfl) (fun _=>rfl) (fun _=>rfl) ?_;refine Qah _ _ h (fun x1 hy=>((Qce h0_0 h0_1 x1 hy).fr [0] [] rfl rfl rfl)) (fun x1 hy h=>?_);refine xle ?_;refine Qbk _ _ _ h (fun x2 hy=>(Qbh (x1.Kind==p1) h0_0 h0_1 (.inl x2) hy).a.fr [0] [] rfl rfl rfl) (fun z4 hy=>(Qbh (x1.Kind==p1) h0_0 h0_1 (.inr z4) hy).b.fr [0] [] rfl rfl rfl) (fun x2 hy h=>?_) (fun z4 hy h=>?_)
 ·refine Exists.intro _ (And.intro (Le.refl _ _ _) ?_);exact Qem (t:=Qmc) (ss:=fun(o:Qaa×Int)=>⟨[[.p (.sl false (h0_0.map Qad)),.p (iV o.2)]],[]⟩) h ⟨[],rfl,.refl _,.refl _,rfl⟩
 ·refine xle ?_;exact Qco (sp:=fun(o:Unit)=>⟨[[.p (.sl false (h0_0.map Qad)),.p (iV h0_1)]],[]⟩) h ⟨[],rfl,.refl _,.refl _,rfl⟩
instance Q2d:Lean.Order.CCPO ((List Qab)→(List Qab)→(List Qab)→Option ((Int×Int×(List UInt8)×(List UInt8)×Int×(List Qab)×(List Qab)×(List Qab))⊕(Int×Int×(List UInt8)×(List UInt8)×Int×(List Qab)×(List Qab)×(List Qab)))):=inferInstance
instance Q2e:Lean.Order.CCPO ((List UInt8)→(List UInt8)→Int→(List Qab)→(List Qab)→(List Qab)→Option ((Int×Int×(List UInt8)×(List UInt8)×Int×(List Qab)×(List Qab)×(List Qab))⊕(Int×Int×(List UInt8)×(List UInt8)×Int×(List Qab)×(List Qab)×(List Qab)))):=inferInstance
def Qcf (h0_0:(List Qaa)) (h0_1_:Int) (h2_0:Int) (h2_1:(List UInt8)) (h2_2:(List UInt8)) (h2_3:Int) (h2_4:(List Qab)) (h2_5:(List Qab)) (h2_6:(List Qab)):Option ((Int×Int×(List UInt8)×(List UInt8)×Int×(List Qab)×(List Qab)×(List Qab))⊕(Int×Int×(List UInt8)×(List UInt8)×Int×(List Qab)×(List Qab)×(List Qab))) :=
 Qbz 7 h0_0 h0_1_>>=fun x7 =>
 if x7.1 then
  Qau 4 h0_0 x7.2>>=fun o9 =>
  match o9 with
  | .inl x8 =>
   Qcf h0_0 x8.2 5 x8.1.Text [] 0 [(Qab.mk h2_0 h2_1 h2_2 h2_3 h2_4 h2_5 h2_6)] [] []
  | .inr z10 =>
   some (.inr (x7.2,h2_0,h2_1,h2_2,h2_3,h2_4,h2_5,h2_6))
 else
  some (.inl (x7.2,h2_0,h2_1,h2_2,h2_3,h2_4,h2_5,h2_6))
 partial_fixpoint
theorem Q2f:∀ (h0_0:(List Qaa)),(∀ (h0_1_:Int) (h2_0:Int) (h2_1:(List UInt8)) (h2_2:(List UInt8)) (h2_3:Int) (h2_4:(List Qab)) (h2_5:(List Qab)) (h2_6:(List Qab)) (o4:(Int×Int×(List UInt8)×(List UInt8)×Int×(List Qab)×(List Qab)×(List Qab))⊕(Int×Int×(List UInt8)×(List UInt8)×Int×(List Qab)×(List Qab)×(List Qab))),Qcf h0_0 h0_1_ h2_0 h2_1 h2_2 h2_3 h2_4 h2_5 h2_6=some o4→TL (1,0) Tryz.prog 15 Qp7 (JP2 (1,0) 15 o4 (.exit 0) (Qix h0_0) (.panic Qi9) (Qiy h0_0)) (Qe4 h0_0 h0_1_ h2_0 h2_1 h2_2 h2_3 h2_4 h2_5 h2_6)):=by
 intro h0_0;refine Qcf.partial_correctness h0_0 _ ?_;intro Qcf' iQcf h0_1_ h2_0 h2_1 h2_2 h2_3 h2_4 h2_5 h2_6 o4 h;refine TL.round (Qan mixed tbOk (lv:=Qk9) _ _ _ ?_);refine Qah _ _ h (fun x7 hy=>((Qc1 7 h0_0 h0_1_ x7 hy).fr [0] [] rfl rfl rfl)) (fun x7 hy h=>?_);refine Qaf h (fun hb h=>?_) (fun hb h=>?_)
 ·refine xle ?_;refine Qah4 h (fun x8 hy h=>?_) (fun z10 hy h=>?_)
  ·refine And.intro (by decide +kernel) (And.intro rfl ?_);refine Exists.intro _ (Exists.intro _ (And.intro ((Qam 4 h0_0 x7.2 (.inl x8) hy).a.fg [0] [] rfl rfl rfl (Nat.le_of_ble_eq_true rfl)) ?_));refine TL.le (τ := Qe4 h0_0 x8.2 5 x8.1.Text [] 0 [(Qab.mk h2_0 h2_1 h2_2 h2_3 h2_4 h2_5 h2_6)] [] []) ?_ ((iQcf x8.2 5 x8.1.Text [] 0 [(Qab.mk h2_0 h2_1 h2_2 h2_3 h2_4 h2_5 h2_6)] [] [] _ h));exact Le.tow 3 0 rfl (.cons rfl (.refl _) (.cons rfl (.refl _) (.cons rfl (.refl _) (.nil)))) (.cons (.refl _) (.cons (.refl _) (.cons (.cons (.refl _) (.cons (.refl _) (.cons (.refl _) (.cons (.refl _) (.cons (.p (.no (.cons (.ceq (Qai _) (.refl _)) (.nil)))) (.cons (.p (.not)) (.cons (.p (.not)) (.nil)))))))) (.nil)))) rfl
  ·refine Exists.intro ((.op 0 (.pan 1 (.op 3 (.pan 1 (.op 4 (.pan 1 (.nil)) (.nil))) (.nil))) (.op 3 (.op 0 (.pan 1 (.op 4 (.pan 1 (.nil)) (.nil))) (.op 4 (.op 0 (.pan 1 (.nil)) (.nil)) (.nil))) (.nil)):PT)) (And.intro (by decide +kernel) ?_);refine And.intro (And.intro ?_ (And.intro (And.intro ?_ (And.intro (And.intro ?_ (trivial)) (trivial))) (trivial))) (And.intro (And.intro (And.intro ?_ (And.intro (And.intro ?_ (trivial)) (trivial))) (And.intro (And.intro (And.intro ?_ (trivial)) (trivial)) (trivial))) (trivial))
   all_goals
    refine Or.inr (Exists.intro _ (And.intro ((Qam 4 h0_0 x7.2 (.inr z10) hy).b.fr [0] [] rfl rfl rfl) ?_));exact JP2.b h (Le.tz 3 0 rfl rfl rfl)
 ·exact JP2.a h (Le.tz 3 0 rfl rfl rfl)
def Qrj (p0:(List UInt8)):Option (Bool) :=
 ( if(p0==[105,102]) then
   some (p0==[105,102])
  else
   if(p0==[101,108,115,101]) then
    some (p0==[101,108,115,101])
   else
    if(p0==[101,110,100]) then
     some (p0==[101,110,100])
    else
     if(p0==[101,97,99,104]) then
      some (p0==[101,97,99,104])
     else
      if(p0==[105,110]) then
       some (p0==[105,110])
      else
       if(p0==[108,101,116]) then
        some (p0==[108,101,116])
       else
        if(p0==[117,115,101]) then
         some (p0==[117,115,101])
        else
         if(p0==[116,114,117,101]) then
          some (p0==[116,114,117,101])
         else
          if(p0==[102,97,108,115,101]) then
           some (p0==[102,97,108,115,101])
          else
           some (p0==[115,101,99,114,101,116]):Option (Bool))>>=fun o1 =>
 if o1 then
  some false
 else
  Qna p0>>=fun x2 =>
  some x2
theorem Q7y:∀ (p0:(List UInt8)) (o:Bool),Qrj p0=some o→PCall Tryz.prog 93 [sV p0] (Qo4 o):=by
 intro p0 o h;unfold Qrj at h;refine PCall.ofB mixed tbOk Q7j Tryz.func93 rfl (by kernel_rfl) (Nat.le_of_ble_eq_true rfl) ?_;refine Qag h (fun o1 ho hk=>?_);refine Exists.intro (JP1 _ _ o1 .normal (Q1n p0)) (And.intro ?_ (Qa5 ?_))
 ·have h:=ho;refine Qaf h (fun hb h=>?_) (fun hb h=>?_)
  ·refine JP1.a h ?_;exact Le.tz 0 0 rfl rfl rfl
  ·refine Qaf h (fun hb h=>?_) (fun hb h=>?_)
   ·refine JP1.a h ?_;exact Le.tz 0 0 rfl rfl rfl
   ·refine Qaf h (fun hb h=>?_) (fun hb h=>?_)
    ·refine JP1.a h ?_;exact Le.tz 0 0 rfl rfl rfl
    ·refine Qaf h (fun hb h=>?_) (fun hb h=>?_)
     ·refine JP1.a h ?_;exact Le.tz 0 0 rfl rfl rfl
     ·refine Qaf h (fun hb h=>?_) (fun hb h=>?_)
      ·refine JP1.a h ?_;exact Le.tz 0 0 rfl rfl rfl
      ·refine Qaf h (fun hb h=>?_) (fun hb h=>?_)
       ·refine JP1.a h ?_;exact Le.tz 0 0 rfl rfl rfl
       ·refine Qaf h (fun hb h=>?_) (fun hb h=>?_)
        ·refine JP1.a h ?_;exact Le.tz 0 0 rfl rfl rfl
        ·refine Qaf h (fun hb h=>?_) (fun hb h=>?_)
         ·refine JP1.a h ?_;exact Le.tz 0 0 rfl rfl rfl
         ·refine Qaf h (fun hb h=>?_) (fun hb h=>?_)
          ·refine JP1.a h ?_;exact Le.tz 0 0 rfl rfl rfl
          ·refine JP1.a h ?_;exact Le.tz 0 0 rfl rfl rfl
 ·have h:=hk;refine Qaf h (fun hb h=>?_) (fun hb h=>?_)
  ·refine Qao (t:=Qo4) h ?_;exact .refl _
  ·refine Qak [sV p0] Qlq h (fun x2 hy=>(Quj p0 x2 hy)) (fun x2 hy h=>?_);refine Qao (t:=Qo4) h ?_;exact .refl _
def Qct (h0_0:(List Qaa)) (h0_1:Int):Option (((List UInt8)×Int)⊕(Unit)) :=
 Qbj h0_0 h0_1>>=fun x1 =>
 Qrj x1.Text>>=fun x2 =>
 Qa4 x2 h0_0 h0_1>>=fun o4 =>
 match o4 with
 | .inl x3 =>
  Qau 4 h0_0 h0_1>>=fun o7 =>
  match o7 with
  | .inl x6 =>
   some (.inl (x6.1.Text,x6.2))
  | .inr z8 =>
   some (.inr ())
 | .inr z5 =>
  some (.inr ())
theorem Qb1:∀ (h0_0:(List Qaa)) (h0_1:Int) (o:((List UInt8)×Int)⊕(Unit)),Qct h0_0 h0_1=some o→CallS Tryz.prog 58 [.ptr 0 0] ⟨[[.p (.sl false (h0_0.map Qad)),.p (iV h0_1)]],[]⟩ Qmb (fun(o:(List UInt8)×Int)=>⟨[[.p (.sl false (h0_0.map Qad)),.p (iV o.2)]],[]⟩) (fun(o:Unit)=>⟨[[.p (.sl false (h0_0.map Qad)),.p (iV h0_1)]],[]⟩) o:=by
 intro h0_0 h0_1 o h;unfold Qct at h;refine CallS.ofB mixed tbOk Qsw Tryz.func58 rfl (by kernel_rfl) (Nat.le_of_ble_eq_true rfl) (fun _=>rfl) (fun _=>rfl) (fun _=>rfl) (fun _=>rfl) (fun _=>rfl) ?_;refine xle ?_;refine Qah _ _ h (fun x1 hy=>((Qce h0_0 h0_1 x1 hy).fr [0] [] rfl rfl rfl)) (fun x1 hy h=>?_);refine Qak [sV x1.Text] Qo4 h (fun x2 hy=>(Q7y x1.Text x2 hy)) (fun x2 hy h=>?_);refine Qbk _ _ _ h (fun x3 hy=>(Qbh x2 h0_0 h0_1 (.inl x3) hy).a.fr [0] [] rfl rfl rfl) (fun z5 hy=>(Qbh x2 h0_0 h0_1 (.inr z5) hy).b.fr [0] [] rfl rfl rfl) (fun x3 hy h=>?_) (fun z5 hy h=>?_)
 ·refine xle ?_;refine Qbk _ _ _ h (fun x6 hy=>(Qam 4 h0_0 h0_1 (.inl x6) hy).a.fr [0] [] rfl rfl rfl) (fun z8 hy=>(Qam 4 h0_0 h0_1 (.inr z8) hy).b.fr [0] [] rfl rfl rfl) (fun x6 hy h=>?_) (fun z8 hy h=>?_)
  ·refine Exists.intro _ (And.intro (Le.refl _ _ _) ?_);exact Qem (t:=Qmb) (ss:=fun(o:(List UInt8)×Int)=>⟨[[.p (.sl false (h0_0.map Qad)),.p (iV o.2)]],[]⟩) h ⟨[],rfl,.refl _,.refl _,rfl⟩
  ·refine xle ?_;exact Qco (sp:=fun(o:Unit)=>⟨[[.p (.sl false (h0_0.map Qad)),.p (iV h0_1)]],[]⟩) h ⟨[],rfl,.refl _,.refl _,rfl⟩
 ·refine xle ?_;exact Qco (sp:=fun(o:Unit)=>⟨[[.p (.sl false (h0_0.map Qad)),.p (iV h0_1)]],[]⟩) h ⟨[],rfl,.refl _,.refl _,rfl⟩
def Qaz (p1:(List UInt8)) (h0_0:(List Qaa)) (h0_1:Int):Option (Bool×Int) :=
 Qbj h0_0 h0_1>>=fun x1 =>
 ( if(x1.Kind != 4) then
   some true
  else
   some (!(x1.Text==p1)):Option (Bool))>>=fun o2 =>
 if o2 then
  some (false,h0_1)
 else
  some (true,(wr (h0_1+1)))
theorem Qbi:∀ (p1:(List UInt8)) (h0_0:(List Qaa)) (h0_1:Int) (o:Bool×Int),Qaz p1 h0_0 h0_1=some o→CallOK Tryz.prog 34 [.ptr 0 0,.p (sV p1)] ⟨[[.p (.sl false (h0_0.map Qad)),.p (iV h0_1)]],[]⟩ (Qhp o) ⟨[[.p (.sl false (h0_0.map Qad)),.p (iV o.2)]],[]⟩:=by
 intro p1 h0_0 h0_1 o h;unfold Qaz at h;refine CallOK.ofB mixed tbOk Qs1 Tryz.func34 rfl (by kernel_rfl) (Nat.le_of_ble_eq_true rfl) rfl rfl rfl ?_;refine Qah _ _ h (fun x1 hy=>((Qce h0_0 h0_1 x1 hy).fr [0] [] rfl rfl rfl)) (fun x1 hy h=>?_);refine Qag h (fun o2 ho hk=>?_);refine Exists.intro (JP1 _ _ o2 .normal (Qp8 h0_0 h0_1 x1)) (And.intro ?_ (Qa5 ?_))
 ·have h:=ho;refine Qaf h (fun hb h=>?_) (fun hb h=>?_)
  ·refine JP1.a h ?_;exact Le.tz 2 0 rfl rfl rfl
  ·refine JP1.a h ?_;exact Le.tz 2 0 rfl rfl rfl
 ·have h:=hk;refine Qaf h (fun hb h=>?_) (fun hb h=>?_)
  ·refine Exists.intro _ (And.intro (Le.refl _ _ _) ?_);exact Qbd (t:=Qhp) (ss:=fun o=>⟨[[.p (.sl false (h0_0.map Qad)),.p (iV o.2)]],[]⟩) h ⟨[],rfl,.refl _,.refl _,rfl⟩
  ·refine Exists.intro _ (And.intro (Le.refl _ _ _) ?_);exact Qbd (t:=Qhp) (ss:=fun o=>⟨[[.p (.sl false (h0_0.map Qad)),.p (iV o.2)]],[]⟩) h ⟨[],rfl,.refl _,.refl _,rfl⟩
mutual
def Qeq (h0_0:(List Qaa)) (h0_1:Int):Option (((List Qab)×Int)⊕(Int)) :=
 Qbz 9 h0_0 h0_1>>=fun x1 =>
 if x1.1 then
  some (.inl ([],x1.2))
 else
  Qcu h0_0 x1.2>>=fun o3 =>
  match o3 with
  | .inl x2 =>
   (Qb2 h0_0 [x2.1] x2.2)>>=fun o5 =>
   match o5 with
   | .inl y6 =>
    Qau 9 h0_0 y6.2>>=fun o15 =>
    match o15 with
    | .inl x14 =>
     some (.inl (y6.1,x14.2))
    | .inr z16 =>
     some (.inr y6.2)
   | .inr y7 =>
    some (.inr y7)
  | .inr z4 =>
   some (.inr z4)
 partial_fixpoint
def Qb2 (h0_0:(List Qaa)) (v3:(List Qab)) (h0_1_:Int):Option (((List Qab)×Int)⊕Int) :=
 ( if(decide ((v3.length:Int)<3)) then
   Qbz 10 h0_0 h0_1_>>=fun x9 =>
   some (x9.1,x9.2)
  else
   some (false,h0_1_):Option ((Bool×Int)))>>=fun o8 =>
 if o8.1 then
  Qcu h0_0 o8.2>>=fun o11 =>
  match o11 with
  | .inl x10 =>
   appL 120 v3 [x10.1]>>=fun x13 =>
   Qb2 h0_0 x13 x10.2
  | .inr z12 =>
   some (.inr z12)
 else
  some (.inl (v3,o8.2))
 partial_fixpoint
def Qcu (h0_0:(List Qaa)) (h0_1:Int):Option ((Qab×Int)⊕(Int)) :=
 Qf2 h0_0 h0_1>>=fun o2 =>
 match o2 with
 | .inl x1 =>
  (Qcf h0_0 x1.2 x1.1.Kind x1.1.Name x1.1.Text x1.1.N x1.1.L x1.1.Then x1.1.Else)>>=fun o4 =>
  match o4 with
  | .inl y5 =>
   some (.inl ((Qab.mk y5.2.1 y5.2.2.1 y5.2.2.2.1 y5.2.2.2.2.1 y5.2.2.2.2.2.1 y5.2.2.2.2.2.2.1 y5.2.2.2.2.2.2.2),y5.1))
  | .inr y6 =>
   some (.inr y6.1)
 | .inr z3 =>
  some (.inr z3)
 partial_fixpoint
def Qf2 (h0_0:(List Qaa)) (h0_1:Int):Option ((Qab×Int)⊕(Int)) :=
 Qbj h0_0 h0_1>>=fun x1 =>
 if(x1.Kind==5) then
  some (.inl ((Qab.mk 1 [] x1.Text 0 [] [] []),(wr (h0_1+1))))
 else
  if(x1.Kind==6) then
   some (.inl ((Qab.mk 2 [] [] x1.N [] [] []),(wr (h0_1+1))))
  else
   Qaz [116,114,117,101] h0_0 h0_1>>=fun x2 =>
   if x2.1 then
    some (.inl ((Qab.mk 3 [] [] 1 [] [] []),x2.2))
   else
    Qaz [102,97,108,115,101] h0_0 x2.2>>=fun x3 =>
    if x3.1 then
     some (.inl ((Qab.mk 3 [] [] 0 [] [] []),x3.2))
    else
     Qaz [115,101,99,114,101,116] h0_0 x3.2>>=fun x4 =>
     if x4.1 then
      Qau 8 h0_0 x4.2>>=fun o6 =>
      match o6 with
      | .inl x5 =>
       Qbj h0_0 x5.2>>=fun x8 =>
       Qna x8.Text>>=fun x9 =>
       Qa4 x9 h0_0 x5.2>>=fun o11 =>
       match o11 with
       | .inl x10 =>
        Qau 5 h0_0 x5.2>>=fun o14 =>
        match o14 with
        | .inl x13 =>
         Qau 9 h0_0 x13.2>>=fun o17 =>
         match o17 with
         | .inl x16 =>
          some (.inl ((Qab.mk 7 x13.1.Text [] 0 [] [] []),x16.2))
         | .inr z18 =>
          some (.inr x13.2)
        | .inr z15 =>
         some (.inr x5.2)
       | .inr z12 =>
        some (.inr x5.2)
      | .inr z7 =>
       some (.inr x4.2)
     else
      Qct h0_0 x4.2>>=fun o20 =>
      match o20 with
      | .inl x19 =>
       Qbz 8 h0_0 x19.2>>=fun x22 =>
       if x22.1 then
        Qeq h0_0 x22.2>>=fun o24 =>
        match o24 with
        | .inl x23 =>
         some (.inl ((Qab.mk 6 x19.1 [] 0 x23.1 [] []),x23.2))
        | .inr z25 =>
         some (.inr z25)
       else
        some (.inl ((Qab.mk 4 x19.1 [] 0 [] [] []),x22.2))
      | .inr z21 =>
       some (.inr x4.2)
 partial_fixpoint
end
theorem Qrk:∀ (h0_0:(List Qaa)),(∀ (h0_1:Int) (o:((List Qab)×Int)⊕(Int)),Qeq h0_0 h0_1=some o→CallS Tryz.prog 120 [.ptr 0 0] ⟨[[.p (.sl false (h0_0.map Qad)),.p (iV h0_1)]],[]⟩ Qhl (fun(o:(List Qab)×Int)=>⟨[[.p (.sl false (h0_0.map Qad)),.p (iV o.2)]],[]⟩) (fun(o:Int)=>⟨[[.p (.sl false (h0_0.map Qad)),.p (iV o)]],[]⟩) o)∧(∀ (v3:(List Qab)) (h0_1_:Int) (o5:((List Qab)×Int)⊕Int),Qb2 h0_0 v3 h0_1_=some o5→TL (1,0) Tryz.prog 24 Qp5 (JP2 (1,0) 24 o5 (.exit 0) (Qiu h0_0) (.panic Qi9) (Qiv h0_0)) (Qe3 h0_0 v3 h0_1_))∧(∀ (h0_1:Int) (o:(Qab×Int)⊕(Int)),Qcu h0_0 h0_1=some o→CallS Tryz.prog 92 [.ptr 0 0] ⟨[[.p (.sl false (h0_0.map Qad)),.p (iV h0_1)]],[]⟩ Qhm (fun(o:Qab×Int)=>⟨[[.p (.sl false (h0_0.map Qad)),.p (iV o.2)]],[]⟩) (fun(o:Int)=>⟨[[.p (.sl false (h0_0.map Qad)),.p (iV o)]],[]⟩) o)∧(∀ (h0_1:Int) (o:(Qab×Int)⊕(Int)),Qf2 h0_0 h0_1=some o→CallS Tryz.prog 111 [.ptr 0 0] ⟨[[.p (.sl false (h0_0.map Qad)),.p (iV h0_1)]],[]⟩ Qb0 (fun(o:Qab×Int)=>⟨[[.p (.sl false (h0_0.map Qad)),.p (iV o.2)]],[]⟩) (fun(o:Int)=>⟨[[.p (.sl false (h0_0.map Qad)),.p (iV o)]],[]⟩) o):=by
 intro h0_0;refine Qeq.mutual_partial_correctness h0_0 _ _ _ _ ?_ ?_ ?_ ?_
 ·intro Qb2' Qcu' iQb2 iQcu h0_1 o h;refine CallS.ofB mixed tbOk Qk8 Tryz.func120 rfl (by kernel_rfl) (Nat.le_of_ble_eq_true rfl) (fun _=>rfl) (fun _=>rfl) (fun _=>rfl) (fun _=>rfl) (fun _=>rfl) ?_;refine Qah _ _ h (fun x1 hy=>((Qc1 9 h0_0 h0_1 x1 hy).fr [0] [] rfl rfl rfl)) (fun x1 hy h=>?_);refine Qaf h (fun hb h=>?_) (fun hb h=>?_)
  ·refine Exists.intro _ (And.intro (Le.refl _ _ _) ?_);exact Qem (t:=Qhl) (ss:=fun(o:(List Qab)×Int)=>⟨[[.p (.sl false (h0_0.map Qad)),.p (iV o.2)]],[]⟩) h ⟨[],rfl,.p (.not),.refl _,rfl⟩
  ·refine xle ?_;refine Qbk _ _ _ h (fun x2 hy=>(iQcu x1.2 (.inl x2) hy).a.fr [0] [] rfl rfl rfl) (fun z4 hy=>(iQcu x1.2 (.inr z4) hy).b.fr [0] [] rfl rfl rfl) (fun x2 hy h=>?_) (fun z4 hy h=>?_)
   ·refine Qag h (fun o5 ho hk=>?_);refine Exists.intro (JP2 _ _ o5 (.exit 0) (Qiu h0_0) (.panic Qi9) (Qiv h0_0)) (And.intro (Qnx (τ := Qe3 h0_0 [x2.1] x2.2) ?_ (TL.loop (iQb2 [x2.1] x2.2 o5 ho))) (Qlx (fun y6 hy=>?_) (fun y7 hy=>?_)))
    ·exact Le.trans (τ := ⟨[(0,.ptr 0 0),(3,.p (.sl true ([x2.1].map Qae)))],⟨[[.p (.sl false (h0_0.map Qad)),.p (iV x2.2)]],[]⟩⟩) (Le.tow 1 0 rfl (.cons rfl (.refl _) (.cons rfl (.p (.sl' (fun h=>h) (.cons (.ceq (Qai _) (.refl _)) (.nil)))) (.nil))) (.refl _) rfl) ((Le.ownW 3 37 7 rfl (Q3a fun x=>by rw[Qai]; rfl)).trans (Le.tz 1 1 rfl rfl rfl))
    ·have h:=(by rw[hy] at hk; exact hk);refine xle ?_;refine Qbk _ _ _ h (fun x14 hy=>(Qam 9 h0_0 y6.2 (.inl x14) hy).a.fr [0] [] rfl rfl rfl) (fun z16 hy=>(Qam 9 h0_0 y6.2 (.inr z16) hy).b.fr [0] [] rfl rfl rfl) (fun x14 hy h=>?_) (fun z16 hy h=>?_)
     ·refine Exists.intro _ (And.intro (Le.refl _ _ _) ?_);exact Qem (t:=Qhl) (ss:=fun(o:(List Qab)×Int)=>⟨[[.p (.sl false (h0_0.map Qad)),.p (iV o.2)]],[]⟩) h ⟨[],rfl,.refl _,.refl _,rfl⟩
     ·refine xle ?_;exact Qco (sp:=fun(o:Int)=>⟨[[.p (.sl false (h0_0.map Qad)),.p (iV o)]],[]⟩) h ⟨[],rfl,.refl _,.refl _,rfl⟩
    ·have h:=(by rw[hy] at hk; exact hk);refine xle ?_;exact Qco (sp:=fun(o:Int)=>⟨[[.p (.sl false (h0_0.map Qad)),.p (iV o)]],[]⟩) h ⟨[],rfl,.refl _,.refl _,rfl⟩
   ·refine xle ?_;exact Qco (sp:=fun(o:Int)=>⟨[[.p (.sl false (h0_0.map Qad)),.p (iV o)]],[]⟩) h ⟨[],rfl,.refl _,.refl _,rfl⟩
 ·intro Qb2' Qcu' iQb2 iQcu v3 h0_1_ o5 h;refine TL.round (Qan mixed tbOk (lv:=Qk8) _ _ _ ?_);refine Qag h (fun o8 ho hk=>?_);refine Exists.intro (JP1 _ _ o8 .normal (Qp4 h0_0 v3)) (And.intro ?_ (Qa5 ?_))
  ·have h:=ho;refine view (Qaw _ _) rfl ?_;refine Qaf h (fun hb h=>?_) (fun hb h=>?_)
   ·refine Qah _ _ h (fun x9 hy=>((Qc1 10 h0_0 h0_1_ x9 hy).fr [0] [] rfl rfl rfl)) (fun x9 hy h=>?_);refine JP1.a h ?_;exact Le.tz 1 1 rfl rfl rfl
   ·refine JP1.a h ?_;exact Le.tz 1 1 rfl rfl rfl
  ·have h:=hk;refine Qaf h (fun hb h=>?_) (fun hb h=>?_)
   ·refine xle ?_;refine Qbk _ _ _ h (fun x10 hy=>(iQcu o8.2 (.inl x10) hy).a.fr [0] [] rfl rfl rfl) (fun z12 hy=>(iQcu o8.2 (.inr z12) hy).b.fr [0] [] rfl rfl rfl) (fun x10 hy h=>?_) (fun z12 hy h=>?_)
    ·refine Qqj (a:=v3) (b:=[x10.1]) (c:=Qae) h (.cons (.ceq (Qai _) (.refl _)) (.nil)) (fun x=>by rw[Qai]; rfl) rfl (fun x13 hi h=>?_);refine TL.le (τ := Qe3 h0_0 x13 x10.2) ?_ ((iQb2 x13 x10.2 _ h));exact Le.tz 1 1 rfl rfl rfl
    ·exact JP2.b h (Le.tz 1 0 rfl rfl rfl)
   ·exact JP2.a h (Le.tz 1 1 rfl rfl rfl)
 ·intro Qf2' iQf2 h0_1 o h;refine CallS.ofB mixed tbOk Qk9 Tryz.func92 rfl (by kernel_rfl) (Nat.le_of_ble_eq_true rfl) (fun _=>rfl) (fun _=>rfl) (fun _=>rfl) (fun _=>rfl) (fun _=>rfl) ?_;refine xle ?_;refine Qbk _ _ _ h (fun x1 hy=>(iQf2 h0_1 (.inl x1) hy).a.fr [0] [] rfl rfl rfl) (fun z3 hy=>(iQf2 h0_1 (.inr z3) hy).b.fr [0] [] rfl rfl rfl) (fun x1 hy h=>?_) (fun z3 hy h=>?_)
  ·refine Qag h (fun o4 ho hk=>?_);refine Exists.intro (JP2 _ _ o4 (.exit 0) (Qix h0_0) (.panic Qi9) (Qiy h0_0)) (And.intro (Qnx (τ := Qe4 h0_0 x1.2 x1.1.Kind x1.1.Name x1.1.Text x1.1.N x1.1.L x1.1.Then x1.1.Else) ?_ (TL.loop (Q2f h0_0 x1.2 x1.1.Kind x1.1.Name x1.1.Text x1.1.N x1.1.L x1.1.Then x1.1.Else o4 ho))) (Qlx (fun y5 hy=>?_) (fun y6 hy=>?_)))
   ·exact Le.tz 3 0 rfl rfl rfl
   ·have h:=(by rw[hy] at hk; exact hk);refine Exists.intro _ (And.intro (Le.refl _ _ _) ?_);exact Qem (t:=Qhm) (ss:=fun(o:Qab×Int)=>⟨[[.p (.sl false (h0_0.map Qad)),.p (iV o.2)]],[]⟩) h ⟨[],rfl,.refl _,.refl _,rfl⟩
   ·have h:=(by rw[hy] at hk; exact hk);refine xle ?_;exact Qco (sp:=fun(o:Int)=>⟨[[.p (.sl false (h0_0.map Qad)),.p (iV o)]],[]⟩) h ⟨[],rfl,.refl _,.refl _,rfl⟩
  ·refine xle ?_;exact Qco (sp:=fun(o:Int)=>⟨[[.p (.sl false (h0_0.map Qad)),.p (iV o)]],[]⟩) h ⟨[],rfl,.refl _,.refl _,rfl⟩
 ·intro Qeq' iQeq h0_1 o h;refine CallS.ofB mixed tbOk Qra Tryz.func111 rfl (by kernel_rfl) (Nat.le_of_ble_eq_true rfl) (fun _=>rfl) (fun _=>rfl) (fun _=>rfl) (fun _=>rfl) (fun _=>rfl) ?_;refine Qah _ _ h (fun x1 hy=>((Qce h0_0 h0_1 x1 hy).fr [0] [] rfl rfl rfl)) (fun x1 hy h=>?_);refine Qaf h (fun hb h=>?_) (fun hb h=>?_)
  ·refine Exists.intro _ (And.intro (Le.refl _ _ _) ?_);exact Qem (t:=Qb0) (ss:=fun(o:Qab×Int)=>⟨[[.p (.sl false (h0_0.map Qad)),.p (iV o.2)]],[]⟩) h ⟨[],rfl,.p (.agg' (.cons (.refl _) (.cons (.refl _) (.cons (.refl _) (.cons (.refl _) (.cons (.not) (.cons (.not) (.cons (.not) (.nil))))))))),.refl _,rfl⟩
  ·refine Qaf h (fun hb h=>?_) (fun hb h=>?_)
   ·refine Exists.intro _ (And.intro (Le.refl _ _ _) ?_);exact Qem (t:=Qb0) (ss:=fun(o:Qab×Int)=>⟨[[.p (.sl false (h0_0.map Qad)),.p (iV o.2)]],[]⟩) h ⟨[],rfl,.p (.agg' (.cons (.refl _) (.cons (.refl _) (.cons (.refl _) (.cons (.refl _) (.cons (.not) (.cons (.not) (.cons (.not) (.nil))))))))),.refl _,rfl⟩
   ·refine Qah _ _ h (fun x2 hy=>((Qbi [116,114,117,101] h0_0 h0_1 x2 hy).fr [0] [] rfl rfl rfl)) (fun x2 hy h=>?_);refine Qaf h (fun hb h=>?_) (fun hb h=>?_)
    ·refine Exists.intro _ (And.intro (Le.refl _ _ _) ?_);exact Qem (t:=Qb0) (ss:=fun(o:Qab×Int)=>⟨[[.p (.sl false (h0_0.map Qad)),.p (iV o.2)]],[]⟩) h ⟨[],rfl,.p (.agg' (.cons (.refl _) (.cons (.refl _) (.cons (.refl _) (.cons (.refl _) (.cons (.not) (.cons (.not) (.cons (.not) (.nil))))))))),.refl _,rfl⟩
    ·refine Qah _ _ h (fun x3 hy=>((Qbi [102,97,108,115,101] h0_0 x2.2 x3 hy).fr [0] [] rfl rfl rfl)) (fun x3 hy h=>?_);refine Qaf h (fun hb h=>?_) (fun hb h=>?_)
     ·refine Exists.intro _ (And.intro (Le.refl _ _ _) ?_);exact Qem (t:=Qb0) (ss:=fun(o:Qab×Int)=>⟨[[.p (.sl false (h0_0.map Qad)),.p (iV o.2)]],[]⟩) h ⟨[],rfl,.p (.agg' (.cons (.refl _) (.cons (.refl _) (.cons (.refl _) (.cons (.refl _) (.cons (.not) (.cons (.not) (.cons (.not) (.nil))))))))),.refl _,rfl⟩
     ·refine Qah _ _ h (fun x4 hy=>((Qbi [115,101,99,114,101,116] h0_0 x3.2 x4 hy).fr [0] [] rfl rfl rfl)) (fun x4 hy h=>?_);refine Qaf h (fun hb h=>?_) (fun hb h=>?_)
      ·refine xle ?_;refine Qbk _ _ _ h (fun x5 hy=>(Qam 8 h0_0 x4.2 (.inl x5) hy).a.fr [0] [] rfl rfl rfl) (fun z7 hy=>(Qam 8 h0_0 x4.2 (.inr z7) hy).b.fr [0] [] rfl rfl rfl) (fun x5 hy h=>?_) (fun z7 hy h=>?_)
       ·refine xle ?_;refine Qah _ _ h (fun x8 hy=>((Qce h0_0 x5.2 x8 hy).fr [0] [] rfl rfl rfl)) (fun x8 hy h=>?_);refine Qak [sV x8.Text] Qlq h (fun x9 hy=>(Quj x8.Text x9 hy)) (fun x9 hy h=>?_);refine Qbk _ _ _ h (fun x10 hy=>(Qbh x9 h0_0 x5.2 (.inl x10) hy).a.fr [0] [] rfl rfl rfl) (fun z12 hy=>(Qbh x9 h0_0 x5.2 (.inr z12) hy).b.fr [0] [] rfl rfl rfl) (fun x10 hy h=>?_) (fun z12 hy h=>?_)
        ·refine xle ?_;refine Qbk _ _ _ h (fun x13 hy=>(Qam 5 h0_0 x5.2 (.inl x13) hy).a.fr [0] [] rfl rfl rfl) (fun z15 hy=>(Qam 5 h0_0 x5.2 (.inr z15) hy).b.fr [0] [] rfl rfl rfl) (fun x13 hy h=>?_) (fun z15 hy h=>?_)
         ·refine xle ?_;refine Qbk _ _ _ h (fun x16 hy=>(Qam 9 h0_0 x13.2 (.inl x16) hy).a.fr [0] [] rfl rfl rfl) (fun z18 hy=>(Qam 9 h0_0 x13.2 (.inr z18) hy).b.fr [0] [] rfl rfl rfl) (fun x16 hy h=>?_) (fun z18 hy h=>?_)
          ·refine Exists.intro _ (And.intro (Le.refl _ _ _) ?_);exact Qem (t:=Qb0) (ss:=fun(o:Qab×Int)=>⟨[[.p (.sl false (h0_0.map Qad)),.p (iV o.2)]],[]⟩) h ⟨[],rfl,.p (.agg' (.cons (.refl _) (.cons (.refl _) (.cons (.refl _) (.cons (.refl _) (.cons (.not) (.cons (.not) (.cons (.not) (.nil))))))))),.refl _,rfl⟩
          ·refine xle ?_;exact Qco (sp:=fun(o:Int)=>⟨[[.p (.sl false (h0_0.map Qad)),.p (iV o)]],[]⟩) h ⟨[],rfl,.refl _,.refl _,rfl⟩
         ·refine xle ?_;exact Qco (sp:=fun(o:Int)=>⟨[[.p (.sl false (h0_0.map Qad)),.p (iV o)]],[]⟩) h ⟨[],rfl,.refl _,.refl _,rfl⟩
        ·refine xle ?_;exact Qco (sp:=fun(o:Int)=>⟨[[.p (.sl false (h0_0.map Qad)),.p (iV o)]],[]⟩) h ⟨[],rfl,.refl _,.refl _,rfl⟩
       ·refine xle ?_;exact Qco (sp:=fun(o:Int)=>⟨[[.p (.sl false (h0_0.map Qad)),.p (iV o)]],[]⟩) h ⟨[],rfl,.refl _,.refl _,rfl⟩
      ·refine xle ?_;refine Qbk _ _ _ h (fun x19 hy=>(Qb1 h0_0 x4.2 (.inl x19) hy).a.fr [0] [] rfl rfl rfl) (fun z21 hy=>(Qb1 h0_0 x4.2 (.inr z21) hy).b.fr [0] [] rfl rfl rfl) (fun x19 hy h=>?_) (fun z21 hy h=>?_)
       ·refine Qah _ _ h (fun x22 hy=>((Qc1 8 h0_0 x19.2 x22 hy).fr [0] [] rfl rfl rfl)) (fun x22 hy h=>?_);refine Qaf h (fun hb h=>?_) (fun hb h=>?_)
        ·refine xle ?_;refine Qbk _ _ _ h (fun x23 hy=>(iQeq x22.2 (.inl x23) hy).a.fr [0] [] rfl rfl rfl) (fun z25 hy=>(iQeq x22.2 (.inr z25) hy).b.fr [0] [] rfl rfl rfl) (fun x23 hy h=>?_) (fun z25 hy h=>?_)
         ·refine Exists.intro _ (And.intro (Le.refl _ _ _) ?_);exact Qem (t:=Qb0) (ss:=fun(o:Qab×Int)=>⟨[[.p (.sl false (h0_0.map Qad)),.p (iV o.2)]],[]⟩) h ⟨[],rfl,.p (.agg' (.cons (.refl _) (.cons (.refl _) (.cons (.refl _) (.cons (.refl _) (.cons (.refl _) (.cons (.not) (.cons (.not) (.nil))))))))),.refl _,rfl⟩
         ·refine xle ?_;exact Qco (sp:=fun(o:Int)=>⟨[[.p (.sl false (h0_0.map Qad)),.p (iV o)]],[]⟩) h ⟨[],rfl,.refl _,.refl _,rfl⟩
        ·refine Exists.intro _ (And.intro (Le.refl _ _ _) ?_);exact Qem (t:=Qb0) (ss:=fun(o:Qab×Int)=>⟨[[.p (.sl false (h0_0.map Qad)),.p (iV o.2)]],[]⟩) h ⟨[],rfl,.p (.agg' (.cons (.refl _) (.cons (.refl _) (.cons (.refl _) (.cons (.refl _) (.cons (.not) (.cons (.not) (.cons (.not) (.nil))))))))),.refl _,rfl⟩
       ·refine xle ?_;exact Qco (sp:=fun(o:Int)=>⟨[[.p (.sl false (h0_0.map Qad)),.p (iV o)]],[]⟩) h ⟨[],rfl,.refl _,.refl _,rfl⟩
theorem Qla:∀ (h0_0:(List Qaa)) (h0_1:Int) (o:(Qab×Int)⊕(Int)),Qcu h0_0 h0_1=some o→CallS Tryz.prog 92 [.ptr 0 0] ⟨[[.p (.sl false (h0_0.map Qad)),.p (iV h0_1)]],[]⟩ Qhm (fun(o:Qab×Int)=>⟨[[.p (.sl false (h0_0.map Qad)),.p (iV o.2)]],[]⟩) (fun(o:Int)=>⟨[[.p (.sl false (h0_0.map Qad)),.p (iV o)]],[]⟩) o:=fun h0_0 h0_1=>(Qrk h0_0).2.2.1 h0_1
def Qbv (h0_0:(List Qaa)) (h0_1:Int):Option (((List Qab)×Int)⊕(Int)) :=
 Qcu h0_0 h0_1>>=fun o2 =>
 match o2 with
 | .inl x1 =>
  Qau 3 h0_0 x1.2>>=fun o5 =>
  match o5 with
  | .inl x4 =>
   some (.inl ([x1.1],x4.2))
  | .inr z6 =>
   some (.inr x1.2)
 | .inr z3 =>
  some (.inr z3)
theorem Qa7:∀ (h0_0:(List Qaa)) (h0_1:Int) (o:((List Qab)×Int)⊕(Int)),Qbv h0_0 h0_1=some o→CallS Tryz.prog 57 [.ptr 0 0] ⟨[[.p (.sl false (h0_0.map Qad)),.p (iV h0_1)]],[]⟩ Qkl (fun(o:(List Qab)×Int)=>⟨[[.p (.sl false (h0_0.map Qad)),.p (iV o.2)]],[]⟩) (fun(o:Int)=>⟨[[.p (.sl false (h0_0.map Qad)),.p (iV o)]],[]⟩) o:=by
 intro h0_0 h0_1 o h;unfold Qbv at h;refine CallS.ofB mixed tbOk Qp6 Tryz.func57 rfl (by kernel_rfl) (Nat.le_of_ble_eq_true rfl) (fun _=>rfl) (fun _=>rfl) (fun _=>rfl) (fun _=>rfl) (fun _=>rfl) ?_;refine xle ?_;refine Qbk _ _ _ h (fun x1 hy=>(Qla h0_0 h0_1 (.inl x1) hy).a.fr [0] [] rfl rfl rfl) (fun z3 hy=>(Qla h0_0 h0_1 (.inr z3) hy).b.fr [0] [] rfl rfl rfl) (fun x1 hy h=>?_) (fun z3 hy h=>?_)
 ·refine xle ?_;refine Qbk _ _ _ h (fun x4 hy=>(Qam 3 h0_0 x1.2 (.inl x4) hy).a.fr [0] [] rfl rfl rfl) (fun z6 hy=>(Qam 3 h0_0 x1.2 (.inr z6) hy).b.fr [0] [] rfl rfl rfl) (fun x4 hy h=>?_) (fun z6 hy h=>?_)
  ·refine Exists.intro _ (And.intro (Le.refl _ _ _) ?_);exact Qem (t:=Qkl) (ss:=fun(o:(List Qab)×Int)=>⟨[[.p (.sl false (h0_0.map Qad)),.p (iV o.2)]],[]⟩) h ⟨[],rfl,.p (.no (.cons (.ceq (Qai _) (.refl _)) (.nil))),.refl _,rfl⟩
  ·refine xle ?_;exact Qco (sp:=fun(o:Int)=>⟨[[.p (.sl false (h0_0.map Qad)),.p (iV o)]],[]⟩) h ⟨[],rfl,.refl _,.refl _,rfl⟩
 ·refine xle ?_;exact Qco (sp:=fun(o:Int)=>⟨[[.p (.sl false (h0_0.map Qad)),.p (iV o)]],[]⟩) h ⟨[],rfl,.refl _,.refl _,rfl⟩
mutual
def Qa6 (p1:Bool) (p2:Bool) (h0_0:(List Qaa)) (h0_1:Int):Option (((List Qab)×Int×Int)⊕(Int)) :=
 (Qfa p1 p2 h0_0 h0_1 ())>>=fun o1 =>
 match o1 with
 | .inl y2 =>
  some (.inl (y2.1,y2.2.1,y2.2.2))
 | .inr y3 =>
  some (.inr y3)
 partial_fixpoint
def Qfa (p1:Bool) (p2:Bool) (h0_0:(List Qaa)) (h0_1:Int) (w0:Unit):Option (((List Qab)×Int×Int)⊕Int) :=
 (Qa0 p1 p2 h0_0 [] h0_1)>>=fun o4 =>
 match o4 with
 | .inl y5 =>
  Qa4 (!p1) h0_0 y5.2>>=fun o34 =>
  match o34 with
  | .inl x33 =>
   some (.inl (y5.1,2,y5.2))
  | .inr z35 =>
   some (.inr y5.2)
 | .inr (.inl y6) =>
  some (.inl (y6.1,y6.2.1,y6.2.2))
 | .inr (.inr y7) =>
  some (.inr y7)
 partial_fixpoint
def Qa0 (p1:Bool) (p2:Bool) (h0_0:(List Qaa)) (v8:(List Qab)) (h0_1_:Int):Option (((List Qab)×Int)⊕((List Qab)×Int×Int)⊕Int) :=
 if(decide (h0_1_<(h0_0.length:Int))) then
  Qbj h0_0 h0_1_>>=fun x8 =>
  Qbz 1 h0_0 h0_1_>>=fun x9 =>
  if x9.1 then
   ( if(decide ((wr ((v8.length:Int)-1)) ≥ 0)) then
     idx v8 (wr ((v8.length:Int)-1))>>=fun x11 =>
     some (x11.Kind==8)
    else
     some false:Option (Bool))>>=fun o10 =>
   if o10 then
    idx v8 (wr ((v8.length:Int)-1))>>=fun x12 =>
    need (x12.Text.length+x8.Text.length≤9223372036854775807)>>=fun _ =>
    idx v8 (wr ((v8.length:Int)-1))>>=fun x13 =>
    Qa0 p1 p2 h0_0 (v8.set ((wr ((v8.length:Int)-1)).toNat) (Qab.mk x13.Kind x13.Name (x12.Text++x8.Text) x13.N x13.L x13.Then x13.Else)) x9.2
   else
    appL 120 v8 ([(Qab.mk 8 [] x8.Text 0 [] [] [])])>>=fun x14 =>
    Qa0 p1 p2 h0_0 x14 x9.2
  else
   Qau 2 h0_0 x9.2>>=fun o16 =>
   match o16 with
   | .inl x15 =>
    Qbz 3 h0_0 x15.2>>=fun x18 =>
    if x18.1 then
     Qa0 p1 p2 h0_0 v8 x18.2
    else
     ( if p1 then
       Qaz [101,110,100] h0_0 x18.2>>=fun x20 =>
       some (x20.1,x20.2)
      else
       some (false,x18.2):Option ((Bool×Int)))>>=fun o19 =>
     if o19.1 then
      Qau 3 h0_0 o19.2>>=fun o22 =>
      match o22 with
      | .inl x21 =>
       some (.inr (.inl (v8,0,x21.2)))
      | .inr z23 =>
       some (.inr (.inr o19.2))
     else
      ( if p2 then
        Qaz [101,108,115,101] h0_0 o19.2>>=fun x25 =>
        some (x25.1,x25.2)
       else
        some (false,o19.2):Option ((Bool×Int)))>>=fun o24 =>
      if o24.1 then
       Qau 3 h0_0 o24.2>>=fun o27 =>
       match o27 with
       | .inl x26 =>
        some (.inr (.inl (v8,1,x26.2)))
       | .inr z28 =>
        some (.inr (.inr o24.2))
      else
       Qgs h0_0 o24.2>>=fun o30 =>
       match o30 with
       | .inl x29 =>
        appL 120 v8 [x29.1]>>=fun x32 =>
        Qa0 p1 p2 h0_0 x32 x29.2
       | .inr z31 =>
        some (.inr (.inr z31))
   | .inr z17 =>
    some (.inr (.inr x9.2))
 else
  some (.inl (v8,h0_1_))
 partial_fixpoint
def Qgs (h0_0:(List Qaa)) (h0_1:Int):Option ((Qab×Int)⊕(Int)) :=
 Qaz [105,102] h0_0 h0_1>>=fun x1 =>
 if x1.1 then
  Qbv h0_0 x1.2>>=fun o3 =>
  match o3 with
  | .inl x2 =>
   Qa6 true true h0_0 x2.2>>=fun o6 =>
   match o6 with
   | .inl x5 =>
    if(x5.2.1==1) then
     Qa6 true false h0_0 x5.2.2>>=fun o9 =>
     match o9 with
     | .inl x8 =>
      some (.inl ((Qab.mk 10 [] [] 0 x2.1 x5.1 x8.1),x8.2.2))
     | .inr z10 =>
      some (.inr z10)
    else
     some (.inl ((Qab.mk 10 [] [] 0 x2.1 x5.1 []),x5.2.2))
   | .inr z7 =>
    some (.inr z7)
  | .inr z4 =>
   some (.inr z4)
 else
  Qaz [101,97,99,104] h0_0 x1.2>>=fun x11 =>
  if x11.1 then
   Qct h0_0 x11.2>>=fun o13 =>
   match o13 with
   | .inl x12 =>
    Qaz [105,110] h0_0 x12.2>>=fun x15 =>
    Qa4 x15.1 h0_0 x15.2>>=fun o17 =>
    match o17 with
    | .inl x16 =>
     Qbv h0_0 x15.2>>=fun o20 =>
     match o20 with
     | .inl x19 =>
      Qa6 true false h0_0 x19.2>>=fun o23 =>
      match o23 with
      | .inl x22 =>
       some (.inl ((Qab.mk 11 x12.1 [] 0 x19.1 x22.1 []),x22.2.2))
      | .inr z24 =>
       some (.inr z24)
     | .inr z21 =>
      some (.inr z21)
    | .inr z18 =>
     some (.inr x15.2)
   | .inr z14 =>
    some (.inr x11.2)
  else
   Qaz [108,101,116] h0_0 x11.2>>=fun x25 =>
   if x25.1 then
    Qct h0_0 x25.2>>=fun o27 =>
    match o27 with
    | .inl x26 =>
     Qau 11 h0_0 x26.2>>=fun o30 =>
     match o30 with
     | .inl x29 =>
      Qbv h0_0 x29.2>>=fun o33 =>
      match o33 with
      | .inl x32 =>
       Qa6 true false h0_0 x32.2>>=fun o36 =>
       match o36 with
       | .inl x35 =>
        some (.inl ((Qab.mk 12 x26.1 [] 0 x32.1 x35.1 []),x35.2.2))
       | .inr z37 =>
        some (.inr z37)
      | .inr z34 =>
       some (.inr z34)
     | .inr z31 =>
      some (.inr x26.2)
    | .inr z28 =>
     some (.inr x25.2)
   else
    Qaz [117,115,101] h0_0 x25.2>>=fun x38 =>
    if x38.1 then
     Qct h0_0 x38.2>>=fun o40 =>
     match o40 with
     | .inl x39 =>
      Qbv h0_0 x39.2>>=fun o43 =>
      match o43 with
      | .inl x42 =>
       some (.inl ((Qab.mk 13 x39.1 [] 0 x42.1 [] []),x42.2))
      | .inr z44 =>
       some (.inr z44)
     | .inr z41 =>
      some (.inr x38.2)
    else
     Qbv h0_0 x38.2>>=fun o46 =>
     match o46 with
     | .inl x45 =>
      some (.inl ((Qab.mk 9 [] [] 0 x45.1 [] []),x45.2))
     | .inr z47 =>
      some (.inr z47)
 partial_fixpoint
end
theorem Qqa:∀ (h0_0:(List Qaa)),(∀ (p1:Bool) (p2:Bool) (h0_1:Int) (o:((List Qab)×Int×Int)⊕(Int)),Qa6 p1 p2 h0_0 h0_1=some o→CallS Tryz.prog 17 [.ptr 0 0,.p (bV p1),.p (bV p2)] ⟨[[.p (.sl false (h0_0.map Qad)),.p (iV h0_1)]],[]⟩ Qgw (fun(o:(List Qab)×Int×Int)=>⟨[[.p (.sl false (h0_0.map Qad)),.p (iV o.2.2)]],[]⟩) (fun(o:Int)=>⟨[[.p (.sl false (h0_0.map Qad)),.p (iV o)]],[]⟩) o)∧(∀ (p1:Bool) (p2:Bool) (h0_1:Int) (w0:Unit) (o1:((List Qab)×Int×Int)⊕Int),Qfa p1 p2 h0_0 h0_1 w0=some o1→TG (1,0) Tryz.prog 87 Qiw (Qabf Qiw 0) (JP2 (1,0) 87 o1 .ret (Qib p1 p2 h0_0 h0_1) (.panic Qi9) (Qic p1 p2 h0_0 h0_1)) (Qgu p1 p2 h0_0 h0_1 w0))∧(∀ (p1:Bool) (p2:Bool) (v8:(List Qab)) (h0_1_:Int) (o4:((List Qab)×Int)⊕((List Qab)×Int×Int)⊕Int),Qa0 p1 p2 h0_0 v8 h0_1_=some o4→TL (1,0) Tryz.prog 87 Qo2 (JP3 (1,0) 87 o4 (.exit 0) (Qh8 p1 p2 h0_0) .ret (Qh9 p1 p2 h0_0) (.panic Qi9) (Qia p1 p2 h0_0)) (Qb8 p1 p2 h0_0 v8 h0_1_))∧(∀ (h0_1:Int) (o:(Qab×Int)⊕(Int)),Qgs h0_0 h0_1=some o→CallS Tryz.prog 35 [.ptr 0 0] ⟨[[.p (.sl false (h0_0.map Qad)),.p (iV h0_1)]],[]⟩ Qcp (fun(o:Qab×Int)=>⟨[[.p (.sl false (h0_0.map Qad)),.p (iV o.2)]],[]⟩) (fun(o:Int)=>⟨[[.p (.sl false (h0_0.map Qad)),.p (iV o)]],[]⟩) o):=by
 intro h0_0;refine Qa6.mutual_partial_correctness h0_0 _ _ _ _ ?_ ?_ ?_ ?_
 ·intro Qfa' iQfa p1 p2 h0_1 o h;refine CallS.ofB mixed tbOk Qb9 Tryz.func17 rfl (by kernel_rfl) (Nat.le_of_ble_eq_true rfl) (fun _=>rfl) (fun _=>rfl) (fun _=>rfl) (fun _=>rfl) (fun _=>rfl) ?_;refine Qag h (fun o1 ho hk=>?_);refine Exists.intro (JP2 _ _ o1 .ret (Qib p1 p2 h0_0 h0_1) (.panic Qi9) (Qic p1 p2 h0_0 h0_1)) (And.intro (TG.scope ?_) (Qlx (fun y2 hy=>?_) (fun y3 hy=>?_)))
  ·have h:=ho;refine TG.seqb mixed tbOk (lv:=Qb9) ?_;refine TG.label (TG.le (τ := Qgu p1 p2 h0_0 h0_1 ()) ?_ ((iQfa p1 p2 h0_1 () _ h)));exact Le.tz 1 0 rfl rfl rfl
  ·have h:=(by rw[hy] at hk; exact hk);refine Exists.intro _ (And.intro (Le.refl _ _ _) ?_);exact Qem (t:=Qgw) (ss:=fun(o:(List Qab)×Int×Int)=>⟨[[.p (.sl false (h0_0.map Qad)),.p (iV o.2.2)]],[]⟩) h ⟨[],rfl,.refl _,.refl _,rfl⟩
  ·have h:=(by rw[hy] at hk; exact hk);refine xle ?_;exact Qco (sp:=fun(o:Int)=>⟨[[.p (.sl false (h0_0.map Qad)),.p (iV o)]],[]⟩) h ⟨[],rfl,.refl _,.refl _,rfl⟩
 ·intro Qa0' iQa0 p1 p2 h0_1 w0 o1 h;refine TG.seqb mixed tbOk (lv:=Qb9) ?_;refine Qag h (fun o4 ho hk=>?_);refine Exists.intro (JP3 _ _ o4 (.exit 0) (Qh8 p1 p2 h0_0) .ret (Qh9 p1 p2 h0_0) (.panic Qi9) (Qia p1 p2 h0_0)) (And.intro (Qnx (τ := Qb8 p1 p2 h0_0 [] h0_1) ?_ (TL.loop (iQa0 p1 p2 [] h0_1 o4 ho))) (Qam0 (fun y5 hy=>?_) (fun y6 hy=>?_) (fun y7 hy=>?_)))
  ·exact(Le.xnil (.s 8) 37 7 rfl).trans (Le.tz 1 1 rfl rfl rfl)
  ·have h:=(by rw[hy] at hk; exact hk);refine TG.seqb mixed tbOk (lv:=Qb9) ?_;refine xle ?_;refine Qbk _ _ _ h (fun x33 hy=>(Qbh (!p1) h0_0 y5.2 (.inl x33) hy).a.fr [0] [] rfl rfl rfl) (fun z35 hy=>(Qbh (!p1) h0_0 y5.2 (.inr z35) hy).b.fr [0] [] rfl rfl rfl) (fun x33 hy h=>?_) (fun z35 hy h=>?_)
   ·refine TG.seqb mixed tbOk (lv:=Qb9) ?_;refine Exists.intro _ (And.intro (Le.frzv (.s 8) 0 1 rfl rfl rfl rfl) ?_);refine TG.lastb mixed tbOk (lv:=Qb9) ?_;refine JP2.a h ?_;exact Le.tz 1 1 rfl rfl rfl
   ·refine JP2.b h ?_;exact Le.tz 1 1 rfl rfl rfl
  ·have h:=(by rw[hy] at hk; exact hk);refine JP2.a h ?_;exact Le.tz 1 1 rfl rfl rfl
  ·have h:=(by rw[hy] at hk; exact hk);refine JP2.b h ?_;exact Le.tz 1 1 rfl rfl rfl
 ·intro Qa0' Qgs' iQa0 iQgs p1 p2 v8 h0_1_ o4 h;refine TL.round (Qan mixed tbOk (lv:=Qb9) _ _ _ ?_);refine And.intro (by decide +kernel) (And.intro rfl ?_);refine view (Qaw _ _) rfl ?_;refine Qaf h (fun hb h=>?_) (fun hb h=>?_)
  ·refine And.intro rfl (Exists.intro _ (And.intro (List.length_map _) ?_));refine Qah _ _ h (fun x8 hy=>((Qce h0_0 h0_1_ x8 hy).fr [0] [] rfl rfl rfl)) (fun x8 hy h=>?_);refine Qah _ _ h (fun x9 hy=>((Qc1 1 h0_0 h0_1_ x9 hy).fr [0] [] rfl rfl rfl)) (fun x9 hy h=>?_);refine Qaf h (fun hb h=>?_) (fun hb h=>?_)
   ·refine Qag h (fun o10 ho hk=>?_);refine Exists.intro (JP1 _ _ o10 .normal (Qoz p1 p2 h0_0 v8 x8 x9)) (And.intro ?_ (Qa5 ?_))
    ·have h:=ho;refine Qaf h (fun hb h=>?_) (fun hb h=>?_)
     ·refine Qwf (l:=v8) (c:=Qae) (c' := Qa1) h rfl Qai (fun _=>rfl) (by decide) (fun x11 hi h=>?_);refine And.intro rfl ?_;refine And.intro rfl (And.intro (Nat.le_of_ble_eq_true rfl) ?_);refine JP1.a h ?_;exact Le.tz 2 1 rfl rfl rfl
     ·refine JP1.a h ?_;exact Le.tz 2 1 rfl rfl rfl
    ·have h:=hk;refine Qaf h (fun hb h=>?_) (fun hb h=>?_)
     ·refine And.intro (by decide +kernel) (And.intro (by decide +kernel) (And.intro rfl ?_));refine And.intro rfl ?_;refine Qwf (l:=v8) (c:=Qae) (c' := Qa1) h rfl Qai (fun _=>rfl) (by decide) (fun x12 hi h=>?_);refine And.intro rfl ?_;refine And.intro rfl ?_;refine And.intro rfl ?_;refine And.intro rfl (And.intro (Nat.le_of_ble_eq_true rfl) ?_);refine Qbb h (fun h=>?_);refine Qwf (l:=v8) (c:=Qae) (c' := Qa1) h rfl Qai (fun _=>rfl) (by decide) (fun x13 hi h=>?_);refine And.intro rfl ?_;refine And.intro rfl (And.intro (Nat.le_of_ble_eq_true rfl) (And.intro rfl (And.intro rfl (Exists.intro ((v8.set ((wr ((v8.length:Int)-1)).toNat) (Qab.mk x13.Kind x13.Name (x12.Text++x8.Text) x13.N x13.L x13.Then x13.Else)).map Qae) (And.intro (Qajd (.ceq (Qai _) (.refl _))) ?_)))));refine TL.le (τ := Qb8 p1 p2 h0_0 (v8.set ((wr ((v8.length:Int)-1)).toNat) (Qab.mk x13.Kind x13.Name (x12.Text++x8.Text) x13.N x13.L x13.Then x13.Else)) x9.2) ?_ ((iQa0 p1 p2 (v8.set ((wr ((v8.length:Int)-1)).toNat) (Qab.mk x13.Kind x13.Name (x12.Text++x8.Text) x13.N x13.L x13.Then x13.Else)) x9.2 _ h))
      exact Le.trans (τ := ⟨[(0,.ptr 0 0),(1,.p (bV p1)),(2,.p (bV p2)),(8,.x 0 2 (.sl 37 7 ((v8.set ((wr ((v8.length:Int)-1)).toNat) (Qab.mk x13.Kind x13.Name (x12.Text++x8.Text) x13.N x13.L x13.Then x13.Else)).map Qae)))],⟨[[.p (.sl false (h0_0.map Qad)),.p (iV x9.2)],[.p (iV x8.Kind),.p (sV x8.Text),.p (iV x8.N),.p (iV x8.From),.p (iV x8.To)]],[2]⟩⟩) (Le.tz 2 1 rfl rfl rfl) ((Le.ver (.s 8) 0 2 1 rfl rfl rfl rfl).trans (Le.tz 1 1 rfl rfl rfl))
     ·refine Q3c (a:=v8) (b:=[(Qab.mk 8 [] x8.Text 0 [] [] [])]) (c:=Qae) h (.cons (.ceq (Qai _) (.cons (.refl _) (.cons (.refl _) (.cons (.refl _) (.cons (.refl _) (.cons (.not) (.cons (.not) (.cons (.not) (.nil))))))))) (.nil)) (fun x=>by rw[Qai]; rfl) rfl (fun x14 hi h=>?_);refine TL.le (τ := Qb8 p1 p2 h0_0 x14 x9.2) ?_ ((iQa0 p1 p2 x14 x9.2 _ h));exact Le.trans (τ := ⟨[(0,.ptr 0 0),(1,.p (bV p1)),(2,.p (bV p2)),(8,.x 0 2 (.sl 37 7 (x14.map Qae)))],⟨[[.p (.sl false (h0_0.map Qad)),.p (iV x9.2)],[.p (iV x8.Kind),.p (sV x8.Text),.p (iV x8.N),.p (iV x8.From),.p (iV x8.To)]],[2]⟩⟩) (Le.tz 2 1 rfl rfl rfl) ((Le.ver (.s 8) 0 2 1 rfl rfl rfl rfl).trans (Le.tz 1 1 rfl rfl rfl))
   ·refine xle ?_;refine Qbk _ _ _ h (fun x15 hy=>(Qam 2 h0_0 x9.2 (.inl x15) hy).a.fr [0] [] rfl rfl rfl) (fun z17 hy=>(Qam 2 h0_0 x9.2 (.inr z17) hy).b.fr [0] [] rfl rfl rfl) (fun x15 hy h=>?_) (fun z17 hy h=>?_)
    ·refine Qah _ _ h (fun x18 hy=>((Qc1 3 h0_0 x15.2 x18 hy).fr [0] [] rfl rfl rfl)) (fun x18 hy h=>?_);refine Qaf h (fun hb h=>?_) (fun hb h=>?_)
     ·refine TL.le (τ := Qb8 p1 p2 h0_0 v8 x18.2) ?_ ((iQa0 p1 p2 v8 x18.2 _ h));exact Le.tz 1 1 rfl rfl rfl
     ·refine Qag h (fun o19 ho hk=>?_);refine Exists.intro (JP1 _ _ o19 .normal (Qo0 p1 p2 h0_0 v8 x8)) (And.intro ?_ (Qa5 ?_))
      ·have h:=ho;refine Qaf h (fun hb h=>?_) (fun hb h=>?_)
       ·refine Qah _ _ h (fun x20 hy=>((Qbi [101,110,100] h0_0 x18.2 x20 hy).fr [0] [] rfl rfl rfl)) (fun x20 hy h=>?_);refine JP1.a h ?_;exact Le.tz 2 1 rfl rfl rfl
       ·refine JP1.a h ?_;exact Le.tz 2 1 rfl rfl rfl
      ·have h:=hk;refine Qaf h (fun hb h=>?_) (fun hb h=>?_)
       ·refine xle ?_;refine Qbk _ _ _ h (fun x21 hy=>(Qam 3 h0_0 o19.2 (.inl x21) hy).a.fr [0] [] rfl rfl rfl) (fun z23 hy=>(Qam 3 h0_0 o19.2 (.inr z23) hy).b.fr [0] [] rfl rfl rfl) (fun x21 hy h=>?_) (fun z23 hy h=>?_)
        ·refine Exists.intro _ (And.intro (Le.frzv (.s 8) 0 1 rfl rfl rfl rfl) ?_);exact JP3.b h (Le.tz 1 1 rfl rfl rfl)
        ·exact JP3.c h (Le.tz 1 1 rfl rfl rfl)
       ·refine Qag h (fun o24 ho hk=>?_);refine Exists.intro (JP1 _ _ o24 .normal (Qo1 p1 p2 h0_0 v8 x8)) (And.intro ?_ (Qa5 ?_))
        ·have h:=ho;refine Qaf h (fun hb h=>?_) (fun hb h=>?_)
         ·refine Qah _ _ h (fun x25 hy=>((Qbi [101,108,115,101] h0_0 o19.2 x25 hy).fr [0] [] rfl rfl rfl)) (fun x25 hy h=>?_);refine JP1.a h ?_;exact Le.tz 2 1 rfl rfl rfl
         ·refine JP1.a h ?_;exact Le.tz 2 1 rfl rfl rfl
        ·have h:=hk;refine Qaf h (fun hb h=>?_) (fun hb h=>?_)
         ·refine xle ?_;refine Qbk _ _ _ h (fun x26 hy=>(Qam 3 h0_0 o24.2 (.inl x26) hy).a.fr [0] [] rfl rfl rfl) (fun z28 hy=>(Qam 3 h0_0 o24.2 (.inr z28) hy).b.fr [0] [] rfl rfl rfl) (fun x26 hy h=>?_) (fun z28 hy h=>?_)
          ·refine Exists.intro _ (And.intro (Le.frzv (.s 8) 0 1 rfl rfl rfl rfl) ?_);exact JP3.b h (Le.tz 1 1 rfl rfl rfl)
          ·exact JP3.c h (Le.tz 1 1 rfl rfl rfl)
         ·refine xle ?_;refine Qbk _ _ _ h (fun x29 hy=>(iQgs o24.2 (.inl x29) hy).a.fr [0] [] rfl rfl rfl) (fun z31 hy=>(iQgs o24.2 (.inr z31) hy).b.fr [0] [] rfl rfl rfl) (fun x29 hy h=>?_) (fun z31 hy h=>?_)
          ·refine Q3c (a:=v8) (b:=[x29.1]) (c:=Qae) h (.cons (.ceq (Qai _) (.refl _)) (.nil)) (fun x=>by rw[Qai]; rfl) rfl (fun x32 hi h=>?_);refine TL.le (τ := Qb8 p1 p2 h0_0 x32 x29.2) ?_ ((iQa0 p1 p2 x32 x29.2 _ h));exact Le.trans (τ := ⟨[(0,.ptr 0 0),(1,.p (bV p1)),(2,.p (bV p2)),(8,.x 0 2 (.sl 37 7 (x32.map Qae)))],⟨[[.p (.sl false (h0_0.map Qad)),.p (iV x29.2)],[.p (iV x8.Kind),.p (sV x8.Text),.p (iV x8.N),.p (iV x8.From),.p (iV x8.To)]],[2]⟩⟩) (Le.tz 2 1 rfl rfl rfl) ((Le.ver (.s 8) 0 2 1 rfl rfl rfl rfl).trans (Le.tz 1 1 rfl rfl rfl))
          ·exact JP3.c h (Le.tz 1 1 rfl rfl rfl)
    ·exact JP3.c h (Le.tz 1 1 rfl rfl rfl)
  ·exact JP3.a h (Le.tz 1 1 rfl rfl rfl)
 ·intro Qa6' iQa6 h0_1 o h;refine CallS.ofB mixed tbOk Qsz Tryz.func35 rfl (by kernel_rfl) (Nat.le_of_ble_eq_true rfl) (fun _=>rfl) (fun _=>rfl) (fun _=>rfl) (fun _=>rfl) (fun _=>rfl) ?_;refine Qah _ _ h (fun x1 hy=>((Qbi [105,102] h0_0 h0_1 x1 hy).fr [0] [] rfl rfl rfl)) (fun x1 hy h=>?_);refine Qaf h (fun hb h=>?_) (fun hb h=>?_)
  ·refine xle ?_;refine Qbk _ _ _ h (fun x2 hy=>(Qa7 h0_0 x1.2 (.inl x2) hy).a.fr [0] [] rfl rfl rfl) (fun z4 hy=>(Qa7 h0_0 x1.2 (.inr z4) hy).b.fr [0] [] rfl rfl rfl) (fun x2 hy h=>?_) (fun z4 hy h=>?_)
   ·refine xle ?_;refine Qbk _ _ _ h (fun x5 hy=>(iQa6 true true x2.2 (.inl x5) hy).a.fr [0] [] rfl rfl rfl) (fun z7 hy=>(iQa6 true true x2.2 (.inr z7) hy).b.fr [0] [] rfl rfl rfl) (fun x5 hy h=>?_) (fun z7 hy h=>?_)
    ·refine Qaf h (fun hb h=>?_) (fun hb h=>?_)
     ·refine xle ?_;refine Qbk _ _ _ h (fun x8 hy=>(iQa6 true false x5.2.2 (.inl x8) hy).a.fr [0] [] rfl rfl rfl) (fun z10 hy=>(iQa6 true false x5.2.2 (.inr z10) hy).b.fr [0] [] rfl rfl rfl) (fun x8 hy h=>?_) (fun z10 hy h=>?_)
      ·refine Exists.intro _ (And.intro (Le.refl _ _ _) ?_);exact Qem (t:=Qcp) (ss:=fun(o:Qab×Int)=>⟨[[.p (.sl false (h0_0.map Qad)),.p (iV o.2)]],[]⟩) h ⟨[],rfl,.refl _,.refl _,rfl⟩
      ·refine xle ?_;exact Qco (sp:=fun(o:Int)=>⟨[[.p (.sl false (h0_0.map Qad)),.p (iV o)]],[]⟩) h ⟨[],rfl,.refl _,.refl _,rfl⟩
     ·refine Exists.intro _ (And.intro (Le.refl _ _ _) ?_);exact Qem (t:=Qcp) (ss:=fun(o:Qab×Int)=>⟨[[.p (.sl false (h0_0.map Qad)),.p (iV o.2)]],[]⟩) h ⟨[],rfl,.p (.agg' (.cons (.refl _) (.cons (.refl _) (.cons (.refl _) (.cons (.refl _) (.cons (.refl _) (.cons (.refl _) (.cons (.not) (.nil))))))))),.refl _,rfl⟩
    ·refine xle ?_;exact Qco (sp:=fun(o:Int)=>⟨[[.p (.sl false (h0_0.map Qad)),.p (iV o)]],[]⟩) h ⟨[],rfl,.refl _,.refl _,rfl⟩
   ·refine xle ?_;exact Qco (sp:=fun(o:Int)=>⟨[[.p (.sl false (h0_0.map Qad)),.p (iV o)]],[]⟩) h ⟨[],rfl,.refl _,.refl _,rfl⟩
  ·refine Qah _ _ h (fun x11 hy=>((Qbi [101,97,99,104] h0_0 x1.2 x11 hy).fr [0] [] rfl rfl rfl)) (fun x11 hy h=>?_);refine Qaf h (fun hb h=>?_) (fun hb h=>?_)
   ·refine xle ?_;refine Qbk _ _ _ h (fun x12 hy=>(Qb1 h0_0 x11.2 (.inl x12) hy).a.fr [0] [] rfl rfl rfl) (fun z14 hy=>(Qb1 h0_0 x11.2 (.inr z14) hy).b.fr [0] [] rfl rfl rfl) (fun x12 hy h=>?_) (fun z14 hy h=>?_)
    ·refine xle ?_;refine Qah _ _ h (fun x15 hy=>((Qbi [105,110] h0_0 x12.2 x15 hy).fr [0] [] rfl rfl rfl)) (fun x15 hy h=>?_);refine Qbk _ _ _ h (fun x16 hy=>(Qbh x15.1 h0_0 x15.2 (.inl x16) hy).a.fr [0] [] rfl rfl rfl) (fun z18 hy=>(Qbh x15.1 h0_0 x15.2 (.inr z18) hy).b.fr [0] [] rfl rfl rfl) (fun x16 hy h=>?_) (fun z18 hy h=>?_)
     ·refine xle ?_;refine Qbk _ _ _ h (fun x19 hy=>(Qa7 h0_0 x15.2 (.inl x19) hy).a.fr [0] [] rfl rfl rfl) (fun z21 hy=>(Qa7 h0_0 x15.2 (.inr z21) hy).b.fr [0] [] rfl rfl rfl) (fun x19 hy h=>?_) (fun z21 hy h=>?_)
      ·refine xle ?_;refine Qbk _ _ _ h (fun x22 hy=>(iQa6 true false x19.2 (.inl x22) hy).a.fr [0] [] rfl rfl rfl) (fun z24 hy=>(iQa6 true false x19.2 (.inr z24) hy).b.fr [0] [] rfl rfl rfl) (fun x22 hy h=>?_) (fun z24 hy h=>?_)
       ·refine Exists.intro _ (And.intro (Le.refl _ _ _) ?_);exact Qem (t:=Qcp) (ss:=fun(o:Qab×Int)=>⟨[[.p (.sl false (h0_0.map Qad)),.p (iV o.2)]],[]⟩) h ⟨[],rfl,.p (.agg' (.cons (.refl _) (.cons (.refl _) (.cons (.refl _) (.cons (.refl _) (.cons (.refl _) (.cons (.refl _) (.cons (.not) (.nil))))))))),.refl _,rfl⟩
       ·refine xle ?_;exact Qco (sp:=fun(o:Int)=>⟨[[.p (.sl false (h0_0.map Qad)),.p (iV o)]],[]⟩) h ⟨[],rfl,.refl _,.refl _,rfl⟩
      ·refine xle ?_;exact Qco (sp:=fun(o:Int)=>⟨[[.p (.sl false (h0_0.map Qad)),.p (iV o)]],[]⟩) h ⟨[],rfl,.refl _,.refl _,rfl⟩
     ·refine xle ?_;exact Qco (sp:=fun(o:Int)=>⟨[[.p (.sl false (h0_0.map Qad)),.p (iV o)]],[]⟩) h ⟨[],rfl,.refl _,.refl _,rfl⟩
    ·refine xle ?_;exact Qco (sp:=fun(o:Int)=>⟨[[.p (.sl false (h0_0.map Qad)),.p (iV o)]],[]⟩) h ⟨[],rfl,.refl _,.refl _,rfl⟩
   ·refine Qah _ _ h (fun x25 hy=>((Qbi [108,101,116] h0_0 x11.2 x25 hy).fr [0] [] rfl rfl rfl)) (fun x25 hy h=>?_);refine Qaf h (fun hb h=>?_) (fun hb h=>?_)
    ·refine xle ?_;refine Qbk _ _ _ h (fun x26 hy=>(Qb1 h0_0 x25.2 (.inl x26) hy).a.fr [0] [] rfl rfl rfl) (fun z28 hy=>(Qb1 h0_0 x25.2 (.inr z28) hy).b.fr [0] [] rfl rfl rfl) (fun x26 hy h=>?_) (fun z28 hy h=>?_)
     ·refine xle ?_;refine Qbk _ _ _ h (fun x29 hy=>(Qam 11 h0_0 x26.2 (.inl x29) hy).a.fr [0] [] rfl rfl rfl) (fun z31 hy=>(Qam 11 h0_0 x26.2 (.inr z31) hy).b.fr [0] [] rfl rfl rfl) (fun x29 hy h=>?_) (fun z31 hy h=>?_)
      ·refine xle ?_;refine Qbk _ _ _ h (fun x32 hy=>(Qa7 h0_0 x29.2 (.inl x32) hy).a.fr [0] [] rfl rfl rfl) (fun z34 hy=>(Qa7 h0_0 x29.2 (.inr z34) hy).b.fr [0] [] rfl rfl rfl) (fun x32 hy h=>?_) (fun z34 hy h=>?_)
       ·refine xle ?_;refine Qbk _ _ _ h (fun x35 hy=>(iQa6 true false x32.2 (.inl x35) hy).a.fr [0] [] rfl rfl rfl) (fun z37 hy=>(iQa6 true false x32.2 (.inr z37) hy).b.fr [0] [] rfl rfl rfl) (fun x35 hy h=>?_) (fun z37 hy h=>?_)
        ·refine Exists.intro _ (And.intro (Le.refl _ _ _) ?_);exact Qem (t:=Qcp) (ss:=fun(o:Qab×Int)=>⟨[[.p (.sl false (h0_0.map Qad)),.p (iV o.2)]],[]⟩) h ⟨[],rfl,.p (.agg' (.cons (.refl _) (.cons (.refl _) (.cons (.refl _) (.cons (.refl _) (.cons (.refl _) (.cons (.refl _) (.cons (.not) (.nil))))))))),.refl _,rfl⟩
        ·refine xle ?_;exact Qco (sp:=fun(o:Int)=>⟨[[.p (.sl false (h0_0.map Qad)),.p (iV o)]],[]⟩) h ⟨[],rfl,.refl _,.refl _,rfl⟩
       ·refine xle ?_;exact Qco (sp:=fun(o:Int)=>⟨[[.p (.sl false (h0_0.map Qad)),.p (iV o)]],[]⟩) h ⟨[],rfl,.refl _,.refl _,rfl⟩
      ·refine xle ?_;exact Qco (sp:=fun(o:Int)=>⟨[[.p (.sl false (h0_0.map Qad)),.p (iV o)]],[]⟩) h ⟨[],rfl,.refl _,.refl _,rfl⟩
     ·refine xle ?_;exact Qco (sp:=fun(o:Int)=>⟨[[.p (.sl false (h0_0.map Qad)),.p (iV o)]],[]⟩) h ⟨[],rfl,.refl _,.refl _,rfl⟩
    ·refine Qah _ _ h (fun x38 hy=>((Qbi [117,115,101] h0_0 x25.2 x38 hy).fr [0] [] rfl rfl rfl)) (fun x38 hy h=>?_);refine Qaf h (fun hb h=>?_) (fun hb h=>?_)
     ·refine xle ?_;refine Qbk _ _ _ h (fun x39 hy=>(Qb1 h0_0 x38.2 (.inl x39) hy).a.fr [0] [] rfl rfl rfl) (fun z41 hy=>(Qb1 h0_0 x38.2 (.inr z41) hy).b.fr [0] [] rfl rfl rfl) (fun x39 hy h=>?_) (fun z41 hy h=>?_)
      ·refine xle ?_;refine Qbk _ _ _ h (fun x42 hy=>(Qa7 h0_0 x39.2 (.inl x42) hy).a.fr [0] [] rfl rfl rfl) (fun z44 hy=>(Qa7 h0_0 x39.2 (.inr z44) hy).b.fr [0] [] rfl rfl rfl) (fun x42 hy h=>?_) (fun z44 hy h=>?_)
       ·refine Exists.intro _ (And.intro (Le.refl _ _ _) ?_);exact Qem (t:=Qcp) (ss:=fun(o:Qab×Int)=>⟨[[.p (.sl false (h0_0.map Qad)),.p (iV o.2)]],[]⟩) h ⟨[],rfl,.p (.agg' (.cons (.refl _) (.cons (.refl _) (.cons (.refl _) (.cons (.refl _) (.cons (.refl _) (.cons (.not) (.cons (.not) (.nil))))))))),.refl _,rfl⟩
       ·refine xle ?_;exact Qco (sp:=fun(o:Int)=>⟨[[.p (.sl false (h0_0.map Qad)),.p (iV o)]],[]⟩) h ⟨[],rfl,.refl _,.refl _,rfl⟩
      ·refine xle ?_;exact Qco (sp:=fun(o:Int)=>⟨[[.p (.sl false (h0_0.map Qad)),.p (iV o)]],[]⟩) h ⟨[],rfl,.refl _,.refl _,rfl⟩
     ·refine xle ?_;refine Qbk _ _ _ h (fun x45 hy=>(Qa7 h0_0 x38.2 (.inl x45) hy).a.fr [0] [] rfl rfl rfl) (fun z47 hy=>(Qa7 h0_0 x38.2 (.inr z47) hy).b.fr [0] [] rfl rfl rfl) (fun x45 hy h=>?_) (fun z47 hy h=>?_)
      ·refine Exists.intro _ (And.intro (Le.refl _ _ _) ?_);exact Qem (t:=Qcp) (ss:=fun(o:Qab×Int)=>⟨[[.p (.sl false (h0_0.map Qad)),.p (iV o.2)]],[]⟩) h ⟨[],rfl,.p (.agg' (.cons (.refl _) (.cons (.refl _) (.cons (.refl _) (.cons (.refl _) (.cons (.refl _) (.cons (.not) (.cons (.not) (.nil))))))))),.refl _,rfl⟩
      ·refine xle ?_;exact Qco (sp:=fun(o:Int)=>⟨[[.p (.sl false (h0_0.map Qad)),.p (iV o)]],[]⟩) h ⟨[],rfl,.refl _,.refl _,rfl⟩
theorem Qkq:∀ (p1:Bool) (p2:Bool) (h0_0:(List Qaa)) (h0_1:Int) (o:((List Qab)×Int×Int)⊕(Int)),Qa6 p1 p2 h0_0 h0_1=some o→CallS Tryz.prog 17 [.ptr 0 0,.p (bV p1),.p (bV p2)] ⟨[[.p (.sl false (h0_0.map Qad)),.p (iV h0_1)]],[]⟩ Qgw (fun(o:(List Qab)×Int×Int)=>⟨[[.p (.sl false (h0_0.map Qad)),.p (iV o.2.2)]],[]⟩) (fun(o:Int)=>⟨[[.p (.sl false (h0_0.map Qad)),.p (iV o)]],[]⟩) o:=fun p1 p2 h0_0 h0_1=>(Qqa h0_0).1 p1 p2 h0_1
def Qd8 (p1:(List UInt8)) (h0_0:(List Qaa)) (h0_1:Int):Option (Int) :=
 if(h0_1==(h0_0.length:Int)) then
  some (p1.length:Int)
 else
  idx h0_0 h0_1>>=fun x1 =>
  some x1.From
theorem Qrl:∀ (p1:(List UInt8)) (h0_0:(List Qaa)) (h0_1:Int) (o:Int),Qd8 p1 h0_0 h0_1=some o→CallOK Tryz.prog 16 [.ptr 0 0,.p (sV p1)] ⟨[[.p (.sl false (h0_0.map Qad)),.p (iV h0_1)]],[]⟩ (Qgx o) ⟨[[.p (.sl false (h0_0.map Qad)),.p (iV h0_1)]],[]⟩:=by
 intro p1 h0_0 h0_1 o h;unfold Qd8 at h;refine CallOK.ofB mixed tbOk Qrb Tryz.func16 rfl (by kernel_rfl) (Nat.le_of_ble_eq_true rfl) rfl rfl rfl ?_;refine And.intro (by decide +kernel) (And.intro rfl ?_);refine view (Qaw _ _) rfl ?_;refine Qaf h (fun hb h=>?_) (fun hb h=>?_)
 ·refine vrfl ?_;refine Exists.intro _ (And.intro (Le.refl _ _ _) ?_);exact Qbd (t:=Qgx) (ss:=fun o=>⟨[[.p (.sl false (h0_0.map Qad)),.p (iV h0_1)]],[]⟩) h ⟨[],rfl,.refl _,.refl _,rfl⟩
 ·refine And.intro (by decide +kernel) (And.intro rfl ?_);refine Qcv (l:=h0_0) (c:=Qad) (c' := Qad) h (fun _=>rfl) (fun _=>rfl) (by decide) (fun x1 hi h=>?_);refine Exists.intro _ (And.intro (Le.refl _ _ _) ?_);exact Qbd (t:=Qgx) (ss:=fun o=>⟨[[.p (.sl false (h0_0.map Qad)),.p (iV h0_1)]],[]⟩) h ⟨[],rfl,.refl _,.refl _,rfl⟩
def Qfb (x1:(List Qab)×Int) (l4:(List (Qab×Int))) (h0_0:Int):Option (Int) :=
 match l4 with
 | [] =>
  some h0_0
 | x2::r3 =>
  Qfb x1 r3 (wr (h0_0+1))
 partial_fixpoint
theorem Qadf:∀ (x1:(List Qab)×Int),(∀ (l4:(List (Qab×Int))) (h0_0:Int) (o6:Int),Qfb x1 l4 h0_0=some o6→RL 1 0 Tryz.prog 11 (rgP Qmd) (rgA Qmd) (rgB Qmd) (Qg9 x1 h0_0).env (JP1 (0,0) 11 o6 .normal (Qpq x1)) (l4.map Qcr) (Qg9 x1 h0_0).s):=by
 intro x1;refine Qfb.partial_correctness x1 _ ?_;intro Qfb' iQfb l4 h0_0 o6 h;cases l4 with
 | nil =>
  refine Qae3 ?_;exact JP1.a h (Le.tz 1 0 rfl rfl rfl)
 | cons x2 r3 =>
  refine Q9g (Qan mixed tbOk (lv:=Qo3) _ _ _ ?_);refine And.intro rfl (Qan mixed tbOk (lv:=Qo3) _ _ _ ?_);exact Exists.intro (Qg9 x1 (wr (h0_0+1))).s (And.intro (Le.tz 1 0 rfl rfl rfl) (And.intro rfl (And.intro rfl ((iQfb r3 (wr (h0_0+1)) _ h)))))
def Qka (p0:(List Qab)) (p1:Int):Option ((List Qab)×Int) :=
 some (p0,p1)
theorem Qum:∀ (p0:(List Qab)) (p1:Int) (o:(List Qab)×Int),Qka p0 p1=some o→PCall Tryz.prog 37 [.sl false (p0.map Qae),iV p1] (Qn7 o):=by
 intro p0 p1 o h;unfold Qka at h;refine PCall.ofM mixed tbOk Q9y Tryz.func37 rfl (by kernel_rfl) (Nat.le_of_ble_eq_true rfl) ?_;refine Qao (t:=Qn7) h ?_;exact .refl _
def Qfc (p0:(List Qab)) (p1:Int) (v12:Int) (x3:Qab) (v28:Int) (x7:(List Qab)×Int) (l10:(List (Qab×Int))):Option ((List (Qab×Int))×(Unit)) :=
 match l10 with
 | [] =>
  some ([],())
 | x8::r9 =>
  ( Qfc p0 p1 v12 x3 v28 x7 r9 )>>=fun q=>some (((Qab.mk x8.1.Kind x8.1.Name x8.1.Text x8.1.N x8.1.L x8.1.Then x8.1.Else),x8.2)::q.1,q.2)
 partial_fixpoint
theorem Qadg:∀ (p0:(List Qab)) (p1:Int) (v12:Int) (x3:Qab) (v28:Int) (x7:(List Qab)×Int),(∀ (l10:(List (Qab×Int))) (o13:(List (Qab×Int))×(Unit)),Qfc p0 p1 v12 x3 v28 x7 l10=some o13→∀ (gxs gp gpost gq12:List (List V)),gxs=gp++(o13.1.map Qcr++gpost)→gxs=gq12++gpost→RL 2 1 Tryz.prog 44 (rgP Qme) (rgA Qme) (rgB Qme) (Qha p0 p1 v12 x3 v28 x7 gxs gp).env (Qs (0,1) 44 gxs (JP1 (0,1) 44 o13.2 .normal (Qpr p0 p1 v12 x3 v28 x7 gxs gq12))) (l10.map Qcr) (Qha p0 p1 v12 x3 v28 x7 gxs gp).s):=by
 intro p0 p1 v12 x3 v28 x7;refine Qfc.partial_correctness p0 p1 v12 x3 v28 x7 _ ?_;intro Qfc' iQfc l10 o13 h;intro gxs gp gpost gq12 hx hq;cases l10 with
 | nil =>
  refine Qae3 ?_;exact .inl (JP1.a (sndI h) (Le.tz 2 1 rfl rfl (Qaj6 h hx hq rfl)))
 | cons x8 r9 =>
  refine Q9g (Qan mixed tbOk (lv:=Qi1) _ _ _ ?_);refine And.intro rfl (Qan mixed tbOk (lv:=Qi1) _ _ _ ?_);refine Qajb (c:=Qcr) h hx (.refl _) (by exact rfl) (by exact rfl) (fun _ h hx=>?_) ?_
  ·refine bF ?_;exact Exists.intro (Qha p0 p1 v12 x3 v28 x7  gxs (gp++[Qcr ((Qab.mk x8.1.Kind x8.1.Name x8.1.Text x8.1.N x8.1.L x8.1.Then x8.1.Else),x8.2)])).s (And.intro (Le.tz 2 1 rfl rfl rfl) (And.intro rfl (And.intro rfl ((iQfc r9 _ h) _ _ _ _ hx hq))))
  ·refine bT ?_;exact⟨_,(Le.env0 _).trans (Le.tow 2 1 rfl .nil (.refl _) rfl),rfl,rfl,.inr ⟨rfl,Qah0 rfl⟩⟩
mutual
def Qfr (p0 : (List Qab)) (p1 : Int) : Option ((List (Qab × Int)) × Unit) :=
  ( Qfd p0 p1 0) >>= fun o2 => (
    some ([], ())) >>= fun q => some (o2.1 ++ q.1, q.2)
  partial_fixpoint
def Qfd (p0 : (List Qab)) (p1 : Int) (v12 : Int) : Option ((List (Qab × Int)) × (Unit)) :=
  if (decide (v12 < (p0.length : Int))) then
    idx p0 v12 >>= fun x3 =>
    ( ( Qcm p0 p1 v12 x3 0) >>= fun o5 => (
        Qfd p0 p1 (wr (v12 + 1))) >>= fun q => some (o5.1 ++ q.1, q.2)) >>= fun q => some ((x3, p1) :: q.1, q.2)
  else
    some ([], ())
  partial_fixpoint
def Qcm (p0 : (List Qab)) (p1 : Int) (v12 : Int) (x3 : Qab) (v28 : Int) : Option ((List (Qab × Int)) × (Unit)) :=
  if (decide (v28 < 3)) then
    idx ([x3.L, x3.Then, x3.Else] : List (List Qab)) v28 >>= fun x6 =>
    Qka x6 (wr (p1 + 1)) >>= fun x7 =>
    Qfr x7.1 x7.2 >>= fun y11 =>
    ( Qfc p0 p1 v12 x3 v28 x7 y11.1) >>= fun o13 => (
      Qcm p0 p1 v12 x3 (wr (v28 + 1))) >>= fun q => some (o13.1 ++ q.1, q.2)
  else
    some ([], ())
  partial_fixpoint
end
theorem Q1p:(∀ (p0:(List Qab)) (p1:Int) (o:(List (Qab×Int))×Unit),Qfr p0 p1=some o→∀ gxs:List (List V),gxs=o.1.map Qcr→IterOK Tryz.prog 59 [.ep [.sl false (p0.map Qae)],.ep [iV p1]] gxs)∧(∀ (p0:(List Qab)) (p1:Int) (v12:Int) (o2:(List (Qab×Int))×(Unit)),Qfd p0 p1 v12=some o2→∀ (gxs gp gpost gq1:List (List V)),gxs=gp++(o2.1.map Qcr++gpost)→gxs=gq1++gpost→TL (0,1) Tryz.prog 44 Qz2 (Qs (0,1) 44 gxs (JP1 (0,1) 44 o2.2 (.exit 0) (Qpt p0 p1 gxs gq1))) (Qk2 p0 p1 v12 gxs gp))∧(∀ (p0:(List Qab)) (p1:Int) (v12:Int) (x3:Qab) (v28:Int) (o5:(List (Qab×Int))×(Unit)),Qcm p0 p1 v12 x3 v28=some o5→∀ (gxs gp gpost gq4:List (List V)),gxs=gp++(o5.1.map Qcr++gpost)→gxs=gq4++gpost→TL (0,1) Tryz.prog 44 Qz1 (Qs (0,1) 44 gxs (JP1 (0,1) 44 o5.2 (.exit 2) (Qps p0 p1 v12 x3 gxs gq4))) (Qk1 p0 p1 v12 x3 v28 gxs gp)):=by
 refine Qfr.mutual_partial_correctness _ _ _ ?_ ?_ ?_
 ·intro Qfd' iQfd p0 p1 o h;intro gxs hg;have hx:gxs=[]++(o.1.map Qcr++[]):=by simp[hg]
  refine IterOK.ofB mixed tbOk Qi1 Tryz.func59 rfl (by kernel_rfl) (Nat.le_of_ble_eq_true rfl) rfl ?_;refine view (Qaw _ _) rfl ?_;refine Q3b h hx (fun o2 lgq1 gq1 ho hk hxa hjgq1=>?_);refine Exists.intro (Qs _ _ gxs (JP1 _ _ o2.2 (.exit 0) (Qpt p0 p1 gxs gq1))) (And.intro (Qnx (τ := Qk2 p0 p1 0 gxs ([]:List (List V))) ?_ (TL.loop ((iQfd p0 p1 0 o2 ho) _ _ _ _ hxa hjgq1))) (Qaj7 (Qa5 ?_) ?_))
  ·exact Le.tz 1 1 rfl rfl rfl
  ·have h:=hk;have hx:=hjgq1;exact Qaj5 h hx (.inl rfl) rfl
  ·exact fun s1 h1 h2 hs=>Qah1 (.inr rfl) hs
 ·intro Qfd' Qcm' iQfd iQcm p0 p1 v12 o2 h;intro gxs gp gpost gq1 hx hq;refine TL.round (Qan mixed tbOk (lv:=Qi1) _ _ _ ?_);refine Qaf h (fun hb h=>?_) (fun hb h=>?_)
  ·refine Qcv (l:=p0) (c:=Qae) (c' := Qa1) h Qai (fun _=>rfl) (by decide) (fun x3 hi h=>?_);refine Qajb (c:=Qcr) h hx (.refl _) (by exact rfl) (by exact rfl) (fun _ h hx=>?_) ?_
   ·refine bF ?_;refine Q3b h hx (fun o5 lgq4 gq4 ho hk hxa hjgq4=>?_);refine Exists.intro (Qs _ _ gxs (JP1 _ _ o5.2 (.exit 2) (Qps p0 p1 v12 x3 gxs gq4))) (And.intro (Qnx (τ := Qk1 p0 p1 v12 x3 0 gxs (gp++[Qcr (x3,p1)])) ?_ (TL.loop ((iQcm p0 p1 v12 x3 0 o5 ho) _ _ _ _ hxa hjgq4))) (Qaj7 (Qa5 ?_) ?_))
    ·exact Le.tz 2 1 rfl rfl rfl
    ·have h:=hk;have hx:=hjgq4;refine TL.le (τ := Qk2 p0 p1 (wr (v12+1)) gxs gq4) ?_ ((iQfd p0 p1 (wr (v12+1)) _ h) _ _ _ _ hx hq);exact Le.tz 1 1 rfl rfl rfl
    ·exact fun s1 h1 h2 hs =>.inr ⟨rfl,s1,.refl _ _ _,h1,h2,hs⟩
   ·refine bT ?_;exact .inr ⟨rfl,_,(Le.env0 _).trans (Le.tow 0 1 rfl .nil (.refl _) rfl),rfl,rfl,rfl⟩
  ·exact .inl (JP1.a (sndI h) (Le.tz 1 1 rfl rfl (Qaj6 h hx hq rfl)))
 ·intro Qfr' Qcm' iQfr iQcm p0 p1 v12 x3 v28 o5 h;intro gxs gp gpost gq4 hx hq;refine TL.round (Qan mixed tbOk (lv:=Qi1) _ _ _ ?_);refine Qaf h (fun hb h=>?_) (fun hb h=>?_)
  ·refine Qaj8 (l:=([x3.L,x3.Then,x3.Else]:List (List Qab))) (c:=fun x6 =>.sl false (x6.map Qae)) h rfl rfl rfl rfl (fun x6 hi h=>?_);refine Qak [.sl false (x6.map Qae),iV (wr (p1+1))] Qn7 h (fun x7 hy=>(Qum x6 (wr (p1+1)) x7 hy)) (fun x7 hy h=>?_);refine Qag h (fun y11 hy11 h=>?_);refine Q3b h hx (fun o13 lgq12 gq12 ho hk hxa hjgq12=>?_);refine Exists.intro (Qs _ _ gxs (JP1 _ _ o13.2 .normal (Qpr p0 p1 v12 x3 v28 x7 gxs gq12))) (And.intro (Qnx (τ := Qha p0 p1 v12 x3 v28 x7 gxs gp) ?_ (Q89 (g:=59) (cap:=[.ep [.sl false (x7.1.map Qae)],.ep [iV x7.2]]) rfl ((iQfr x7.1 x7.2 y11 hy11) _ rfl) (Q3a fun _=>rfl) rfl (Nat.le_of_ble_eq_true rfl) (Nat.le_of_ble_eq_true rfl) ((Qadg p0 p1 v12 x3 v28 x7 y11.1 o13 ho) _ _ _ _ hxa hjgq12))) (Qaj7 (Qa5 ?_) ?_))
   ·exact Le.tz 2 1 rfl rfl rfl
   ·have h:=hk;have hx:=hjgq12;refine TL.le (τ := Qk1 p0 p1 v12 x3 (wr (v28+1)) gxs gq12) ?_ ((iQcm p0 p1 v12 x3 (wr (v28+1)) _ h) _ _ _ _ hx hq);exact Le.tz 2 1 rfl rfl rfl
   ·exact fun s1 h1 h2 hs =>.inr ⟨rfl,s1,.refl _ _ _,h1,h2,hs⟩
  ·exact .inl (JP1.a (sndI h) (Le.tz 2 1 rfl rfl (Qaj6 h hx hq rfl)))
theorem Qvo:∀ (p0:(List Qab)) (p1:Int) (o:(List (Qab×Int))×Unit),Qfr p0 p1=some o→∀ gxs:List (List V),gxs=o.1.map Qcr→IterOK Tryz.prog 59 [.ep [.sl false (p0.map Qae)],.ep [iV p1]] gxs:=fun p0 p1=>Q1p.1 p0 p1
def Qoe (p0:(List Qab)):Option (Int) :=
 Qka p0 1>>=fun x1 =>
 Qfr x1.1 x1.2>>=fun y5 =>
 (Qfb x1 y5.1 0)>>=fun o6 =>
 some o6
theorem Q42:∀ (p0:(List Qab)) (o:Int),Qoe p0=some o→PCall Tryz.prog 18 [.sl false (p0.map Qae)] (Qrc o):=by
 intro p0 o h;unfold Qoe at h;refine PCall.ofB mixed tbOk Qo3 Tryz.func18 rfl (by kernel_rfl) (Nat.le_of_ble_eq_true rfl) ?_;refine Qak [.sl false (p0.map Qae),iV 1] Qn7 h (fun x1 hy=>(Qum p0 1 x1 hy)) (fun x1 hy h=>?_);refine Qag h (fun y5 hy5 h=>?_);refine Qag h (fun o6 ho hk=>?_);refine Exists.intro (JP1 _ _ o6 .normal (Qpq x1)) (And.intro (Qnx (τ := Qg9 x1 0) ?_ (Q89 (g:=59) (cap:=[.ep [.sl false (x1.1.map Qae)],.ep [iV x1.2]]) rfl ((Qvo x1.1 x1.2 y5 hy5) _ rfl) (Q3a fun _=>rfl) rfl (Nat.le_of_ble_eq_true rfl) (Nat.le_of_ble_eq_true rfl) (Qadf x1 y5.1 0 o6 ho))) (Qa5 ?_))
 ·exact Le.tz 1 0 rfl rfl rfl
 have h:=hk;refine Qao (t:=Qrc) h ?_;exact .refl _
def Qgh (x1:(List Qab)×Int) (l4:(List (Qab×Int))) (h0_0:Int):Option (Int) :=
 match l4 with
 | [] =>
  some h0_0
 | x2::r3 =>
  Qgh x1 r3 (if x2.2>h0_0 then x2.2 else h0_0)
 partial_fixpoint
theorem Qadx:∀ (x1:(List Qab)×Int),(∀ (l4:(List (Qab×Int))) (h0_0:Int) (o6:Int),Qgh x1 l4 h0_0=some o6→RL 1 0 Tryz.prog 14 (rgP Qns) (rgA Qns) (rgB Qns) (Qi0 x1 h0_0).env (JP1 (0,0) 14 o6 .normal (Qre x1)) (l4.map Qcr) (Qi0 x1 h0_0).s):=by
 intro x1;refine Qgh.partial_correctness x1 _ ?_;intro Qgh' iQgh l4 h0_0 o6 h;cases l4 with
 | nil =>
  refine Qae3 ?_;exact JP1.a h (Le.tz 1 0 rfl rfl rfl)
 | cons x2 r3 =>
  refine Q9g (Qan mixed tbOk (lv:=Qrd) _ _ _ ?_);refine And.intro rfl (Qan mixed tbOk (lv:=Qrd) _ _ _ ?_);exact Exists.intro (Qi0 x1 (if x2.2>h0_0 then x2.2 else h0_0)).s (And.intro (Le.tz 1 0 rfl rfl rfl) (And.intro rfl (And.intro rfl ((iQgh r3 (if x2.2>h0_0 then x2.2 else h0_0) _ h)))))
def Qrm (p0:(List Qab)):Option (Int) :=
 Qka p0 1>>=fun x1 =>
 Qfr x1.1 x1.2>>=fun y5 =>
 (Qgh x1 y5.1 0)>>=fun o6 =>
 some o6
theorem Q7z:∀ (p0:(List Qab)) (o:Int),Qrm p0=some o→PCall Tryz.prog 19 [.sl false (p0.map Qae)] (Qud o):=by
 intro p0 o h;unfold Qrm at h;refine PCall.ofB mixed tbOk Qrd Tryz.func19 rfl (by kernel_rfl) (Nat.le_of_ble_eq_true rfl) ?_;refine Qak [.sl false (p0.map Qae),iV 1] Qn7 h (fun x1 hy=>(Qum p0 1 x1 hy)) (fun x1 hy h=>?_);refine Qag h (fun y5 hy5 h=>?_);refine Qag h (fun o6 ho hk=>?_);refine Exists.intro (JP1 _ _ o6 .normal (Qre x1)) (And.intro (Qnx (τ := Qi0 x1 0) ?_ (Q89 (g:=59) (cap:=[.ep [.sl false (x1.1.map Qae)],.ep [iV x1.2]]) rfl ((Qvo x1.1 x1.2 y5 hy5) _ rfl) (Q3a fun _=>rfl) rfl (Nat.le_of_ble_eq_true rfl) (Nat.le_of_ble_eq_true rfl) (Qadx x1 y5.1 0 o6 ho))) (Qa5 ?_))
 ·exact Le.tz 1 0 rfl rfl rfl
 have h:=hk;refine Qao (t:=Qud) h ?_;exact .refl _
def Qfe (p0:(List UInt8)):Option ((List Qab)×Int×Int) :=
 Qod p0>>=fun x1 =>
 if(x1.2.2 != 0) then
  some ([],x1.2.1,x1.2.2)
 else
  Qa6 false false x1.1 0>>=fun o3 =>
  match o3 with
  | .inl x2 =>
   Qoe x2.1>>=fun x5 =>
   if(decide (x5>1024)) then
    some ([],0,5)
   else
    Qrm x2.1>>=fun x6 =>
    if(decide (x6>12)) then
     some ([],0,8)
    else
     some (x2.1,0,0)
  | .inr z4 =>
   Qd8 p0 x1.1 z4>>=fun x7 =>
   some ([],x7,7)
theorem Qg2:∀ (p0:(List UInt8)) (o:(List Qab)×Int×Int),Qfe p0=some o→PCall Tryz.prog 7 [sV p0] (Qcx o):=by
 intro p0 o h;unfold Qfe at h;refine Qafg (lv:=Q1m) ?_;refine Qak [sV p0] Qq4 h (fun x1 hy=>(Q41 p0 x1 hy)) (fun x1 hy h=>?_);refine Qaf h (fun hb h=>?_) (fun hb h=>?_)
 ·refine Exists.intro (.op 0 (.op 1 (.op 2 (.op 3 (.op 4 (.nil) (.nil)) (.nil)) (.nil)) (.op 2 (.op 1 (.op 3 (.op 4 (.nil) (.nil)) (.nil)) (.op 3 (.op 1 (.op 4 (.nil) (.nil)) (.nil)) (.nil))) (.nil))) (.op 1 (.op 0 (.op 2 (.op 3 (.op 4 (.nil) (.nil)) (.nil)) (.nil)) (.op 2 (.op 0 (.op 3 (.op 4 (.nil) (.nil)) (.nil)) (.nil)) (.nil))) (.op 2 (.op 0 (.op 1 (.op 3 (.op 4 (.nil) (.nil)) (.nil)) (.op 3 (.op 1 (.op 4 (.nil) (.nil)) (.nil)) (.nil))) (.op 1 (.op 0 (.op 3 (.op 4 (.nil) (.nil)) (.nil)) (.nil)) (.nil))) (.nil))):PT) (Exists.intro _ (And.intro (by decide +kernel) (And.intro (And.intro (And.intro (And.intro (And.intro (And.intro (rfl) (trivial)) (trivial)) (trivial)) (And.intro (And.intro (And.intro (And.intro (rfl) (trivial)) (trivial)) (And.intro (And.intro (And.intro (rfl) (trivial)) (trivial)) (trivial))) (trivial))) (And.intro (And.intro (And.intro (And.intro (And.intro (rfl) (trivial)) (trivial)) (trivial)) (And.intro (And.intro (And.intro (And.intro (rfl) (trivial)) (trivial)) (trivial)) (trivial))) (And.intro (And.intro (And.intro (And.intro (And.intro (rfl) (trivial)) (trivial)) (And.intro (And.intro (And.intro (rfl) (trivial)) (trivial)) (trivial))) (And.intro (And.intro (And.intro (And.intro (rfl) (trivial)) (trivial)) (trivial)) (trivial))) (trivial)))) ?_)));refine Qao (t:=Qcx) h ?_;exact .tup (xs:=[.sl true [],iV x1.2.1,iV x1.2.2]) (ys:=[.sl false [],iV x1.2.1,iV x1.2.2]) (.cons (.not) (.cons (.refl _) (.cons (.refl _) (.nil))))
 ·refine And.intro rfl (And.intro rfl (And.intro rfl (And.intro rfl (And.intro rfl (And.intro rfl (And.intro rfl ?_))))));refine xle ?_;refine Qbk _ _ _ h (fun x2 hy=>(Qkq false false x1.1 0 (.inl x2) hy).a.fr [4] [] rfl rfl rfl) (fun z4 hy=>(Qkq false false x1.1 0 (.inr z4) hy).b.fr [4] [] rfl rfl rfl) (fun x2 hy h=>?_) (fun z4 hy h=>?_)
  ·refine Qak [.sl false (x2.1.map Qae)] Qrc h (fun x5 hy=>(Q42 x2.1 x5 hy)) (fun x5 hy h=>?_);refine Qaf h (fun hb h=>?_) (fun hb h=>?_)
   ·refine Qao (t:=Qcx) h ?_;exact .tup (xs:=[.sl true [],iV 0,iV 5]) (ys:=[.sl false [],iV 0,iV 5]) (.cons (.not) (.cons (.refl _) (.cons (.refl _) (.nil))))
   ·refine Qak [.sl false (x2.1.map Qae)] Qud h (fun x6 hy=>(Q7z x2.1 x6 hy)) (fun x6 hy h=>?_);refine Qaf h (fun hb h=>?_) (fun hb h=>?_)
    ·refine Qao (t:=Qcx) h ?_;exact .tup (xs:=[.sl true [],iV 0,iV 8]) (ys:=[.sl false [],iV 0,iV 8]) (.cons (.not) (.cons (.refl _) (.cons (.refl _) (.nil))))
    ·refine Qao (t:=Qcx) h ?_;exact .refl _
  ·refine And.intro rfl (And.intro rfl (And.intro rfl (And.intro rfl (And.intro rfl (And.intro rfl ?_)))));refine Qah _ _ h (fun x7 hy=>((Qrl p0 x1.1 z4 x7 hy).fr [4] [] rfl rfl rfl)) (fun x7 hy h=>?_);refine And.intro rfl ?_;refine Qao (t:=Qcx) h ?_;exact .tup (xs:=[.sl true [],iV x7,iV 7]) (ys:=[.sl false [],iV x7,iV 7]) (.cons (.not) (.cons (.refl _) (.cons (.refl _) (.nil))))
def Qdp:Option (Bool) :=
 Qfe [123,123,32,105,102,32,120,46,121,32,125,125,97,123,123,32,101,110,100,32,125,125]>>=fun x1 =>
 Qfe [123,123,32,101,110,100,32,125,125]>>=fun x2 =>
 Qfe [123,123,32,105,102,32,120,32,125,125]>>=fun x3 =>
 ( if(x1.2.2==0) then
   if((x1.1.length:Int)==1) then
    idx x1.1 0>>=fun x5 =>
    if(x5.Kind==10) then
     idx x1.1 0>>=fun x6 =>
     if((x6.Then.length:Int)==1) then
      if(x2.2.2==7) then
       if(x2.2.1==3) then
        if(x3.2.2==7) then
         some (x3.2.1==10)
        else
         some false
       else
        some false
      else
       some false
     else
      some false
    else
     some false
   else
    some false
  else
   some false:Option (Bool))>>=fun o4 =>
 some o4
theorem Qlb:∀ (o:Bool),Qdp  = some o→PCall Tryz.prog 10 [] (Qe2 o):=by
 intro o h;unfold Qdp at h;refine PCall.ofB mixed tbOk Qsv Tryz.func10 rfl (by kernel_rfl) (Nat.le_of_ble_eq_true rfl) ?_;refine Qak [sV [123,123,32,105,102,32,120,46,121,32,125,125,97,123,123,32,101,110,100,32,125,125]] Qcx h (fun x1 hy=>(Qg2 [123,123,32,105,102,32,120,46,121,32,125,125,97,123,123,32,101,110,100,32,125,125] x1 hy)) (fun x1 hy h=>?_);refine Qak [sV [123,123,32,101,110,100,32,125,125]] Qcx h (fun x2 hy=>(Qg2 [123,123,32,101,110,100,32,125,125] x2 hy)) (fun x2 hy h=>?_);refine Qak [sV [123,123,32,105,102,32,120,32,125,125]] Qcx h (fun x3 hy=>(Qg2 [123,123,32,105,102,32,120,32,125,125] x3 hy)) (fun x3 hy h=>?_);refine Qag h (fun o4 ho hk=>?_);refine Exists.intro (JP1 _ _ o4 .normal (Qp3 )) (And.intro ?_ (Qa5 ?_))
 ·have h:=ho;refine Qaf h (fun hb h=>?_) (fun hb h=>?_)
  ·refine view (Qaw _ _) rfl ?_;refine Qaf h (fun hb h=>?_) (fun hb h=>?_)
   ·refine Qcv (l:=x1.1) (c:=Qae) (c' := Qa1) h Qai (fun _=>rfl) (by decide) (fun x5 hi h=>?_);refine Qaf h (fun hb h=>?_) (fun hb h=>?_)
    ·refine Qcv (l:=x1.1) (c:=Qae) (c' := Qa1) h Qai (fun _=>rfl) (by decide) (fun x6 hi h=>?_);refine view (Qaw _ _) rfl ?_;refine Qaf h (fun hb h=>?_) (fun hb h=>?_)
     ·refine Qaf h (fun hb h=>?_) (fun hb h=>?_)
      ·refine Qaf h (fun hb h=>?_) (fun hb h=>?_)
       ·refine Qaf h (fun hb h=>?_) (fun hb h=>?_)
        ·refine JP1.a h ?_;exact Le.tz 0 0 rfl rfl rfl
        ·refine JP1.a h ?_;exact Le.tz 0 0 rfl rfl rfl
       ·refine bF ?_;refine JP1.a h ?_;exact Le.tz 0 0 rfl rfl rfl
      ·refine bF ?_;refine bF ?_;refine JP1.a h ?_;exact Le.tz 0 0 rfl rfl rfl
     ·refine bF ?_;refine bF ?_;refine bF ?_;refine JP1.a h ?_;exact Le.tz 0 0 rfl rfl rfl
    ·refine bF ?_;refine bF ?_;refine bF ?_;refine bF ?_;refine JP1.a h ?_;exact Le.tz 0 0 rfl rfl rfl
   ·refine bF ?_;refine bF ?_;refine bF ?_;refine bF ?_;refine bF ?_;refine JP1.a h ?_;exact Le.tz 0 0 rfl rfl rfl
  ·refine bF ?_;refine bF ?_;refine bF ?_;refine bF ?_;refine bF ?_;refine bF ?_;refine JP1.a h ?_;exact Le.tz 0 0 rfl rfl rfl
 ·have h:=hk;refine Qao (t:=Qe2) h ?_;exact .refl _
def Qgi (p0:(List UInt8)):Option ((List UInt8)) :=
 cutL p0 0 (if 400<(p0.length:Int) then 400 else(p0.length:Int))>>=fun x1 =>
 some x1
theorem Qvp:∀ (p0:(List UInt8)) (o:(List UInt8)),Qgi p0=some o→PCall Tryz.prog 6 [sV p0] (Qjy o):=by
 intro p0 o h;unfold Qgi at h;refine PCall.ofB mixed tbOk Qvg Tryz.func6 rfl (by kernel_rfl) (Nat.le_of_ble_eq_true rfl) ?_;refine vrfl ?_;refine Qel none (some (if 400<(p0.length:Int) then 400 else(p0.length:Int))) h (fun x1 hi h=>?_);refine Qao (t:=Qjy) h ?_;exact .refl _
def Qc7 (p0:(List UInt8)):Option (Bool) :=
 Qgi p0>>=fun x1 =>
 Qfe x1>>=fun x2 =>
 Qrg x1>>=fun x3 =>
 ( if(x2.2.2 != x3.2.2) then
   some true
  else
   if(x2.2.1 != x3.2.1) then
    some true
   else
    Qhc x2.1 x3.1>>=fun x5 =>
    some (!x5):Option (Bool))>>=fun o4 =>
 if o4 then
  some false
 else
  if(x2.2.2 != 0) then
   ( if((x2.1.length:Int)==0) then
     Qdp>>=fun x7 =>
     some x7
    else
     some false:Option (Bool))>>=fun o6 =>
   some o6
  else
   Qoc x3.1>>=fun x8 =>
   Qfe x8.1>>=fun x9 =>
   ( if x8.2 then
     if(x9.2.2==0) then
      Qhc x9.1 x3.1>>=fun x11 =>
      if x11 then
       Qdp>>=fun x12 =>
       some x12
      else
       some false
     else
      some false
    else
     some false:Option (Bool))>>=fun o10 =>
   some o10
theorem Qnu:∀ (p0:(List UInt8)) (o:Bool),Qc7 p0=some o→PCall Tryz.prog 3 [sV p0] (Qdk o):=by
 intro p0 o h;unfold Qc7 at h;refine PCall.ofB mixed tbOk Qnr Tryz.func3 rfl (by kernel_rfl) (Nat.le_of_ble_eq_true rfl) ?_;refine Qak [sV p0] Qjy h (fun x1 hy=>(Qvp p0 x1 hy)) (fun x1 hy h=>?_);refine Qak [sV x1] Qcx h (fun x2 hy=>(Qg2 x1 x2 hy)) (fun x2 hy h=>?_);refine Qak [sV x1] Qf9 h (fun x3 hy=>(Q7x x1 x3 hy)) (fun x3 hy h=>?_);refine Qag h (fun o4 ho hk=>?_);refine Exists.intro (JP1 _ _ o4 .normal (Ql8 x2 x3)) (And.intro ?_ (Qa5 ?_))
 ·have h:=ho;refine Qaf h (fun hb h=>?_) (fun hb h=>?_)
  ·refine bT ?_;refine JP1.a h ?_;exact Le.tz 0 0 rfl rfl rfl
  ·refine Qaf h (fun hb h=>?_) (fun hb h=>?_)
   ·refine JP1.a h ?_;exact Le.tz 0 0 rfl rfl rfl
   ·refine Qak [.sl false (x2.1.map Qae),.sl false (x3.1.map Qae)] Qfo h (fun x5 hy=>(Qz8 x2.1 x3.1 x5 hy)) (fun x5 hy h=>?_);refine JP1.a h ?_;exact Le.tz 0 0 rfl rfl rfl
 ·have h:=hk;refine Qaf h (fun hb h=>?_) (fun hb h=>?_)
  ·refine Qao (t:=Qdk) h ?_;exact .refl _
  ·refine Qaf h (fun hb h=>?_) (fun hb h=>?_)
   ·refine Qag h (fun o6 ho hk=>?_);refine Exists.intro (JP1 _ _ o6 .normal (Ql9 )) (And.intro ?_ (Qa5 ?_))
    ·have h:=ho;refine view (Qaw _ _) rfl ?_;refine Qaf h (fun hb h=>?_) (fun hb h=>?_)
     ·refine Qak [] Qe2 h (fun x7 hy=>(Qlb x7 hy)) (fun x7 hy h=>?_);refine JP1.a h ?_;exact Le.tz 0 0 rfl rfl rfl
     ·refine JP1.a h ?_;exact Le.tz 0 0 rfl rfl rfl
    ·have h:=hk;refine Qao (t:=Qdk) h ?_;exact .refl _
   ·refine Qak [.sl false (x3.1.map Qae)] Ql1 h (fun x8 hy=>(Q7v x3.1 x8 hy)) (fun x8 hy h=>?_);refine Qak [sV x8.1] Qcx h (fun x9 hy=>(Qg2 x8.1 x9 hy)) (fun x9 hy h=>?_);refine Qag h (fun o10 ho hk=>?_);refine Exists.intro (JP1 _ _ o10 .normal (Qma )) (And.intro ?_ (Qa5 ?_))
    ·have h:=ho;refine Qaf h (fun hb h=>?_) (fun hb h=>?_)
     ·refine Qaf h (fun hb h=>?_) (fun hb h=>?_)
      ·refine Qak [.sl false (x9.1.map Qae),.sl false (x3.1.map Qae)] Qfo h (fun x11 hy=>(Qz8 x9.1 x3.1 x11 hy)) (fun x11 hy h=>?_);refine Qaf h (fun hb h=>?_) (fun hb h=>?_)
       ·refine Qak [] Qe2 h (fun x12 hy=>(Qlb x12 hy)) (fun x12 hy h=>?_);refine JP1.a h ?_;exact Le.tz 0 0 rfl rfl rfl
       ·refine JP1.a h ?_;exact Le.tz 0 0 rfl rfl rfl
      ·refine bF ?_;refine JP1.a h ?_;exact Le.tz 0 0 rfl rfl rfl
     ·refine bF ?_;refine bF ?_;refine JP1.a h ?_;exact Le.tz 0 0 rfl rfl rfl
    ·have h:=hk;refine Qao (t:=Qdk) h ?_;exact .refl _
end Go.Proofs.YtagokkpnfceidaaGreatDoor
end

noncomputable section
namespace Go.Proofs.YtagokkpnfceidaaGreatDoor
open Go.RowKit
set_option linter.unusedSimpArgs false
set_option linter.unusedVariables false
mutual
def nn:Qab→Nat
 | ⟨_,_,_,_,a,b,c⟩=>1+nns a+nns b+nns c
def nns:List Qab→Nat
 | []=>0
 | x::r=>nn x+nns r
end
mutual
def dp:Qab→Nat
 | ⟨_,_,_,_,a,b,c⟩=>1+max (dps a) (max (dps b) (dps c))
def dps:List Qab→Nat
 | []=>0
 | x::r=>max (dp x) (dps r)
end
theorem Qf4(x:Qab):nn x=1+nns x.L+nns x.Then+nns x.Else:=by cases x; rw[nn]
theorem Qaif(x:Qab):dp x=1+max (dps x.L) (max (dps x.Then) (dps x.Else)):=by cases x; rw[dp]
theorem Qjk(x:Qab):1≤nn x:=by rw[Qf4]; omega
theorem Qj4:∀ l:List Qab,l.length≤nns l
 | []=>by simp[nns]
 | x::r=>by have:=Qj4 r; have:=Qjk x; simp[nns]; omega
theorem Qgj:∀ {l:List Qab} {x:Qab},x ∈ l→nn x≤nns l
 | y::r,x,h=>by
  rcases List.mem_cons.1 h with rfl | h
  ·simp[nns]
  ·have:=Qgj h; simp[nns]; omega
theorem Q43:∀ a b:List Qab,nns (a++b)=nns a+nns b
 | [],b=>by simp[nns]
 | x::r,b=>by simp[nns,Q43 r b]; omega
theorem Qakd{l:List UInt8}{k:Nat}:(l.take (if(k:Int)<(l.length:Int) then(k:Int) else(l.length:Int)).toNat).drop (0:Int).toNat=l.take k:=by
 split
 ·simp
 ·simp;rw[List.take_of_length_le (by omega)]
theorem Qaln(l:List UInt8)(k:Nat):cutL l 0 (if(k:Int)<(l.length:Int) then(k:Int) else(l.length:Int))=some (l.take k):=by
 rw[Qku (by omega) (by split<;>omega) (by split<;>omega),Qakd]
mutual
def Qake:Qab→Qab→Bool
 | ⟨k,s,t,n,a,b,c⟩,y=>k==y.Kind&&(s==y.Name&&(t==y.Text&&(n==y.N&&(Qkr a y.L&&(Qkr b y.Then&&Qkr c y.Else)))))
def Qkr:List Qab→List Qab→Bool
 | [],m=>m.isEmpty
 | x::r,m=>match m with
  | []=>false
  | y::q=>Qake x y&&Qkr r q
end
theorem Qabl(x y:Qab):Qake x y=(x.Kind==y.Kind&&(x.Name==y.Name&&(x.Text==y.Text&&(x.N==y.N&&(Qkr x.L y.L&&(Qkr x.Then y.Then&&Qkr x.Else y.Else)))))):=by cases x; rw[Qake]
theorem Q2g:∀ n (l:List Qab),nns l≤n→Qkr l l=true:=by
 intro n
 induction n with
 | zero=>intro l h; cases l with
  | nil=>simp[Qkr]
  | cons x r=>have:=Qjk x; simp[nns] at h; omega
 | succ n ih =>
  intro l
  induction l with
  | nil=>intro _; simp[Qkr]
  | cons x r ihr =>
   intro h;rw[nns,Qf4] at h;rw[Qkr,Qabl,ih _ (by omega:nns x.L≤n),ih _ (by omega:nns x.Then≤n),ih _ (by omega:nns x.Else≤n),ihr (by omega)];simp
theorem Q70:∀ (a b:List Qab),a.length≠b.length→Qkr a b=false
 | [],[],h=>absurd rfl h
 | [],y::q,_=>by simp[Qkr]
 | x::r,[],_=>by simp[Qkr]
 | x::r,y::q,h=>by
  rw[Qkr,Q70 r q (by simpa using h)];simp
section
end
theorem neI(a b:Nat):((a:Int) != (b:Int))=(a != b):=by
 by_cases h:a=b
 ·subst h; simp
 ·have:(a:Int)≠b:=by omega
  rw[bne_iff_ne.2 h,bne_iff_ne.2 this]
section
variable (n:Nat) (ih:∀ a b:List Qab,nns a≤n→Qhc a b=some (Qkr a b))
include ih
theorem Qalo(a b:List Qab)(hl:a.length=b.length)(h:nns a≤n+1)(hlen:a.length<9223372036854775807):∀ k,k≤a.length →
  Qhv a b k=some (if Qkr (a.drop k) (b.drop k) then .inl () else .inr ()):=by
 refine upto ?_ fun k hk ihk=>?_
 ·rw[Qhv];rw[hl,List.drop_length,← hl,List.drop_length];simp[Qkr]
 ·have hk2:k<b.length:=by omega
  have hx:=Qgj (List.getElem_mem hk);rw[Qf4] at hx;rw[Qhv,Qbn (by omega),ihk];simp only[ltI,hk,decide_true,if_true,Qbr,getE hk,getE hk2,Qac];rw[ih a[k].L b[k].L (by omega),ih a[k].Then b[k].Then (by omega),ih a[k].Else b[k].Else (by omega)];simp only[Qac];rw[Qcj hk,Qcj hk2,Qkr,Qabl];have e:∀ p q:Int,(p != q) = !(p==q):=fun p q=>rfl
  simp only[e];cases (a[k].Kind==b[k].Kind)<;>cases (a[k].Name==b[k].Name)<;>cases (a[k].Text==b[k].Text)<;>cases (a[k].N==b[k].N)<;>cases (Qkr a[k].L b[k].L)<;>cases (Qkr a[k].Then b[k].Then)<;>cases (Qkr a[k].Else b[k].Else)<;>rfl
end
theorem Qalp:∀ n (a b:List Qab),n<9223372036854775807→nns a≤n→Qhc a b=some (Qkr a b):=by
 intro n
 induction n with
 | zero =>
  intro a b _ h;have ha:a=[]:=List.eq_nil_of_length_eq_zero (by have:=Qj4 a; omega);subst ha;rw[Qhc,neI];cases b with
  | nil=>rw[show(0:Int)=((0:Nat):Int) from rfl,Qhv]; simp[Qkr]
  | cons y q=>simp[Qkr]
 | succ n ih =>
  intro a b hn h;rw[Qhc,neI];by_cases hl:a.length=b.length
  ·have:=Qalo n (fun a b=>ih a b (by omega)) a b hl h (by have:=Qj4 a; omega) 0 (by omega);rw[show(0:Int)=((0:Nat):Int) from rfl,this];simp only[hl,bne_self_eq_false,Bool.false_eq_true,if_false,Qac,List.drop_zero];cases Qkr a b<;>rfl
  ·rw[Q70 a b hl,bne_iff_ne.2 hl];rfl
def Qer(c:UInt8):Bool:=decide (97≤c.toNat)&&decide (c.toNat≤122)
def digB(c:UInt8):Bool:=decide (48≤c.toNat)&&decide (c.toNat≤57)
def letB(c:UInt8):Bool:=Qer c||(digB c||c.toNat==95)
def Qakf:List UInt8→Bool
 | []=>false
 | c::_=>decide (97≤c.toNat)
theorem Qwm(c:UInt8)(r:List UInt8):Qakf (c::r)=decide (97≤c.toNat):=rfl
def Qd2(s:List UInt8):Bool := !(s==[])&&(decide (s.length≤32)&&(Qakf s&&s.all letB))
theorem geN(n k:Nat):decide ((n:Int) ≥ (k:Int))=decide (k≤n):=by
 by_cases h:k≤n
 ·rw[decide_eq_true h,decide_eq_true (by omega:(n:Int) ≥ k)]
 ·rw[decide_eq_false h,decide_eq_false (by omega)]
theorem leN(n k:Nat):decide ((n:Int)≤(k:Int))=decide (n≤k):=by
 by_cases h:n≤k
 ·rw[decide_eq_true h,decide_eq_true (by omega:(n:Int)≤k)]
 ·rw[decide_eq_false h,decide_eq_false (by omega)]
theorem eqN(n k:Nat):((n:Int)==(k:Int))=(n==k):=by
 by_cases h:n=k
 ·subst h; simp
 ·rw[beq_eq_false_iff_ne.2 h,beq_eq_false_iff_ne.2 (by omega)]
theorem Qafu(c:UInt8):Qko (c.toNat:Int)=some (digB c):=by
 have a:=geN c.toNat 48;have b:=leN c.toNat 57;rw[Qko];rw[show(48:Int)=((48:Nat):Int) from rfl,show(57:Int)=((57:Nat):Int) from rfl,a,b,digB];cases decide (48≤c.toNat)<;>rfl
theorem Qabm(c:UInt8):Qg0 (c.toNat:Int)=some (digB c):=by
 have a:=geN c.toNat 48;have b:=leN c.toNat 57;rw[Qg0];rw[show(48:Int)=((48:Nat):Int) from rfl,show(57:Int)=((57:Nat):Int) from rfl,a,b,digB];cases decide (48≤c.toNat)<;>rfl
theorem Qabn(c:UInt8):Qg1 (c.toNat:Int)=some (Qer c):=by
 have a:=geN c.toNat 97;have b:=leN c.toNat 122;rw[Qg1];rw[show(97:Int)=((97:Nat):Int) from rfl,show(122:Int)=((122:Nat):Int) from rfl,a,b,Qer];cases decide (97≤c.toNat)<;>rfl
theorem Q95(c:UInt8):Qj3 (c.toNat:Int)=some (letB c):=by
 have a:=geN c.toNat 97;have b:=leN c.toNat 122;have d:=eqN c.toNat 95;rw[Qj3,Qafu];rw[show(97:Int)=((97:Nat):Int) from rfl,show(122:Int)=((122:Nat):Int) from rfl,show(95:Int)=((95:Nat):Int) from rfl,a,b,d,letB,Qer];simp only[Qac];cases decide (97≤c.toNat)<;>cases decide (c.toNat≤122)<;>cases digB c<;>cases (c.toNat==95)<;>rfl
theorem Qalq(s:List UInt8)(hs:s.length<9223372036854775807):∀ k,k≤s.length→Qhx s k=some (if(s.drop k).all letB then .inl () else .inr ()):=by
 refine upto ?_ fun k hk ih=>?_
 ·rw[Qhx]; simp
 ·rw[Qhx,Qbn (by omega),ih];simp only[ltI,hk,decide_true,if_true,Qbr,getE hk,Qac,Q95];rw[Qcj hk,List.all_cons];cases letB s[k]<;>rfl
theorem Qakg(s:List UInt8)(hs:s.length<9223372036854775807):Qna s=some (Qd2 s):=by
 have h:=Qalq s hs 0 (by omega);rw[Qna,show(0:Int)=((0:Nat):Int) from rfl,h,List.drop_zero,Qd2];have e:=leN s.length 32;rw[show(32:Int)=((32:Nat):Int) from rfl,e];cases ha:s.all letB with
 | false=>cases (s==[])<;>cases decide (s.length≤32)<;>cases Qakf s<;>rfl
 | true =>
  cases s with
  | nil=>rfl
  | cons c r =>
   have g:=geN c.toNat 97;rw[show(97:Int)=((97:Nat):Int) from rfl];simp only[if_true,Qac,Qbr,List.getElem?_cons_zero,g,Qwm];have e0:((c::r)==([]:List UInt8))=false:=rfl;rw[e0];cases decide ((c::r).length≤32)<;>simp
theorem Qabo{c:UInt8}(h:letB c=true):Qer c=decide (97≤c.toNat):=by
 unfold letB Qer digB at *;by_cases h1:97≤c.toNat
 ·rw[decide_eq_true h1] at h ⊢;simp at h ⊢;omega
 ·rw[decide_eq_false h1]; rfl
theorem Qalr(s:List UInt8)(hs:s.length<9223372036854775807):∀ k,k≤s.length→Qhs s k=some (if(s.drop k).all letB then .inl () else .inr ()):=by
 refine upto ?_ fun k hk ih=>?_
 ·rw[Qhs]; simp
 ·have d:=eqN s[k].toNat 95;rw[Qhs,Qbn (by omega),ih];simp only[ltI,hk,decide_true,if_true,Qbr,getE hk,Qac,Qabn,Qabm];rw[Qcj hk,List.all_cons,letB];have e:(((s[k].toNat:Nat):Int) != 95) = !(s[k].toNat==95):=by rw[← d]; rfl
  rw[e];cases Qer s[k]<;>cases digB s[k]<;>cases (s[k].toNat==95)<;>rfl
theorem Qaig(s:List UInt8)(hs:s.length<9223372036854775807):Qj9 s=some (Qd2 s):=by
 have h:=Qalr s hs 0 (by omega);rw[Qj9,show(0:Int)=((0:Nat):Int) from rfl,h,List.drop_zero,Qd2];cases s with
 | nil=>rfl
 | cons c r =>
  have e1:decide ((((c::r).length:Nat):Int)<1)=false:=decide_eq_false (by simp; omega);have e2:decide ((((c::r).length:Nat):Int)>32) = !(decide ((c::r).length≤32)):=by
   by_cases h:(c::r).length≤32
   ·rw[decide_eq_true h,decide_eq_false (by omega)]; rfl
   ·rw[decide_eq_false h,decide_eq_true (by omega)]; rfl
  simp only[e1,e2,Bool.false_eq_true,if_false,Qbr,List.getElem?_cons_zero,Qac,Qabn,Qwm];have e0:((c::r)==([]:List UInt8))=false:=rfl;rw[e0];cases ha:(c::r).all letB with
  | true =>
   have hl:letB c=true:=by rw[List.all_cons,Bool.and_eq_true] at ha; exact ha.1
   rw[Qabo hl];cases decide ((c::r).length≤32)<;>cases decide (97≤c.toNat)<;>rfl
  | false=>cases decide ((c::r).length≤32)<;>cases decide (97≤c.toNat)<;>cases Qer c<;>rfl
theorem Qafv(a b:List UInt8):s2b (a++b)=s2b a++s2b b:=by simp[s2b]
theorem Qwn(a:List UInt8):(s2b a).length=a.length:=by simp[s2b]
theorem Qakh(l:List UInt8):b2s (s2b l)=some l:=by
 unfold b2s s2b;rw[if_pos]
 ·rw[List.map_map];congr 1;have:∀ c:UInt8,((fun n:Int=>UInt8.ofNat n.toNat) ∘ fun c:UInt8=>(c.toNat:Int)) c=c:=fun c=>by simp
  rw[show((fun n:Int=>UInt8.ofNat n.toNat) ∘ fun c:UInt8=>(c.toNat:Int))=id from funext this,List.map_id]
 ·rw[List.all_eq_true];intro n hn;obtain⟨c,-,rfl⟩:=List.mem_map.1 hn;have:=c.toNat_lt;simp only[decide_eq_true_eq];omega
def kws:List (List UInt8):=[[105,102],[101,108,115,101],[101,110,100],[101,97,99,104],[105,110],[108,101,116],[117,115,101],[116,114,117,101],[102,97,108,115,101],[115,101,99,114,101,116]]
def Qfu(s:List UInt8):Bool := !(kws.any (· == s))&&Qd2 s
theorem Qam2(s:List UInt8)(hs:s.length<9223372036854775807):Qrj s=some (Qfu s):=by
 have c:∀ a:List UInt8,(a==s)=(s==a):=fun a=>by rw[Bool.beq_comm]
 rw[Qrj,Qakg s hs,Qfu];simp only[kws,List.any_cons,List.any_nil,c];generalize (s==[105,102])=a1;generalize (s==[101,108,115,101])=a2;generalize (s==[101,110,100])=a3;generalize (s==[101,97,99,104])=a4;generalize (s==[105,110])=a5;generalize (s==[108,101,116])=a6;generalize (s==[117,115,101])=a7;generalize (s==[116,114,117,101])=a8;generalize (s==[102,97,108,115,101])=a9;generalize (s==[115,101,99,114,101,116])=a10;generalize Qd2 s=b;cases a1
 ·cases a2
  ·cases a3
   ·cases a4
    ·cases a5
     ·cases a6
      ·cases a7
       ·cases a8
        ·cases a9
         ·cases a10<;>cases b<;>rfl
         ·rfl
        ·rfl
       ·rfl
      ·rfl
     ·rfl
    ·rfl
   ·rfl
  ·rfl
 ·rfl
theorem Qals(s:List UInt8)(l:List (List UInt8))(hl:l.length<9223372036854775807):∀ k,k≤l.length→Qge s l k=some (if(l.drop k).any (· == s) then .inr () else .inl ()):=by
 refine upto ?_ fun k hk ih=>?_
 ·rw[Qge]; simp
 ·rw[Qge,Qbn (by omega),ih];simp only[ltI,hk,decide_true,if_true,Qbr,getE hk,Qac];rw[Qcj hk,List.any_cons];cases (l[k]==s)<;>rfl
theorem Qaki(s:List UInt8)(hs:s.length<9223372036854775807):Qlh s=some (Qfu s):=by
 have h:=Qals s kws (by decide) 0 (by omega);rw[Qlh,Qvj];simp only[Qac,Qaig s hs];rw[show(0:Int)=((0:Nat):Int) from rfl];show(Qge s kws _>>=_)=_;rw[h,List.drop_zero,Qfu];cases kws.any (· == s)<;>rfl
theorem Qakj{s:List UInt8}(h:Qd2 s=true):(s==[])=false:=by
 unfold Qd2 at h;cases hs:(s==[]) with
 | false=>rfl
 | true=>rw[hs] at h; cases h
theorem Qml{s:List UInt8}(h:Qfu s=true):Qd2 s=true:=by
 unfold Qfu at h;cases hw:Qd2 s with
 | true=>rfl
 | false=>rw[hw] at h; simp at h
def hasB:List UInt8→Bool
 | []=>false
 | c::r=>(c==123&&r.head? == some 123)||hasB r
theorem Qakk(s:List UInt8)(k:Nat)(hk:k<s.length)(hs:s.length<4294967281):Qcs s [123,123] k=some (match s.drop k with | []=>false | c::r=>c==123&&r.head? == some 123):=by
 have e1:decide ((k:Int) ≥ 0)=true:=decide_eq_true (by omega);have e2:decide ((k:Int)≤(s.length:Int))=true:=decide_eq_true (by omega);have e3:wr ((s.length:Int)-k)=((s.length-k:Nat):Int):=by rw[Qd0 (by omega) (by omega)]; omega
 have e4:wr ((k:Int)+(([123,123]:List UInt8).length:Int))=((k+2:Nat):Int):=by rw[Qd0 (by simp; omega) (by simp; omega)]; simp
 rw[Qcs,e1,e2,e3,e4];simp only[if_true];by_cases h2:2≤s.length-k
 ·have e5:decide (((([123,123]:List UInt8).length:Nat):Int)≤((s.length-k:Nat):Int))=true:=decide_eq_true (by simp; omega);rw[e5,Qku (by omega) (by omega) (by omega)];simp only[if_true,Qac];have hk1:k+1<s.length:=by omega
  have e6:(s.take (k+2)).drop k=[s[k],s[k+1]]:=by
   apply List.ext_getElem
   ·simp; omega
   ·intro i h1 h2;simp at h1 h2
    match i,h2 with
    | 0,_=>simp
    | 1,_=>simp
  rw[Int.toNat_natCast,Int.toNat_natCast,e6,Qcj hk,Qcj hk1];simp only[List.head?_cons];have:(([s[k],s[k+1]]:List UInt8)==[123,123])=(s[k]==123&&(some s[k+1]==some 123)):=by
   have e:(some s[k+1]==some (123:UInt8))=(s[k+1]==123):=rfl;rw[e,List.cons_beq_cons,List.cons_beq_cons];show(s[k]==123&&(s[k+1]==123&&true))=_;rw[Bool.and_true]
  rw[this]
 ·have e5:decide (((([123,123]:List UInt8).length:Nat):Int)≤((s.length-k:Nat):Int))=false:=decide_eq_false (by simp; omega);rw[e5,Qcj hk];have:s.drop (k+1)=[]:=List.drop_eq_nil_of_le (by omega);rw[this];simp
theorem Qaih(s:List UInt8)(hs:s.length<4294967281):∀ k,k≤s.length→Qe7 s [123,123] k=some (if hasB (s.drop k) then .inr () else .inl ()):=by
 refine upto ?_ fun k hk ih=>?_
 ·rw[Qe7]; simp[hasB]
 ·rw[Qe7,Qbn (by omega),ih,Qakk s k hk hs];simp only[ltI,hk,decide_true,if_true,Qac];rw[Qcj hk,hasB];show(if(s[k]==123&&(s.drop (k+1)).head? == some 123)=true then _ else _)=_;generalize (s[k]==123&&(s.drop (k+1)).head? == some 123)=b;cases b<;>rfl
theorem Qakl(s:List UInt8)(hs:s.length<4294967281):Qob s [123,123]=some (hasB s):=by
 have h:=Qaih s hs 0 (by omega);rw[Qob,show(0:Int)=((0:Nat):Int) from rfl,h,List.drop_zero];cases hasB s<;>rfl
def endB(s:List UInt8):Bool:=s.getLast? == some 123
theorem rEnd(s:List UInt8)(hs:s.length<4294967281)(hne:(s==[])=false):(idx s (wr ((s.length:Int)-1))>>=fun x=>some ((x.toNat:Int)==123))=some (endB s):=by
 have hne:s≠[]:=fun h=>by subst h; cases hne
 have hpos:0<s.length:=List.length_pos_iff.2 hne;have e2:wr ((s.length:Int)-1)=((s.length-1:Nat):Int):=by rw[Qd0 (by omega) (by omega)]; omega
 have h1:s.length-1<s.length:=by omega
 rw[e2,Qbr,getE h1,Qac,endB,List.getLast?_eq_getElem?,getE h1];have d:=eqN s[s.length-1].toNat 123;rw[show(123:Int)=((123:Nat):Int) from rfl,d];congr 1;by_cases h:s[s.length-1]=123
 ·rw[h]; rfl
 ·have:s[s.length-1].toNat≠123:=fun e=>h (UInt8.toNat_inj.1 (by rw[e]; rfl))
  rw[beq_eq_false_iff_ne.2 this]
  symm
  rw[beq_eq_false_iff_ne];intro e; exact h (Option.some.inj e)
mutual
def allN(Q:Qab→Prop):Qab→Prop
 | ⟨k,s,t,n,a,b,c⟩=>Q ⟨k,s,t,n,a,b,c⟩∧allL Q a∧allL Q b∧allL Q c
def allL(Q:Qab→Prop):List Qab→Prop
 | []=>True
 | x::r=>allN Q x∧allL Q r
end
theorem Qhy(Q:Qab→Prop)(x:Qab):allN Q x↔(Q x∧allL Q x.L∧allL Q x.Then∧allL Q x.Else):=by cases x; rw[allN]
theorem Qhe{Q:Qab→Prop}:∀ {l:List Qab} {x:Qab},x ∈ l→allL Q l→allN Q x
 | y::r,x,h,hs=>by
  rw[allL] at hs;rcases List.mem_cons.1 h with rfl | h
  ·exact hs.1
  ·exact Qhe h hs.2
theorem Qsg{Q:Qab→Prop}:∀ a b:List Qab,allL Q (a++b)↔(allL Q a∧allL Q b)
 | [],b=>by simp[allL]
 | x::r,b=>by simp[allL,Qsg r b,and_assoc]
structure okNd (x:Qab):Prop where
 nm:x.Name.length≤1000000
 tx:x.Text.length≤1000000
 rg : -9223372036854775808≤x.N∧x.N≤9223372036854775807
 qt:x.Kind=1→∃ q,Qi2 x.Text=some q∧Qi2 x.Text=some q
def Qjl (s:List UInt8):List UInt8×Bool:=(Qi2 s).getD ([],false)
def zl(l:List Qab):Bool:=l.length==0
mutual
def Qhz:Qab→Bool
 | ⟨k,s,t,n,a,b,c⟩ =>
  if k==1 then(Qjl t).2&&(s==[]&&(n==0&&(zl a&&(zl b&&zl c)))) else
  if k==2 then s==[]&&(t==[]&&(zl a&&(zl b&&zl c))) else
  if k==3 then(n==0||n==1)&&(s==[]&&(t==[]&&(zl a&&(zl b&&zl c)))) else
  if k==4 then Qfu s&&(t==[]&&(n==0&&(zl a&&(zl b&&zl c)))) else
  if k==5 then Qd2 s&&(a.length==1&&(Qbf a&&(t==[]&&(n==0&&(zl b&&zl c))))) else
  if k==6 then Qfu s&&(decide (a.length≤3)&&(Qbf a&&(t==[]&&(n==0&&(zl b&&zl c))))) else
  if k==7 then Qd2 s&&(t==[]&&(n==0&&(zl a&&(zl b&&zl c)))) else false
def Qbf:List Qab→Bool
 | []=>true
 | x::r=>Qhz x&&Qbf r
end
theorem Qsh(x:Qab):Qhz x =
  if x.Kind==1 then(Qjl x.Text).2&&(x.Name==[]&&(x.N==0&&(zl x.L&&(zl x.Then&&zl x.Else)))) else
  if x.Kind==2 then x.Name==[]&&(x.Text==[]&&(zl x.L&&(zl x.Then&&zl x.Else))) else
  if x.Kind==3 then(x.N==0||x.N==1)&&(x.Name==[]&&(x.Text==[]&&(zl x.L&&(zl x.Then&&zl x.Else)))) else
  if x.Kind==4 then Qfu x.Name&&(x.Text==[]&&(x.N==0&&(zl x.L&&(zl x.Then&&zl x.Else)))) else
  if x.Kind==5 then Qd2 x.Name&&(x.L.length==1&&(Qbf x.L&&(x.Text==[]&&(x.N==0&&(zl x.Then&&zl x.Else))))) else
  if x.Kind==6 then Qfu x.Name&&(decide (x.L.length≤3)&&(Qbf x.L&&(x.Text==[]&&(x.N==0&&(zl x.Then&&zl x.Else))))) else
  if x.Kind==7 then Qd2 x.Name&&(x.Text==[]&&(x.N==0&&(zl x.L&&(zl x.Then&&zl x.Else)))) else false:=by cases x; rw[Qhz]
theorem zI(l:List Qab):((l.length:Int)==0)=zl l:=eqN l.length 0
theorem gI(l:List Qab):decide ((l.length:Int)>0) = !zl l:=by
 unfold zl;by_cases h:l.length=0
 ·rw[h]; rfl
 ·rw[beq_eq_false_iff_ne.2 h,decide_eq_true (by omega)]; rfl
theorem oneI(l:List Qab):((l.length:Int)==1)=(l.length==1):=eqN l.length 1
section
end
def Qaii(x:Qab)(p1 p2 p3 p4 p5:Bool):Bool:=(p1||x.Name==[])&&((p2||x.Text==[])&&((p3||x.N==0)&&((p4||zl x.L)&&((p5||zl x.Then)&&(x.Kind==10||zl x.Else)))))
theorem Qalt(x:Qab)(p1 p2 p3 p4 p5:Bool):Qd6 x p1 p2 p3 p4 p5=some (Qaii x p1 p2 p3 p4 p5):=by
 unfold Qd6 Qaii;simp only[zI];generalize (x.Name==[])=a1;generalize (x.Text==[])=a2;generalize (x.N==0)=a3;generalize zl x.L=a4;generalize zl x.Then=a5;generalize zl x.Else=a6;generalize (x.Kind==10)=a7;have e:∀ b:Bool,(if a7=true then some true else some b:Option Bool)=some (a7||b):=fun b=>by cases a7<;>rfl
 simp only[e];generalize (a7||a6)=a8;cases p1<;>cases p2<;>cases p3<;>cases p4<;>cases p5<;>cases a1<;>(try rfl)<;>cases a2<;>(try rfl)<;>cases a3<;>(try rfl)<;>cases a4<;>(try rfl)<;>cases a5<;>rfl
section
variable (n:Nat) (ih:∀ x:Qab,nn x≤n→allN okNd x→Qse x=some (Qhz x))
include ih
theorem Qakm(l:List Qab)(h:nns l≤n)(ho:allL okNd l)(hl:l.length<9223372036854775807):∀ k,k≤l.length→Qid l k=some (if Qbf (l.drop k) then .inl () else .inr ()):=by
 refine upto ?_ fun k hk ihk=>?_
 ·rw[Qid]; simp[Qbf]
 ·have hx:=Qgj (List.getElem_mem hk);rw[Qid,Qbn (by omega),ihk];simp only[ltI,hk,decide_true,if_true,Qbr,getE hk,Qac,ih l[k] (by omega) (Qhe (List.getElem_mem hk) ho)];rw[Qcj hk,Qbf];cases Qhz l[k]<;>rfl
theorem Qajf(l:List Qab)(h:nns l≤n)(ho:allL okNd l)(hl:l.length<9223372036854775807):Qmi l=some (Qbf l):=by
 have:=Qakm n ih l h ho hl 0 (by omega);rw[Qmi,show(0:Int)=((0:Nat):Int) from rfl,this,List.drop_zero];cases Qbf l<;>rfl
end
theorem Qam3:∀ n (x:Qab),n<1000000000→nn x≤n→allN okNd x→Qse x=some (Qhz x):=by
 intro n
 induction n with
 | zero=>intro x _ h; have:=Qjk x; omega
 | succ n ih =>
  intro x hb h ho;rw[Qf4] at h;obtain⟨hq,ho1,-,-⟩:=(Qhy okNd x).1 ho;have hnm:=hq.nm;have hll:=Qj4 x.L;have hex:=Qajf n (fun y=>ih y (by omega)) x.L (by omega) ho1 (by omega);have el:decide ((x.L.length:Int)≤3)=decide (x.L.length≤3):=leN x.L.length 3;rw[Qse,Qsh,Qaki x.Name (by omega),Qaig x.Name (by omega),hex];simp only[Qac,Qalt,Qaii,oneI,el];by_cases k1:x.Kind=1
  ·obtain⟨q,q1,q2⟩:=hq.qt k1;have e10:(x.Kind==10)=false:=beq_eq_false_iff_ne.2 (by omega);simp only[e10];simp only[k1,beq_self_eq_true,if_true,q2,q1,Qac,Qjl,Option.getD_some];generalize (x.Name==[])=a1;generalize (x.N==0)=a3;generalize zl x.L=a4;generalize zl x.Then=a5;generalize zl x.Else=a6;cases q.2<;>cases a1<;>cases a3<;>cases a4<;>cases a5<;>cases a6<;>rfl
  have b1:(x.Kind==1)=false:=beq_eq_false_iff_ne.2 k1;by_cases h10:x.Kind=10
  ·simp only[h10]; rfl
  have e10:(x.Kind==10)=false:=beq_eq_false_iff_ne.2 h10;simp only[e10,b1,Bool.false_eq_true,if_false,Bool.false_or,Bool.true_or,Bool.true_and];generalize (x.Kind==2)=k2;generalize (x.Kind==3)=k3;generalize (x.Kind==4)=k4;generalize (x.Kind==5)=k5;generalize (x.Kind==6)=k6;generalize (x.Kind==7)=k7;generalize (x.Name==[])=a1;generalize (x.Text==[])=a2;generalize (x.N==0)=a3;generalize (x.N==1)=a8;generalize zl x.L=a4;generalize zl x.Then=a5;generalize zl x.Else=a6;generalize Qfu x.Name=n1;generalize Qd2 x.Name=n2;generalize (x.L.length==1)=l1;generalize decide (x.L.length≤3)=l3;generalize Qbf x.L=ex;cases k2
  ·cases k3
   ·cases k4
    ·cases k5
     ·cases k6
      ·cases k7
       ·rfl
       ·cases n2<;>rfl
      ·cases n1<;>(try rfl)<;>cases l3<;>(try rfl)<;>cases ex<;>rfl
     ·cases n2<;>(try rfl)<;>cases l1<;>(try rfl)<;>cases ex<;>rfl
    ·cases n1<;>rfl
   ·cases a3<;>(try rfl)<;>cases a8<;>rfl
  ·rfl
def litB:List Qab→Bool
 | []=>false
 | x::_=>x.Kind==8
def Q71(x:Qab)(r:List Qab)(inn:Bool):Bool:=x.Kind==8&&(litB r||((!r.isEmpty||inn)&&endB x.Text))
mutual
def Qlj:Qab→Bool
 | ⟨k,s,t,n,a,b,c⟩ =>
  if k==8 then !(t==[])&&(!(hasB t)&&(s==[]&&(n==0&&(zl a&&(zl b&&zl c))))) else
  if k==9 then(a.length==1&&Qbf a)&&(s==[]&&(t==[]&&(n==0&&(zl b&&zl c)))) else
  if k==10 then(a.length==1&&Qbf a)&&((Qby b true&&Qby c true)&&(s==[]&&(t==[]&&n==0))) else
  if k==11||k==12 then Qfu s&&((a.length==1&&Qbf a)&&(Qby b true&&(t==[]&&(n==0&&zl c)))) else
  if k==13 then Qfu s&&((a.length==1&&Qbf a)&&(t==[]&&(n==0&&(zl b&&zl c)))) else false
def Qby:List Qab→Bool→Bool
 | [],_=>true
 | x::r,inn=>Qlj x&&(!(Q71 x r inn)&&Qby r inn)
end
theorem Qnb(x:Qab):Qlj x =
  if x.Kind==8 then !(x.Text==[])&&(!(hasB x.Text)&&(x.Name==[]&&(x.N==0&&(zl x.L&&(zl x.Then&&zl x.Else))))) else
  if x.Kind==9 then(x.L.length==1&&Qbf x.L)&&(x.Name==[]&&(x.Text==[]&&(x.N==0&&(zl x.Then&&zl x.Else)))) else
  if x.Kind==10 then(x.L.length==1&&Qbf x.L)&&((Qby x.Then true&&Qby x.Else true)&&(x.Name==[]&&(x.Text==[]&&x.N==0))) else
  if x.Kind==11||x.Kind==12 then Qfu x.Name&&((x.L.length==1&&Qbf x.L)&&(Qby x.Then true&&(x.Text==[]&&(x.N==0&&zl x.Else)))) else
  if x.Kind==13 then Qfu x.Name&&((x.L.length==1&&Qbf x.L)&&(x.Text==[]&&(x.N==0&&(zl x.Then&&zl x.Else)))) else false:=by cases x; rw[Qlj]
theorem Qdo{l:List Qab}(h:zl l=true):l=[]:=List.eq_nil_of_length_eq_zero (by simpa [zl] using h)
theorem Qg3(b:Bool):Qby [] b=true:=by rw[Qby]
theorem Qafw{x:Qab}(h:Qlj x=true)(hk:x.Kind=8):(x.Text==[])=false:=by
 rw[Qnb,hk] at h;simp only[beq_self_eq_true,if_true] at h;cases ht:(x.Text==[]) with
 | false=>rfl
 | true=>rw[ht] at h; cases h
theorem Qam4(k n:Nat)(hk:k<n)(hn:n<9223372036854775807):((k:Int)==wr ((n:Int)-1))=(k+1==n):=by
 have e:wr ((n:Int)-1)=((n-1:Nat):Int):=by rw[Qd0 (by omega) (by omega)]; omega
 rw[e,eqN];by_cases h:k+1=n
 ·rw[beq_iff_eq.2 h,beq_iff_eq.2 (by omega)]
 ·rw[beq_eq_false_iff_ne.2 h,beq_eq_false_iff_ne.2 (by omega)]
theorem Qakn{l:List Qab}{k:Nat}(hk:k<l.length):(l.drop (k+1)).isEmpty=(k+1==l.length):=by
 by_cases h:k+1=l.length
 ·rw[List.drop_eq_nil_of_le (by omega),beq_iff_eq.2 h]; rfl
 ·rw[beq_eq_false_iff_ne.2 h,Qcj (by omega:k+1<l.length)]; rfl
theorem Qako(l:List Qab)(k:Nat)(h:k+1<l.length):litB (l.drop (k+1))=(l[k+1].Kind==8):=by
 rw[Qcj h]; rfl
section
end
section
variable (n:Nat) (hn:n<900000000) (ih:∀ x:Qab,nn x≤n→allN okNd x→Qvk x=some (Qlj x))
include hn ih
theorem Qakp(l:List Qab)(h:nns l≤n)(ho:allL okNd l)(inn:Bool):∀ k,k≤l.length→Qgf l inn k=some (if Qby (l.drop k) inn then .inl () else .inr ()):=by
 have hl:=Qj4 l;refine upto ?_ fun k hk ihk=>?_
 ·rw[Qgf]; simp[Qby]
 ·have hx:=Qgj (List.getElem_mem hk);have ha:=Qhe (List.getElem_mem hk) ho;have htx:=((Qhy okNd l[k]).1 ha).1.tx;rw[Qgf,Qbn (by omega),ihk];simp only[ltI,hk,decide_true,if_true,Qbr,getE hk,Qac,ih l[k] (by omega) ha,Qam4 k l.length hk (by omega)];rw[Qcj hk,Qby,Q71];rw[Qakn hk];cases hs:Qlj l[k] with
  | false=>rfl
  | true =>
   cases h8:(l[k].Kind==8) with
   | false =>
    have:(l[k].Kind != 8)=true:=by rw[bne,h8]; rfl
    rw[this];simp
   | true =>
    have h8' : (l[k].Kind != 8)=false:=by rw[bne,h8]; rfl
    rw[h8', rEnd l[k].Text (by omega) (Qafw hs (by simpa using h8))];by_cases hlast:k+1=l.length
    ·have e1:(k+1==l.length)=true:=beq_iff_eq.2 hlast;have e2:litB (l.drop (k+1))=false:=by rw[List.drop_eq_nil_of_le (by omega)]; rfl
     rw[e1,e2];cases inn<;>cases endB l[k].Text<;>simp
    ·have e1:(k+1==l.length)=false:=beq_eq_false_iff_ne.2 hlast;have hk1:k+1<l.length:=by omega
     rw[e1,Qako l k hk1,getE hk1];simp only[Qac];cases (l[k+1].Kind==8)<;>cases endB l[k].Text<;>cases inn<;>simp
theorem Qafx(l:List Qab)(h:nns l≤n)(ho:allL okNd l)(inn:Bool):Qi3 l inn=some (Qby l inn):=by
 have:=Qakp n hn ih l h ho inn 0 (by omega);rw[Qi3,show(0:Int)=((0:Nat):Int) from rfl,this,List.drop_zero];cases Qby l inn<;>rfl
end
theorem Qam5:∀ n (x:Qab),n<900000000→nn x≤n→allN okNd x→Qvk x=some (Qlj x):=by
 intro n
 induction n with
 | zero=>intro x _ h; have:=Qjk x; omega
 | succ n ih =>
  intro x hb h ho;rw[Qf4] at h;obtain⟨hq,ho1,ho2,ho3⟩:=(Qhy okNd x).1 ho;have hnm:=hq.nm;have htx:=hq.tx;have hll:=Qj4 x.L;have ih' := fun y=>ih y (by omega)
  have t1:=Qafx n (by omega) ih' x.Then (by omega) ho2 true;have t2:=Qafx n (by omega) ih' x.Else (by omega) ho3 true;have hex:=Qajf n (fun y hy=>Qam3 n y (by omega) hy) x.L (by omega) ho1 (by omega);rw[Qvk,Qnb,Qaki x.Name (by omega),Qakl x.Text (by omega),t1,t2,hex];simp only[Qac,oneI,Qalt,Qaii];have e1:(if(x.L.length==1)=true then some (Qbf x.L) else some false:Option Bool)=some (x.L.length==1&&Qbf x.L):=by cases (x.L.length==1)<;>rfl
  rw[e1];simp only[Qac];generalize (x.L.length==1&&Qbf x.L)=one;by_cases k8:x.Kind=8
  ·have e10:(x.Kind==10)=false:=beq_eq_false_iff_ne.2 (by omega);simp only[e10];simp only[k8,beq_self_eq_true,if_true];generalize (x.Name==[])=a1;generalize (x.Text==[])=a2;generalize (x.N==0)=a3;generalize zl x.L=a4;generalize zl x.Then=a5;generalize zl x.Else=a6;generalize hasB x.Text=hh;cases a2<;>(try rfl)<;>cases hh<;>(try rfl)<;>cases a1<;>(try rfl)<;>cases a3<;>rfl
  have b8:(x.Kind==8)=false:=beq_eq_false_iff_ne.2 k8;simp only[b8,Bool.false_eq_true,if_false];by_cases k10:x.Kind=10
  ·simp only[k10,beq_self_eq_true,if_true,show((10:Int)==9)=false from rfl,Bool.false_eq_true,if_false];generalize (x.Name==[])=a1;generalize (x.Text==[])=a2;generalize (x.N==0)=a3;generalize Qby x.Then true=bt;generalize Qby x.Else true=be;generalize zl x.L=a4;generalize zl x.Then=a5;generalize zl x.Else=a6;cases one<;>(try rfl)<;>cases bt<;>(try rfl)<;>cases be<;>(try rfl)<;>cases a1<;>(try rfl)<;>cases a2<;>(try rfl)<;>cases a3<;>rfl
  have b10:(x.Kind==10)=false:=beq_eq_false_iff_ne.2 k10;simp only[b10,Bool.false_eq_true,if_false];have e11:(if(x.Kind==11)=true then some (x.Kind==11) else some (x.Kind==12):Option Bool)=some (x.Kind==11||x.Kind==12):=by cases (x.Kind==11)<;>rfl
  rw[e11];simp only[Qac];have nw:Qfu x.Name=true→(x.Name==[])=false:=fun h=>Qakj (Qml h)
  generalize (x.Kind==9)=k9;generalize (x.Kind==11||x.Kind==12)=k11;generalize (x.Kind==13)=k13;generalize (x.Name==[])=a1;generalize Qfu x.Name=nm;generalize (x.Text==[])=a2;generalize (x.N==0)=a3;generalize Qby x.Then true=bt;generalize Qby x.Else true=be;generalize zl x.L=a4;generalize zl x.Then=a5;generalize zl x.Else=a6;cases k9
  ·cases k11
   ·cases k13
    ·rfl
    ·cases nm<;>(try rfl)<;>cases one<;>(try rfl)<;>cases a2<;>(try rfl)<;>cases a3<;>rfl
   ·cases nm<;>(try rfl)<;>cases one<;>(try rfl)<;>cases bt<;>(try rfl)<;>cases a2<;>(try rfl)<;>cases a3<;>rfl
  ·cases one<;>(try rfl)<;>cases a1<;>(try rfl)<;>cases a2<;>(try rfl)<;>cases a3<;>rfl
def maxD(l:List (Qab×Int))(m:Int):Int:=l.foldl (fun m x=>if x.2>m then x.2 else m) m
theorem Qyb(a b:List (Qab×Int))(m:Int):maxD (a++b) m=maxD b (maxD a m):=by unfold maxD; rw[List.foldl_append]
theorem Qajg(x1:List Qab×Int):∀ (l:List (Qab×Int)) (m:Int),Qgh x1 l m=some (maxD l m)
 | [],m=>by rw[Qgh]; rfl
 | x::r,m=>by rw[Qgh,Qajg x1 r]; rfl
theorem Qafy(x1:List Qab×Int):∀ (l:List (Qab×Int)) (m:Nat),m+l.length<9223372036854775807→Qfb x1 l m=some ((m+l.length:Nat):Int)
 | [],m,_=>by rw[Qfb]; rfl
 | x::r,m,h=>by
  simp at h;rw[Qfb,Qbn (by omega),Qafy x1 r (m+1) (by omega)];simp; omega
theorem Qaij(p0:List Qab)(p1 v12:Int)(x3:Qab)(v28:Int)(x7:List Qab×Int):∀ l:List (Qab×Int),Qfc p0 p1 v12 x3 v28 x7 l=some (l,())
 | []=>by rw[Qfc]
 | x::r=>by
  obtain⟨⟨k,s,t,n,a,b,c⟩,d⟩:=x;rw[Qfc,Qaij p0 p1 v12 x3 v28 x7 r]; rfl
def Qaik(d:Nat)(k dep:Nat)(o:Option (List (Qab×Int)×Unit)):Prop:=∃ out,o=some (out,())∧out.length=k∧∀ m:Int,(d:Int)-1≤m→maxD out m=max m ((d:Int)-1+dep)
section
variable (n:Nat) (ih:∀ (l:List Qab) (d:Nat),nns l≤n→n+d≤1000000000→Qaik d (nns l) (dps l) (Qfr l d))
include ih
theorem Qam6(l:List Qab)(d:Nat)(v:Int)(x:Qab)(hx:nn x≤n+1)(hd:n+1+d≤1000000000) :
  Qaik (d+1) (nns x.L+nns x.Then+nns x.Else) (max (dps x.L) (max (dps x.Then) (dps x.Else))) (Qcm l d v x 0):=by
 rw[Qf4] at hx;have ed:wr ((d:Int)+1)=((d+1:Nat):Int):=Qbn (by omega);obtain⟨o1,a1,a2,a3⟩:=ih x.L (d+1) (by omega) (by omega);obtain⟨o2,b1,b2,b3⟩:=ih x.Then (d+1) (by omega) (by omega);obtain⟨o3,c1,c2,c3⟩:=ih x.Else (d+1) (by omega) (by omega);have s3:Qcm l d v x 3=some ([],()):=by rw[Qcm]; rfl
 have s2:Qcm l d v x 2=some (o3++[],()):=by
  rw[Qcm];have e:wr ((2:Int)+1)=3:=by rw[Qd0 (by omega) (by omega)]; rfl
  have g:idx ([x.L,x.Then,x.Else]:List (List Qab)) 2=some x.Else:=Q9h _ 2;rw[g,e,s3];simp only[Qac,Qka,ed,c1,Qaij,show decide ((2:Int)<3)=true from rfl,if_true]
 have s1:Qcm l d v x 1=some (o2++(o3++[]),()):=by
  rw[Qcm];have e:wr ((1:Int)+1)=2:=by rw[Qd0 (by omega) (by omega)]; rfl
  have g:idx ([x.L,x.Then,x.Else]:List (List Qab)) 1=some x.Then:=Q9h _ 1;rw[g,e,s2];simp only[Qac,Qka,ed,b1,Qaij,show decide ((1:Int)<3)=true from rfl,if_true]
 have s0:Qcm l d v x 0=some (o1++(o2++(o3++[])),()):=by
  rw[Qcm];have e:wr ((0:Int)+1)=1:=by rw[Qd0 (by omega) (by omega)]; rfl
  have g:idx ([x.L,x.Then,x.Else]:List (List Qab)) 0=some x.L:=Q9h _ 0;rw[g,e,s1];simp only[Qac,Qka,ed,a1,Qaij,show decide ((0:Int)<3)=true from rfl,if_true]
 refine⟨_,s0,by simp; omega,fun m hm=>?_⟩;rw[List.append_nil,Qyb,Qyb,a3 m hm,b3 _ (by omega),c3 _ (by omega)];omega
theorem Qam7(l:List Qab)(d:Nat)(hl:nns l≤n+1)(hd:n+1+d≤1000000000):∀ k,k≤l.length→Qaik d (nns (l.drop k)) (dps (l.drop k)) (Qfd l d k):=by
 have hlen:=Qj4 l;refine upto ?_ fun k hk ihk=>?_
 ·rw[Qfd,List.drop_length];refine⟨[],by simp,by simp[nns],fun m hm=>?_⟩;simp[maxD,dps]; omega
 ·have hx:=Qgj (List.getElem_mem hk);obtain⟨o1,a1,a2,a3⟩:=Qam6 n ih l d k l[k] (by omega) hd;obtain⟨o2,b1,b2,b3⟩:=ihk;rw[Qfd,Qbn (by omega)];simp only[ltI,hk,decide_true,if_true,Qbr,getE hk,Qac,a1,b1];rw[Qcj hk];refine⟨_,rfl,?_,fun m hm=>?_⟩
  ·simp[nns,Qf4,a2,b2]; omega
  ·show maxD ([(l[k],(d:Int))]++(o1++o2)) m=_;have e0:maxD [(l[k],(d:Int))] m=max m d:=by
    show(if(d:Int)>m then(d:Int) else m)=_;split<;>omega
   rw[Qyb,Qyb,e0,a3 _ (by omega),b3 _ (by omega),dps,Qaif];omega
end
theorem tAll:∀ n (l:List Qab) (d:Nat),nns l≤n→n+d≤1000000000→Qaik d (nns l) (dps l) (Qfr l d):=by
 intro n
 induction n with
 | zero =>
  intro l d h _;have hl:l=[]:=List.eq_nil_of_length_eq_zero (by have:=Qj4 l; omega);subst hl;rw[Qfr,Qfd];refine⟨[],by simp,by simp[nns],fun m hm=>?_⟩;simp[maxD,dps]; omega
 | succ n ih =>
  intro l d h hd;obtain⟨o,a1,a2,a3⟩:=Qam7 n ih l d h hd 0 (by omega);rw[List.drop_zero] at a2 a3;refine⟨o,?_,a2,a3⟩;rw[Qfr,show(0:Int)=((0:Nat):Int) from rfl,a1];simp
theorem Qam8(l:List Qab)(h:nns l≤900000000):Qrm l=some (dps l:Int):=by
 obtain⟨o,a1,a2,a3⟩:=tAll 900000000 l 1 h (by omega);rw[Qrm,Qka];simp only[Qac];rw[show(1:Int)=((1:Nat):Int) from rfl,a1];simp only[Qac,Qajg];rw[a3 0 (by omega)];congr 1;omega
theorem Qalu(l:List Qab)(h:nns l≤900000000):Qoe l=some (nns l:Int):=by
 obtain⟨o,a1,a2,a3⟩:=tAll 900000000 l 1 h (by omega);have:=Qafy (l,((1:Nat):Int)) o 0 (by omega);rw[Qoe,Qka];simp only[Qac];rw[show(1:Int)=((1:Nat):Int) from rfl,a1];simp only[Qac];rw[show(0:Int)=((0:Nat):Int) from rfl,this];simp[a2]
theorem Qafz:∀ m (l:List Qab),nns l≤m→dps l≤nns l:=by
 intro m
 induction m with
 | zero =>
  intro l h;have hl:l=[]:=List.eq_nil_of_length_eq_zero (by have:=Qj4 l; omega);subst hl; simp[dps]
 | succ m ihm =>
  intro l
  induction l with
  | nil=>intro _; simp[dps]
  | cons x r ihr =>
   intro h;rw[nns,Qf4] at h;have h1:=ihm x.L (by omega);have h2:=ihm x.Then (by omega);have h3:=ihm x.Else (by omega);have h4:=ihr (by omega);rw[dps,Qaif,nns,Qf4];omega
section
variable (n:Nat) (hn:n≤900000000) (ih:∀ l:List Qab,nns l≤n→Qhb l=some (dps l:Int)∧Qfi l=some (nns l:Int))
include hn ih
theorem Qalv(l:List Qab)(h:nns l≤n+1):∀ k,k≤l.length→∀ v:Nat,v≤1000000000→Qhu l v k=some ((max v (dps (l.drop k)):Nat):Int):=by
 have hl:=Qj4 l;refine upto ?_ fun k hk ihk=>?_
 ·intro v _; rw[Qhu]; simp[dps]
 ·intro v hv;have hx:=Qgj (List.getElem_mem hk);rw[Qf4] at hx;have d1:=Qafz _ l[k].L (Nat.le_refl _);have d2:=Qafz _ l[k].Then (Nat.le_refl _);have d3:=Qafz _ l[k].Else (Nat.le_refl _);have em:(if(dps l[k].Else:Int)>(if(dps l[k].Then:Int)>(dps l[k].L:Int) then(dps l[k].Then:Int) else(dps l[k].L:Int)) then(dps l[k].Else:Int) else(if(dps l[k].Then:Int)>(dps l[k].L:Int) then(dps l[k].Then:Int) else(dps l[k].L:Int)))=((max (dps l[k].L) (max (dps l[k].Then) (dps l[k].Else)):Nat):Int):=by
   split<;>split at * <;> omega
  rw[Qhu,Qbn (by omega)];simp only[ltI,hk,decide_true,if_true,Qbr,getE hk,Qac,(ih l[k].L (by omega)).1,(ih l[k].Then (by omega)).1,(ih l[k].Else (by omega)).1];rw[em];have ew:wr (1+((max (dps l[k].L) (max (dps l[k].Then) (dps l[k].Else)):Nat):Int))=((dp l[k]:Nat):Int):=by
   rw[Qd0 (by omega) (by omega),Qaif]; omega
  rw[ew];have ei:(if((dp l[k]:Nat):Int)>(v:Int) then((dp l[k]:Nat):Int) else(v:Int))=((max v (dp l[k]):Nat):Int):=by split<;>omega
  have hdp:dp l[k]≤1000000000:=by rw[Qaif]; omega
  rw[ei,ihk (max v (dp l[k])) (by omega),Qcj hk,dps];congr 2;omega
theorem Qakq(l:List Qab)(h:nns l≤n+1):∀ k,k≤l.length→∀ v:Nat,v+nns (l.drop k)≤1000000000→Qgd l v k=some ((v+nns (l.drop k):Nat):Int):=by
 have hl:=Qj4 l;refine upto ?_ fun k hk ihk=>?_
 ·intro v _; rw[Qgd]; simp[nns]
 ·intro v hv;have hx:=Qgj (List.getElem_mem hk);rw[Qf4] at hx;rw[Qcj hk,nns,Qf4] at hv;rw[Qgd,Qbn (i:=k) (by omega)];simp only[ltI,hk,decide_true,if_true,Qbr,getE hk,Qac,(ih l[k].L (by omega)).2,(ih l[k].Then (by omega)).2,(ih l[k].Else (by omega)).2];have ew:wr ((wr ((wr ((wr ((v:Int)+1))+(nns l[k].L:Int)))+(nns l[k].Then:Int)))+(nns l[k].Else:Int))=((v+nn l[k]:Nat):Int):=by
   rw[Qd0 (n:=(v:Int)+1) (by omega) (by omega),Qd0 (n:=(v:Int)+1+(nns l[k].L:Int)) (by omega) (by omega),Qd0 (n:=(v:Int)+1+(nns l[k].L:Int)+(nns l[k].Then:Int)) (by omega) (by omega),Qd0 (by omega) (by omega),Qf4];omega
  rw[ew,ihk (v+nn l[k]) (by rw[Qf4]; omega),Qcj hk,nns];congr 2;omega
end
theorem rDC:∀ n (l:List Qab),n≤900000000→nns l≤n→Qhb l=some (dps l:Int)∧Qfi l=some (nns l:Int):=by
 intro n
 induction n with
 | zero =>
  intro l _ h;have hl:l=[]:=List.eq_nil_of_length_eq_zero (by have:=Qj4 l; omega);subst hl;rw[Qhb,Qfi,Qhu,Qgd];simp[dps,nns]
 | succ n ih =>
  intro l hn h;have h1:=Qalv n (by omega) (fun l hl=>ih l (by omega) hl) l h 0 (by omega) 0 (by omega);have h2:=Qakq n (by omega) (fun l hl=>ih l (by omega) hl) l h 0 (by omega) 0 (by rw[List.drop_zero]; omega);rw[Qhb,Qfi,show(0:Int)=((0:Nat):Int) from rfl,h1,h2];simp
def isP (l:List Qab):Bool:=decide (dps l≤12)&&(decide (nns l≤1024)&&Qby l false)
theorem rIs(l:List Qab)(h:nns l≤800000000)(ho:allL okNd l):Q7t l=some (isP l):=by
 have e1:decide ((dps l:Int)≤12)=decide (dps l≤12):=leN _ 12;have e2:decide ((nns l:Int)≤1024)=decide (nns l≤1024):=leN _ 1024;have hb:=Qafx 800000000 (by omega) (fun x hx=>Qam5 800000000 x (by omega) hx) l h ho false;obtain⟨hd,hc⟩:=rDC 800000000 l (by omega) h;rw[Q7t,hd,hc,hb,isP];simp only[Qac,e1,e2];cases decide (dps l≤12)<;>cases decide (nns l≤1024)<;>cases Qby l false<;>rfl
abbrev Tk0:Qaa:=⟨0,[],0,0,0⟩
def hd(l:List Qaa):Qaa:=l.headD Tk0
def kd(l:List Qaa):Int:=(hd l).Kind
@[simp] theorem Qany:hd []=Tk0:=rfl
@[simp] theorem Qaf0 (t:Qaa) (r:List Qaa):hd (t::r)=t:=rfl
@[simp] theorem Qalw:kd []=0:=rfl
@[simp] theorem Qakr (t:Qaa) (r:List Qaa):kd (t::r)=t.Kind:=rfl
inductive Rs (α : Type) where
 | ok (x : α) (l:List Qaa)
 | bad (l:List Qaa)
def Rs.bind{α β : Type}(r:Rs α)(f : α → List Qaa→Rs β):Rs β := match r with
 | .ok x l=>f x l
 | .bad l =>.bad l
def isW(w:List UInt8)(l:List Qaa):Bool:=kd l==4&&(hd l).Text==w
def want(k:Int)(l:List Qaa):Rs Qaa:=if kd l=k then .ok (hd l) l.tail else .bad l
def Qo9(w:List UInt8)(l:List Qaa):Rs Unit:=if isW w l=true then .ok () l.tail else .bad l
def Qg4(l:List Qaa):Rs (List UInt8):=if kd l=4∧Qfu (hd l).Text=true then .ok (hd l).Text l.tail else .bad l
def endW(w:List UInt8)(l:List Qaa):Rs Unit:=(want 2 l).bind fun _ l1=>(Qo9 w l1).bind fun _ l2=>(want 3 l2).bind fun _ l3 =>.ok () l3
def Qde(w:List UInt8)(l:List Qaa):Bool:=kd l==2&&isW w l.tail
abbrev wIf:List UInt8:=[105,102]
abbrev Qes:List UInt8:=[101,108,115,101]
abbrev wEnd:List UInt8:=[101,110,100]
abbrev Qxu:List UInt8:=[101,97,99,104]
abbrev wIn:List UInt8:=[105,110]
abbrev wLet:List UInt8:=[108,101,116]
abbrev wUse:List UInt8:=[117,115,101]
abbrev Qadh:List UInt8:=[116,114,117,101]
abbrev Q0a:List UInt8:=[102,97,108,115,101]
abbrev Qrn:List UInt8:=[115,101,99,114,101,116]
def Qk5(l:List Qaa):Rs Qab:=(want 8 l).bind fun _ l1 =>
 if kd l1=5∧Qd2 (hd l1).Text=true then(want 9 l1.tail).bind fun _ l2 =>.ok ⟨7,(hd l1).Text,[],0,[],[],[]⟩ l2 else .bad l1
def Qlk(E:List Qaa→Rs Qab)(l:List Qaa):Rs (List Qab) :=
 if kd l=9 then .ok [] l.tail else(E l).bind fun x1 l1 =>
  if kd l1=10 then(E l1.tail).bind fun x2 l2 =>
   if kd l2=10 then(E l2.tail).bind fun x3 l3=>(want 9 l3).bind fun _ l4 =>.ok [x1,x2,x3] l4
   else(want 9 l2).bind fun _ l4 =>.ok [x1,x2] l4
  else(want 9 l1).bind fun _ l4 =>.ok [x1] l4
def Qd9(E:List Qaa→Rs Qab)(l:List Qaa):Rs Qab :=
 if kd l=5 then .ok ⟨1,[],(hd l).Text,0,[],[],[]⟩ l.tail
 else if kd l=6 then .ok ⟨2,[],[],(hd l).N,[],[],[]⟩ l.tail
 else if isW Qadh l=true then .ok ⟨3,[],[],1,[],[],[]⟩ l.tail
 else if isW Q0a l=true then .ok ⟨3,[],[],0,[],[],[]⟩ l.tail
 else if isW Qrn l=true then Qk5 l.tail
 else(Qg4 l).bind fun s l1=>if kd l1=8 then(Qlk E l1.tail).bind fun xs l2 =>.ok ⟨6,s,[],0,xs,[],[]⟩ l2 else .ok ⟨4,s,[],0,[],[],[]⟩ l1
def Qk6:Nat→Qab→List Qaa→Rs Qab
 | 0,x,l =>.ok x l
 | n+1,x,l=>if kd l=7 then(want 4 l.tail).bind fun t l2=>Qk6 n ⟨5,t.Text,[],0,[x],[],[]⟩ l2 else .ok x l
def Qll:Nat→List Qaa→Rs Qab
 | 0,l =>.bad l
 | f+1,l=>(Qd9 (Qll f) l).bind fun x l1=>Qk6 l1.length x l1
def ex20(l:List Qaa):Rs Qab:=Qll (l.length+1) l
def Qdi(l:List Qaa):Rs Qab:=(ex20 l).bind fun x l1=>(want 3 l1).bind fun _ l2 =>.ok x l2
def Qjm(out:List Qab)(s:List UInt8):List Qab:=match out.getLast? with
 | some x=>if x.Kind=8 then out.set (out.length-1) ⟨x.Kind,x.Name,x.Text++s,x.N,x.L,x.Then,x.Else⟩ else out++[⟨8,[],s,0,[],[],[]⟩]
 | none=>out++[⟨8,[],s,0,[],[],[]⟩]
def actR(B:Bool→Bool→List Qaa→Rs (List Qab))(l:List Qaa):Rs Qab :=
 if isW wIf l=true then(Qdi l.tail).bind fun x l1=>(B true true l1).bind fun y l2 =>
  if Qde Qes l2=true then(endW Qes l2).bind fun _ l3=>(B true false l3).bind fun z l4=>(endW wEnd l4).bind fun _ l5 =>.ok ⟨10,[],[],0,[x],y,z⟩ l5
  else(endW wEnd l2).bind fun _ l5 =>.ok ⟨10,[],[],0,[x],y,[]⟩ l5
 else if isW Qxu l=true then(Qg4 l.tail).bind fun s l1=>(Qo9 wIn l1).bind fun _ l2=>(Qdi l2).bind fun x l3=>(B true false l3).bind fun y l4=>(endW wEnd l4).bind fun _ l5 =>.ok ⟨11,s,[],0,[x],y,[]⟩ l5
 else if isW wLet l=true then(Qg4 l.tail).bind fun s l1=>(want 11 l1).bind fun _ l2=>(Qdi l2).bind fun x l3=>(B true false l3).bind fun y l4=>(endW wEnd l4).bind fun _ l5 =>.ok ⟨12,s,[],0,[x],y,[]⟩ l5
 else if isW wUse l=true then(Qg4 l.tail).bind fun s l1=>(Qdi l1).bind fun x l2 =>.ok ⟨13,s,[],0,[x],[],[]⟩ l2
 else(Qdi l).bind fun x l2 =>.ok ⟨9,[],[],0,[x],[],[]⟩ l2
def Qd3:Nat→Bool→Bool→List Qab→List Qaa→Rs (List Qab)
 | 0,_,_,_,l =>.bad l
 | f+1,i,o,out,l=>if l=[] then .ok out l else
  if kd l=1 then Qd3 f i o (Qjm out (hd l).Text) l.tail
  else if((i&&Qde wEnd l)||(o&&Qde Qes l))=true then .ok out l
  else if kd l=2 then
   (if kd l.tail=3 then Qd3 f i o out l.tail.tail else(actR (fun i o l=>Qd3 f i o [] l) l.tail).bind fun x l2=>Qd3 f i o (out++[x]) l2)
  else .bad l
def bl20(i o:Bool)(l:List Qaa):Rs (List Qab):=Qd3 (l.length+1) i o [] l
end Go.Proofs.YtagokkpnfceidaaGreatDoor
end
