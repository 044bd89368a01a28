/- The proof's texts, part 9 of 12: the walks by a logic in which data are by value, the plain laws, and at the end the law, for every input. -/
import Derived.Test.YtagokkpnfceidaaGreatDoorMgParseTrees8

noncomputable section
set_option linter.unusedVariables false
set_option linter.unusedSimpArgs false
set_option maxRecDepth 100000
set_option maxHeartbeats 4000000
namespace Go.Proofs.YtagokkpnfceidaaGreatDoor
open Go.RowKit
def Qn8 (p0:(List UInt8)):Option (Bool) :=
 (Qg1 p0 0)>>=fun o1 =>
 match o1 with
 | .inl y2 =>
  ( if(!(p0==[])) then
    if(decide ((p0.length:Int)≤32)) then
     idx p0 0>>=fun x7 =>
     some (decide ((x7.toNat:Int) ≥ 97))
    else
     some false
   else
    some false:Option (Bool))>>=fun o6 =>
  some o6
 | .inr y3 =>
  some false
theorem Qu7:∀ (p0:(List UInt8)) (o:Bool),Qn8 p0=some o→PCall Tryz.prog 91 [sV p0] (Qmn o):=by
 intro p0 o h;unfold Qn8 at h;refine PCall.ofB mixed tbOk Q01 Tryz.func91 rfl (by kernel_rfl) (Nat.le_of_ble_eq_true rfl) ?_;refine vrfl ?_;refine Qag h (fun o1 ho hk=>?_);refine Exists.intro (JP2 _ _ o1 (.exit 0) (Qos p0) .ret (Qot p0)) (And.intro (Qo0 (τ := Qkt p0 0) ?_ (TL.loop (Q3b p0 0 o1 ho))) (Qmu (fun y2 hy=>?_) (fun y3 hy=>?_)))
 ·exact Le.tz 0 0 rfl rfl rfl
 ·have h:=(by rw[hy] at hk; exact hk);refine Qag h (fun o6 ho hk=>?_);refine Exists.intro (JP1 _ _ o6 .normal (Q5w )) (And.intro ?_ (Qa7 ?_))
  ·have h:=ho;refine Qaf h (fun hb h=>?_) (fun hb h=>?_)
   ·refine vrfl ?_;refine Qaf h (fun hb h=>?_) (fun hb h=>?_)
    ·refine Qcr h (fun x7 hi h=>?_);refine JP1.a h ?_;exact Le.tz 0 0 rfl rfl rfl
    ·refine JP1.a h ?_;exact Le.tz 0 0 rfl rfl rfl
   ·refine bF ?_;refine JP1.a h ?_;exact Le.tz 0 0 rfl rfl rfl
  ·have h:=hk;refine Qao (t:=Qmn) h ?_;exact .refl _
 ·have h:=(by rw[hy] at hk; exact hk);refine Qao (t:=Qmn) h ?_;exact .refl _
def Qa0 (h0_0:(List UInt8)) (h0_1:Int) (h0_2:(List Qaa)) (v7:Int):Option (Int) :=
 ( if(decide (v7<(h0_0.length:Int))) then
   idx h0_0 v7>>=fun x3 =>
   Qkj (x3.toNat:Int)>>=fun x4 =>
   some x4
  else
   some false:Option (Bool))>>=fun o2 =>
 if o2 then
  Qa0 h0_0 h0_1 h0_2 (wr (v7+1))
 else
  some v7
 partial_fixpoint
theorem Qjs:∀ (h0_0:(List UInt8)) (h0_1:Int) (h0_2:(List Qaa)),(∀ (v7:Int) (o1:Int),Qa0 h0_0 h0_1 h0_2 v7=some o1→TL (1,1) Tryz.prog 38 Qe0 (JP1 (1,1) 38 o1 (.exit 0) (Qc6 h0_0 h0_1 h0_2)) (Qcb h0_0 h0_1 h0_2 v7)):=by
 intro h0_0 h0_1 h0_2;refine Qa0.partial_correctness h0_0 h0_1 h0_2 _ ?_;intro Qa0' iQa0 v7 o1 h;refine TL.round (Qan mixed tbOk (lv:=Qfw) _ _ _ ?_);refine Qag h (fun o2 ho hk=>?_);refine Exists.intro (JP1 _ _ o2 .normal (Qkf h0_0 h0_1 h0_2 v7)) (And.intro ?_ (Qa7 ?_))
 ·have h:=ho;refine vrfl ?_;refine Qaf h (fun hb h=>?_) (fun hb h=>?_)
  ·refine Qcr h (fun x3 hi h=>?_);refine Qak [nV .u8 (x3.toNat:Int)] Qk4 h (fun x4 hy=>(Qqd (x3.toNat:Int) x4 hy)) (fun x4 hy h=>?_);refine JP1.a h ?_;exact Le.tz 1 1 rfl rfl rfl
  ·refine JP1.a h ?_;exact Le.tz 1 1 rfl rfl rfl
 ·have h:=hk;refine Qaf h (fun hb h=>?_) (fun hb h=>?_)
  ·refine TL.le (τ := Qcb h0_0 h0_1 h0_2 (wr (v7+1))) ?_ ((iQa0 (wr (v7+1)) _ h));exact Le.tz 1 1 rfl rfl rfl
  ·exact JP1.a h (Le.tz 1 1 rfl rfl rfl)
def Qjx:=fun h0_0 h0_1 h0_2 v7=>(Qjs h0_0 h0_1 h0_2) v7
def Qc8 (p1:Int) (h0_0:(List UInt8)) (h0_1:Int) (h0_2:(List Qaa)):Option ((List UInt8)) :=
 (Qa0 h0_0 h0_1 h0_2 p1)>>=fun o1 =>
 cutL h0_0 h0_1 o1>>=fun x5 =>
 some x5
theorem Qlx:∀ (p1:Int) (h0_0:(List UInt8)) (h0_1:Int) (h0_2:(List Qaa)) (o:(List UInt8)),Qc8 p1 h0_0 h0_1 h0_2=some o→CallOK Tryz.prog 89 [.ptr 0 0,.p (iV p1),.fn (.func 54) [] []] ⟨[[.p (sV h0_0),.p (iV h0_1),.own 0 59 5 (h0_2.map Qad)]],[(h0_2.map Qad).length]⟩ (Qgi o) ⟨[[.p (sV h0_0),.p (iV h0_1),.own 0 59 5 (h0_2.map Qad)]],[(h0_2.map Qad).length]⟩:=by
 intro p1 h0_0 h0_1 h0_2 o h;unfold Qc8 at h;refine CallOK.ofB mixed tbOk Qfw Tryz.func89 rfl (by kernel_rfl) (Nat.le_of_ble_eq_true rfl) rfl rfl rfl ?_;refine Qag h (fun o1 ho hk=>?_);refine Exists.intro (JP1 _ _ o1 (.exit 0) (Qc6 h0_0 h0_1 h0_2)) (And.intro (Qo0 (τ := Qcb h0_0 h0_1 h0_2 p1) ?_ (TL.loop (Qjx h0_0 h0_1 h0_2 p1 o1 ho))) (Qa7 ?_))
 ·exact Le.tz 1 1 rfl rfl rfl
 have h:=hk;refine And.intro (by decide +kernel) (And.intro rfl ?_);refine Qex (some h0_1) (some o1) h (fun x5 hi h=>?_);refine Exists.intro _ (And.intro (Le.refl _ _ _) ?_);exact Qbe (t:=Qgi) (ss:=fun o=>⟨[[.p (sV h0_0),.p (iV h0_1),.own 0 59 5 (h0_2.map Qad)]],[(h0_2.map Qad).length]⟩) h ⟨[0],rfl,.refl _,.refl _,rfl⟩
def Qf2 (h0_0:(List UInt8)) (h0_1:Int) (h0_2:(List Qaa)):Option (Bool×Int×(List Qaa)) :=
 Qc8 h0_1 h0_0 h0_1 h0_2>>=fun x1 =>
 Qn8 x1>>=fun x2 =>
 if(!x2) then
  some (false,h0_1,h0_2)
 else
  Qa5 4 x1 0 (x1.length:Int) h0_0 h0_1 h0_2>>=fun x3 =>
  some (true,x3.1,x3.2)
theorem Qu8:∀ (h0_0:(List UInt8)) (h0_1:Int) (h0_2:(List Qaa)) (o:Bool×Int×(List Qaa)),Qf2 h0_0 h0_1 h0_2=some o→CallOK Tryz.prog 55 [.ptr 0 0] ⟨[[.p (sV h0_0),.p (iV h0_1),.own 0 59 5 (h0_2.map Qad)]],[(h0_2.map Qad).length]⟩ (Qjf o) ⟨[[.p (sV h0_0),.p (iV o.2.1),.own 0 59 5 (o.2.2.map Qad)]],[(o.2.2.map Qad).length]⟩:=by
 intro h0_0 h0_1 h0_2 o h;unfold Qf2 at h;refine CallOK.ofB mixed tbOk Quz Tryz.func55 rfl (by kernel_rfl) (Nat.le_of_ble_eq_true rfl) rfl rfl rfl ?_;refine Qah _ _ h (fun x1 hy=>((Qlx h0_1 h0_0 h0_1 h0_2 x1 hy).fr [0] [0] rfl rfl rfl)) (fun x1 hy h=>?_);refine Qak [sV x1] Qmn h (fun x2 hy=>(Qu7 x1 x2 hy)) (fun x2 hy h=>?_);refine Qaf h (fun hb h=>?_) (fun hb h=>?_)
 ·refine Exists.intro _ (And.intro (Le.refl _ _ _) ?_);exact Qbe (t:=Qjf) (ss:=fun o=>⟨[[.p (sV h0_0),.p (iV o.2.1),.own 0 59 5 (o.2.2.map Qad)]],[(o.2.2.map Qad).length]⟩) h ⟨[0],rfl,.refl _,.refl _,rfl⟩
 ·refine vrfl ?_;refine Qah _ _ h (fun x3 hy=>((Qch 4 x1 0 (x1.length:Int) h0_0 h0_1 h0_2 x3 hy).fr [0] [0] rfl rfl rfl)) (fun x3 hy h=>?_);refine Exists.intro _ (And.intro (Le.refl _ _ _) ?_);exact Qbe (t:=Qjf) (ss:=fun o=>⟨[[.p (sV h0_0),.p (iV o.2.1),.own 0 59 5 (o.2.2.map Qad)]],[(o.2.2.map Qad).length]⟩) h ⟨[0],rfl,.refl _,.refl _,rfl⟩
def Qdz (h0_0:(List UInt8)) (h0_1:Int) (h0_2:(List Qaa)):Option (Bool×Int×(List Qaa)) :=
 idx h0_0 h0_1>>=fun x1 =>
 if((x1.toNat:Int)==34) then
  Qf1 h0_0 h0_1 h0_2>>=fun x2 =>
  some (x2.1,x2.2.1,x2.2.2)
 else
  ( if((x1.toNat:Int)==45) then
    some true
   else
    Qla (x1.toNat:Int)>>=fun x4 =>
    some x4:Option (Bool))>>=fun o3 =>
  if o3 then
   Qej h0_0 h0_1 h0_2>>=fun x5 =>
   some (x5.1,x5.2.1,x5.2.2)
  else
   Qkj (x1.toNat:Int)>>=fun x6 =>
   if x6 then
    Qf2 h0_0 h0_1 h0_2>>=fun x7 =>
    some (x7.1,x7.2.1,x7.2.2)
   else
    Qf0 h0_0 h0_1 h0_2>>=fun x8 =>
    some (x8.1,x8.2.1,x8.2.2)
theorem Qq8:∀ (h0_0:(List UInt8)) (h0_1:Int) (h0_2:(List Qaa)) (o:Bool×Int×(List Qaa)),Qdz h0_0 h0_1 h0_2=some o→CallOK Tryz.prog 30 [.ptr 0 0] ⟨[[.p (sV h0_0),.p (iV h0_1),.own 0 59 5 (h0_2.map Qad)]],[(h0_2.map Qad).length]⟩ (Qdj o) ⟨[[.p (sV h0_0),.p (iV o.2.1),.own 0 59 5 (o.2.2.map Qad)]],[(o.2.2.map Qad).length]⟩:=by
 intro h0_0 h0_1 h0_2 o h;unfold Qdz at h;refine CallOK.ofB mixed tbOk Qqz Tryz.func30 rfl (by kernel_rfl) (Nat.le_of_ble_eq_true rfl) rfl rfl rfl ?_;refine And.intro (by decide +kernel) (And.intro rfl ?_);refine Qcr h (fun x1 hi h=>?_);refine Qaf h (fun hb h=>?_) (fun hb h=>?_)
 ·refine Qah _ _ h (fun x2 hy=>((Qu6 h0_0 h0_1 h0_2 x2 hy).fr [0] [0] rfl rfl rfl)) (fun x2 hy h=>?_);refine Exists.intro _ (And.intro (Le.refl _ _ _) ?_);exact Qbe (t:=Qdj) (ss:=fun o=>⟨[[.p (sV h0_0),.p (iV o.2.1),.own 0 59 5 (o.2.2.map Qad)]],[(o.2.2.map Qad).length]⟩) h ⟨[0],rfl,.refl _,.refl _,rfl⟩
 ·refine Qag h (fun o3 ho hk=>?_);refine Exists.intro (JP1 _ _ o3 .normal (Qo9 h0_0 h0_1 h0_2 x1)) (And.intro ?_ (Qa7 ?_))
  ·have h:=ho;refine Qaf h (fun hb h=>?_) (fun hb h=>?_)
   ·refine JP1.a h ?_;exact Le.tz 1 1 rfl rfl rfl
   ·refine Qak [nV .u8 (x1.toNat:Int)] Qke h (fun x4 hy=>(Qn6 (x1.toNat:Int) x4 hy)) (fun x4 hy h=>?_);refine JP1.a h ?_;exact Le.tz 1 1 rfl rfl rfl
  ·have h:=hk;refine Qaf h (fun hb h=>?_) (fun hb h=>?_)
   ·refine Qah _ _ h (fun x5 hy=>((Qsi h0_0 h0_1 h0_2 x5 hy).fr [0] [0] rfl rfl rfl)) (fun x5 hy h=>?_);refine Exists.intro _ (And.intro (Le.refl _ _ _) ?_);exact Qbe (t:=Qdj) (ss:=fun o=>⟨[[.p (sV h0_0),.p (iV o.2.1),.own 0 59 5 (o.2.2.map Qad)]],[(o.2.2.map Qad).length]⟩) h ⟨[0],rfl,.refl _,.refl _,rfl⟩
   ·refine Qak [nV .u8 (x1.toNat:Int)] Qk4 h (fun x6 hy=>(Qqd (x1.toNat:Int) x6 hy)) (fun x6 hy h=>?_);refine Qaf h (fun hb h=>?_) (fun hb h=>?_)
    ·refine Qah _ _ h (fun x7 hy=>((Qu8 h0_0 h0_1 h0_2 x7 hy).fr [0] [0] rfl rfl rfl)) (fun x7 hy h=>?_);refine Exists.intro _ (And.intro (Le.refl _ _ _) ?_);exact Qbe (t:=Qdj) (ss:=fun o=>⟨[[.p (sV h0_0),.p (iV o.2.1),.own 0 59 5 (o.2.2.map Qad)]],[(o.2.2.map Qad).length]⟩) h ⟨[0],rfl,.refl _,.refl _,rfl⟩
    ·refine Qah _ _ h (fun x8 hy=>((Qu5 h0_0 h0_1 h0_2 x8 hy).fr [0] [0] rfl rfl rfl)) (fun x8 hy h=>?_);refine Exists.intro _ (And.intro (Le.refl _ _ _) ?_);exact Qbe (t:=Qdj) (ss:=fun o=>⟨[[.p (sV h0_0),.p (iV o.2.1),.own 0 59 5 (o.2.2.map Qad)]],[(o.2.2.map Qad).length]⟩) h ⟨[0],rfl,.refl _,.refl _,rfl⟩
def Qha (p0:(List UInt8)) (p1:(List UInt8)):Option (Bool) :=
 Qcj p0 p1>>=fun x1 =>
 some x1
theorem Qt4:∀ (p0:(List UInt8)) (p1:(List UInt8)) (o:Bool),Qha p0 p1=some o→PCall Tryz.prog 50 [sV p0,sV p1] (Qid o):=by
 intro p0 p1 o h;unfold Qha at h;refine PCall.ofB mixed tbOk Qt2 Tryz.func50 rfl (by kernel_rfl) (Nat.le_of_ble_eq_true rfl) ?_;refine Qak [sV p0,sV p1] Qc5 h (fun x1 hy=>(Qjq p0 p1 x1 hy)) (fun x1 hy h=>?_);refine Qao (t:=Qid) h ?_;exact .refl _
def Qfd (p0:(List UInt8)) (p1:(List UInt8)) (p2:Int):Option (Bool) :=
 ( if(decide (p2 ≥ 0)) then
   if(decide (p2≤(p0.length:Int))) then
    cutL p0 p2 (p0.length:Int)>>=fun x2 =>
    Qha x2 p1>>=fun x3 =>
    some x3
   else
    some false
  else
   some false:Option (Bool))>>=fun o1 =>
 some o1
theorem Qsj:∀ (p0:(List UInt8)) (p1:(List UInt8)) (p2:Int) (o:Bool),Qfd p0 p1 p2=some o→PCall Tryz.prog 29 [sV p0,sV p1,iV p2] (Qku o):=by
 intro p0 p1 p2 o h;unfold Qfd at h;refine PCall.ofB mixed tbOk Q03 Tryz.func29 rfl (by kernel_rfl) (Nat.le_of_ble_eq_true rfl) ?_;refine Qag h (fun o1 ho hk=>?_);refine Exists.intro (JP1 _ _ o1 .normal (Qxb )) (And.intro ?_ (Qa7 ?_))
 ·have h:=ho;refine Qaf h (fun hb h=>?_) (fun hb h=>?_)
  ·refine vrfl ?_;refine Qaf h (fun hb h=>?_) (fun hb h=>?_)
   ·refine Qex (some p2) none h (fun x2 hi h=>?_);refine Qak [sV x2,sV p1] Qid h (fun x3 hy=>(Qt4 x2 p1 x3 hy)) (fun x3 hy h=>?_);refine JP1.a h ?_;exact Le.tz 0 0 rfl rfl rfl
   ·refine JP1.a h ?_;exact Le.tz 0 0 rfl rfl rfl
  ·refine bF ?_;refine JP1.a h ?_;exact Le.tz 0 0 rfl rfl rfl
 ·have h:=hk;refine Qao (t:=Qku) h ?_;exact .refl _
def Qhb (p0:(List UInt8)) (p1:(List UInt8)):Option (Int) :=
 Qc7 p0 p1>>=fun x1 =>
 some x1
theorem Qqr:∀ (p0:(List UInt8)) (p1:(List UInt8)) (o:Int),Qhb p0 p1=some o→PCall Tryz.prog 26 [sV p0,sV p1] (Qjj o):=by
 intro p0 p1 o h;unfold Qhb at h;refine PCall.ofB mixed tbOk Qyr Tryz.func26 rfl (by kernel_rfl) (Nat.le_of_ble_eq_true rfl) ?_;refine Qak [sV p0,sV p1] Qgf h (fun x1 hy=>(Qlw p0 p1 x1 hy)) (fun x1 hy h=>?_);refine Qao (t:=Qjj) h ?_;exact .refl _
mutual
def Qdk (p0:(List UInt8)) (w0:Int×(List Qaa)):Option (((List Qaa)×Int×Int)) :=
 cutL p0 w0.1 (p0.length:Int)>>=fun x2 =>
 Qhb x2 [123,123]>>=fun x3 =>
 ( if(decide (x3<0)) then
   some (wr ((p0.length:Int)-w0.1))
  else
   some x3:Option (Int))>>=fun o4 =>
 ( if(decide (o4>0)) then
   cutL p0 w0.1 (wr (w0.1+o4))>>=fun x6 =>
   Qa5 1 x6 0 o4 p0 w0.1 w0.2>>=fun x7 =>
   some (x7.1,x7.2)
  else
   some (w0.1,w0.2):Option ((Int×(List Qaa))))>>=fun o5 =>
 if(o5.1==(p0.length:Int)) then
  some (o5.2,0,0)
 else
  Qa5 2 [] 0 2 p0 o5.1 o5.2>>=fun x8 =>
  Qc2 p0 x8.1 x8.2>>=fun x9 =>
  ( Qfd p0 [35] x9>>=fun x13 =>
   if x13 then
    cutL p0 x9 (p0.length:Int)>>=fun x14 =>
    Qhb x14 [125,125]>>=fun x15 =>
    if(decide (x15<0)) then
     some (.inr ())
    else
     some (.inl (wr (x9+x15)))
   else
    some (.inl x9):Option (Int⊕Unit))>>=fun o10 =>
  match o10 with
  | .inl y11 =>
   Qg2 p0 (y11,x8.2)
  | .inr y12 =>
   some ([],(p0.length:Int),7)
 partial_fixpoint
def Qg2 (p0:(List UInt8)) (w1:Int×(List Qaa)):Option (((List Qaa)×Int×Int)) :=
 Qc2 p0 w1.1 w1.2>>=fun x16 =>
 Qfd p0 [125,125] x16>>=fun x17 =>
 if x17 then
  Qa5 3 [] 0 2 p0 x16 w1.2>>=fun x18 =>
  Qdk p0 (x18.1,x18.2)
 else
  ( if(x16==(p0.length:Int)) then
    some (true,x16,w1.2)
   else
    Qdz p0 x16 w1.2>>=fun x20 =>
    some ((!x20.1),x20.2.1,x20.2.2):Option ((Bool×Int×(List Qaa))))>>=fun o19 =>
  if o19.1 then
   some ([],o19.2.1,7)
  else
   Qg2 p0 (o19.2.1,o19.2.2)
 partial_fixpoint
end
theorem Qu9:∀ (p0:(List UInt8)),(∀ (w0:Int×(List Qaa)) (o1:((List Qaa)×Int×Int)),Qdk p0 w0=some o1→TG (0,0) Tryz.prog 112 Qez (Qacr Qez 0) (JP1 (0,0) 112 o1 .ret (Qhx p0)) (Qgg p0 w0))∧(∀ (w1:Int×(List Qaa)) (o1:((List Qaa)×Int×Int)),Qg2 p0 w1=some o1→TG (0,0) Tryz.prog 112 Qez (Qacr Qez 1) (JP1 (0,0) 112 o1 .ret (Qhx p0)) (Qjc p0 w1)):=by
 intro p0;refine Qdk.mutual_partial_correctness p0 _ _ ?_ ?_
 ·intro Qg2' iQg2 w0 o1 h;refine TG.seqb mixed tbOk (lv:=Qbw) ?_;refine Qex (some w0.1) none h (fun x2 hi h=>?_);refine Qak [sV x2,sV [123,123]] Qjj h (fun x3 hy=>(Qqr x2 [123,123] x3 hy)) (fun x3 hy h=>?_);refine TG.seqj mixed tbOk (lv:=Qbw) ?_;refine Qag h (fun o4 ho hk=>?_);refine Exists.intro (JP1 _ _ o4 .normal (Q0w p0 w0)) (And.intro ?_ (Qa7 ?_))
  ·have h:=ho;refine Qaf h (fun hb h=>?_) (fun hb h=>?_)
   ·refine vrfl ?_;refine JP1.a h ?_;exact Le.tz 1 1 rfl rfl rfl
   ·refine JP1.a h ?_;exact Le.tz 1 1 rfl rfl rfl
  ·have h:=hk;refine TG.seqj mixed tbOk (lv:=Qbw) ?_;refine Qag h (fun o5 ho hk=>?_);refine Exists.intro (JP1 _ _ o5 .normal (Q0x p0)) (And.intro ?_ (Qa7 ?_))
   ·have h:=ho;refine Qaf h (fun hb h=>?_) (fun hb h=>?_)
    ·refine And.intro (by decide +kernel) (And.intro rfl ?_);refine Qex (some w0.1) (some (wr (w0.1+o4))) h (fun x6 hi h=>?_);refine Qnv _ _ h (fun x7 hy=>((Qch 1 x6 0 o4 p0 w0.1 w0.2 x7 hy).fg [0] [0] rfl rfl rfl (Nat.le_of_ble_eq_true rfl))) (fun x7 hy h=>?_);refine JP1.a h ?_;exact Le.tz 1 1 rfl rfl rfl
    ·refine JP1.a h ?_;exact Le.tz 1 1 rfl rfl rfl
   ·have h:=hk;refine TG.seqb mixed tbOk (lv:=Qbw) ?_;refine vrfl ?_;refine Qaf h (fun hb h=>?_) (fun hb h=>?_)
    ·refine JP1.a h ?_;exact Le.tz 0 0 rfl rfl rfl
    ·refine TG.seqb mixed tbOk (lv:=Qbw) ?_;refine Qah _ _ h (fun x8 hy=>((Qch 2 [] 0 2 p0 o5.1 o5.2 x8 hy).fr [0] [0] rfl rfl rfl)) (fun x8 hy h=>?_);refine TG.seqb mixed tbOk (lv:=Qbw) ?_;refine Qah _ _ h (fun x9 hy=>((Qjr p0 x8.1 x8.2 x9 hy).fr [0] [0] rfl rfl rfl)) (fun x9 hy h=>?_);refine TG.seqj mixed tbOk (lv:=Qbw) ?_;refine Qag h (fun o10 ho hk=>?_);refine Exists.intro (JP2 _ _ o10 .normal (Q0y p0 x8 x9) .ret (Q0z p0 x8 x9)) (And.intro ?_ (Qmu (fun y11 hy=>?_) (fun y12 hy=>?_)))
     ·have h:=ho;refine Qak [sV p0,sV [35],iV x9] Qku h (fun x13 hy=>(Qsj p0 [35] x9 x13 hy)) (fun x13 hy h=>?_);refine Qaf h (fun hb h=>?_) (fun hb h=>?_)
      ·refine Qex (some x9) none h (fun x14 hi h=>?_);refine Qak [sV x14,sV [125,125]] Qjj h (fun x15 hy=>(Qqr x14 [125,125] x15 hy)) (fun x15 hy h=>?_);refine Qaf h (fun hb h=>?_) (fun hb h=>?_)
       ·refine vrfl ?_;refine JP2.b h ?_;exact Le.tz 1 1 rfl rfl rfl
       ·refine JP2.a h ?_;exact Le.tz 1 1 rfl rfl rfl
      ·refine JP2.a h ?_;exact Le.tz 1 1 rfl rfl rfl
     ·have h:=(by rw[hy] at hk; exact hk);refine TG.label (TG.le (τ := Qjc p0 (y11,x8.2)) ?_ ((iQg2 (y11,x8.2) _ h)));exact Le.tz 1 1 rfl rfl rfl
     ·have h:=(by rw[hy] at hk; exact hk);refine JP1.a h ?_;exact Le.tow 0 0 rfl (.cons rfl (.p (.not)) (.cons rfl (.refl _) (.cons rfl (.refl _) (.nil)))) (.refl _) rfl
 ·intro Qdk' Qg2' iQdk iQg2 w1 o1 h;refine TG.seqb mixed tbOk (lv:=Qbw) ?_;refine Qah _ _ h (fun x16 hy=>((Qjr p0 w1.1 w1.2 x16 hy).fr [0] [0] rfl rfl rfl)) (fun x16 hy h=>?_);refine TG.seqb mixed tbOk (lv:=Qbw) ?_;refine Qak [sV p0,sV [125,125],iV x16] Qku h (fun x17 hy=>(Qsj p0 [125,125] x16 x17 hy)) (fun x17 hy h=>?_);refine Qaf h (fun hb h=>?_) (fun hb h=>?_)
  ·refine Qah _ _ h (fun x18 hy=>((Qch 3 [] 0 2 p0 x16 w1.2 x18 hy).fr [0] [0] rfl rfl rfl)) (fun x18 hy h=>?_);refine Exists.intro _ (And.intro rfl (TG.skip (TG.le (τ := Qgg p0 (x18.1,x18.2)) ?_ ((iQdk (x18.1,x18.2) _ h)))));exact Le.tz 1 1 rfl rfl rfl
  ·refine TG.seqb mixed tbOk (lv:=Qbw) ?_;refine Qag h (fun o19 ho hk=>?_);refine Exists.intro (JP1 _ _ o19 .normal (Q00 p0)) (And.intro ?_ (Qa7 ?_))
   ·have h:=ho;refine vrfl ?_;refine Qaf h (fun hb h=>?_) (fun hb h=>?_)
    ·refine JP1.a h ?_;exact Le.tz 1 1 rfl rfl rfl
    ·refine Qah _ _ h (fun x20 hy=>((Qq8 p0 x16 w1.2 x20 hy).fr [0] [0] rfl rfl rfl)) (fun x20 hy h=>?_);refine JP1.a h ?_;exact Le.tz 1 1 rfl rfl rfl
   ·have h:=hk;refine Qaf h (fun hb h=>?_) (fun hb h=>?_)
    ·refine And.intro (by decide +kernel) (And.intro rfl ?_);refine JP1.a h ?_;exact Le.tow 0 0 rfl (.cons rfl (.p (.not)) (.cons rfl (.refl _) (.cons rfl (.refl _) (.nil)))) (.refl _) rfl
    ·refine TG.lastb mixed tbOk (lv:=Qbw) ?_;refine Exists.intro _ (And.intro rfl (TG.skip (TG.le (τ := Qjc p0 (o19.2.1,o19.2.2)) ?_ ((iQg2 (o19.2.1,o19.2.2) _ h)))));exact Le.tz 1 1 rfl rfl rfl
def Qwe:=fun p0 w0=>(Qu9 p0).1 w0
def Qpg (p0:(List UInt8)):Option ((List Qaa)×Int×Int) :=
 ( if(decide ((p0.length:Int)>65536)) then
   some ([],0,6)
  else
   Qdk p0 (0,[]):Option (((List Qaa)×Int×Int)))>>=fun o1 =>
 some (o1.1,o1.2.1,o1.2.2)
theorem Q6h:∀ (p0:(List UInt8)) (o:(List Qaa)×Int×Int),Qpg p0=some o→PCall Tryz.prog 14 [sV p0] (Qr7 o):=by
 intro p0 o h;unfold Qpg at h;refine PCall.ofB mixed tbOk Qbw Tryz.func14 rfl (by kernel_rfl) (Nat.le_of_ble_eq_true rfl) ?_;refine Qag h (fun o1 ho hk=>?_);refine Exists.intro (JP1 _ _ o1 .ret (Qhx p0)) (And.intro (TG.scope ?_) (Qa7 ?_))
 ·have h:=ho;refine TG.seqb mixed tbOk (lv:=Qbw) ?_;refine vrfl ?_;refine Qaf h (fun hb h=>?_) (fun hb h=>?_)
  ·refine JP1.a h ?_;exact Le.tow 0 0 rfl (.cons rfl (.p (.not)) (.cons rfl (.refl _) (.cons rfl (.refl _) (.nil)))) (.refl _) rfl
  ·refine TG.seqb mixed tbOk (lv:=Qbw) ?_;refine TG.seqb mixed tbOk (lv:=Qbw) ?_;refine TG.label (TG.le (τ := Qgg p0 (0,[])) ?_ ((Qwe p0 (0,[]) _ h)));exact(Le.ownH 0 2 59 5 rfl rfl Q0c).trans (Le.tz 1 1 rfl rfl rfl)
 ·have h:=hk;refine Qao (t:=Qr7) h ?_;exact .refl _
def Qbj (h0_0:(List Qaa)) (h0_1:Int):Option (Qaa) :=
 if(h0_1==(h0_0.length:Int)) then
  some (Qaa.mk 0 [] 0 0 0)
 else
  idx h0_0 h0_1>>=fun x1 =>
  some x1
theorem Qci:∀ (h0_0:(List Qaa)) (h0_1:Int) (o:Qaa),Qbj h0_0 h0_1=some o→CallOK Tryz.prog 31 [.ptr 0 0] ⟨[[.p (.sl false (h0_0.map Qad)),.p (iV h0_1)]],[]⟩ (Qia o) ⟨[[.p (.sl false (h0_0.map Qad)),.p (iV h0_1)]],[]⟩:=by
 intro h0_0 h0_1 o h;unfold Qbj at h;refine CallOK.ofB mixed tbOk Qtx Tryz.func31 rfl (by kernel_rfl) (Nat.le_of_ble_eq_true rfl) rfl rfl rfl ?_;refine And.intro (by decide +kernel) (And.intro rfl ?_);refine view (Qaw _ _) rfl ?_;refine Qaf h (fun hb h=>?_) (fun hb h=>?_)
 ·refine Exists.intro _ (And.intro (Le.refl _ _ _) ?_);exact Qbe (t:=Qia) (ss:=fun o=>⟨[[.p (.sl false (h0_0.map Qad)),.p (iV h0_1)]],[]⟩) h ⟨[],rfl,.refl _,.refl _,rfl⟩
 ·refine And.intro (by decide +kernel) (And.intro rfl ?_);refine Qcy (l:=h0_0) (c:=Qad) (c' := Qad) h (fun _=>rfl) (fun _=>rfl) (by decide) (fun x1 hi h=>?_);refine Exists.intro _ (And.intro (Le.refl _ _ _) ?_);exact Qbe (t:=Qia) (ss:=fun o=>⟨[[.p (.sl false (h0_0.map Qad)),.p (iV h0_1)]],[]⟩) h ⟨[],rfl,.refl _,.refl _,rfl⟩
def Qb1 (p1:Int) (h0_0:(List Qaa)) (h0_1:Int):Option (Bool×Int) :=
 Qbj h0_0 h0_1>>=fun x1 =>
 if(x1.Kind != p1) then
  some (false,h0_1)
 else
  some (true,(wr (h0_1+1)))
theorem Qc3:∀ (p1:Int) (h0_0:(List Qaa)) (h0_1:Int) (o:Bool×Int),Qb1 p1 h0_0 h0_1=some o→CallOK Tryz.prog 32 [.ptr 0 0,.p (iV p1)] ⟨[[.p (.sl false (h0_0.map Qad)),.p (iV h0_1)]],[]⟩ (Qib o) ⟨[[.p (.sl false (h0_0.map Qad)),.p (iV o.2)]],[]⟩:=by
 intro p1 h0_0 h0_1 o h;unfold Qb1 at h;refine CallOK.ofB mixed tbOk Qty Tryz.func32 rfl (by kernel_rfl) (Nat.le_of_ble_eq_true rfl) rfl rfl rfl ?_;refine Qah _ _ h (fun x1 hy=>((Qci h0_0 h0_1 x1 hy).fr [0] [] rfl rfl rfl)) (fun x1 hy h=>?_);refine Qaf h (fun hb h=>?_) (fun hb h=>?_)
 ·refine Exists.intro _ (And.intro (Le.refl _ _ _) ?_);exact Qbe (t:=Qib) (ss:=fun o=>⟨[[.p (.sl false (h0_0.map Qad)),.p (iV o.2)]],[]⟩) h ⟨[],rfl,.refl _,.refl _,rfl⟩
 ·refine Exists.intro _ (And.intro (Le.refl _ _ _) ?_);exact Qbe (t:=Qib) (ss:=fun o=>⟨[[.p (.sl false (h0_0.map Qad)),.p (iV o.2)]],[]⟩) h ⟨[],rfl,.refl _,.refl _,rfl⟩
def Qa6 (p1:Bool) (h0_0:(List Qaa)) (h0_1:Int):Option ((Unit)⊕(Unit)) :=
 some (Qyo p1)
theorem Qbh:∀ (p1:Bool) (h0_0:(List Qaa)) (h0_1:Int) (o:(Unit)⊕(Unit)),Qa6 p1 h0_0 h0_1=some o→CallS Tryz.prog 36 [.ptr 0 0,.p (bV p1)] ⟨[[.p (.sl false (h0_0.map Qad)),.p (iV h0_1)]],[]⟩ Qu0 (fun(o:Unit)=>⟨[[.p (.sl false (h0_0.map Qad)),.p (iV h0_1)]],[]⟩) (fun(o:Unit)=>⟨[[.p (.sl false (h0_0.map Qad)),.p (iV h0_1)]],[]⟩) o:=by
 intro p1 h0_0 h0_1 o h;unfold Qa6 at h;cases h;exact Qak2 _ _ _ _ rfl _ rfl
def Qau (p1:Int) (h0_0:(List Qaa)) (h0_1:Int):Option ((Qaa×Int)⊕(Unit)) :=
 Qbj h0_0 h0_1>>=fun x1 =>
 Qa6 (x1.Kind==p1) h0_0 h0_1>>=fun o3 =>
 match o3 with
 | .inl x2 =>
  some (.inl (x1,(wr (h0_1+1))))
 | .inr z4 =>
  some (.inr ())
theorem Qam:∀ (p1:Int) (h0_0:(List Qaa)) (h0_1:Int) (o:(Qaa×Int)⊕(Unit)),Qau p1 h0_0 h0_1=some o→CallS Tryz.prog 33 [.ptr 0 0,.p (iV p1)] ⟨[[.p (.sl false (h0_0.map Qad)),.p (iV h0_1)]],[]⟩ Qna (fun(o:Qaa×Int)=>⟨[[.p (.sl false (h0_0.map Qad)),.p (iV o.2)]],[]⟩) (fun(o:Unit)=>⟨[[.p (.sl false (h0_0.map Qad)),.p (iV h0_1)]],[]⟩) o:=by
 intro p1 h0_0 h0_1 o h;unfold Qau at h;refine CallS.ofB mixed tbOk Qt0 Tryz.func33 rfl (by kernel_rfl) (Nat.le_of_ble_eq_true rfl) (fun _=>rfl) (fun _=>rfl) (fun _=>rfl) (fun _=>rfl) (fun _=>rfl) ?_;refine Qah _ _ h (fun x1 hy=>((Qci h0_0 h0_1 x1 hy).fr [0] [] rfl rfl rfl)) (fun x1 hy h=>?_);refine xle ?_;refine Qbk _ _ _ h (fun x2 hy=>(Qbh (x1.Kind==p1) h0_0 h0_1 (.inl x2) hy).a.fr [0] [] rfl rfl rfl) (fun z4 hy=>(Qbh (x1.Kind==p1) h0_0 h0_1 (.inr z4) hy).b.fr [0] [] rfl rfl rfl) (fun x2 hy h=>?_) (fun z4 hy h=>?_)
 ·refine Exists.intro _ (And.intro (Le.refl _ _ _) ?_);exact Qey (t:=Qna) (ss:=fun(o:Qaa×Int)=>⟨[[.p (.sl false (h0_0.map Qad)),.p (iV o.2)]],[]⟩) h ⟨[],rfl,.refl _,.refl _,rfl⟩
 ·refine xle ?_;exact Qcs (sp:=fun(o:Unit)=>⟨[[.p (.sl false (h0_0.map Qad)),.p (iV h0_1)]],[]⟩) h ⟨[],rfl,.refl _,.refl _,rfl⟩
instance Q30:Lean.Order.CCPO ((List Qab)→(List Qab)→(List Qab)→Option ((Int×Int×(List UInt8)×(List UInt8)×Int×(List Qab)×(List Qab)×(List Qab))⊕(Int×Int×(List UInt8)×(List UInt8)×Int×(List Qab)×(List Qab)×(List Qab)))):=inferInstance
instance Q31:Lean.Order.CCPO ((List UInt8)→(List UInt8)→Int→(List Qab)→(List Qab)→(List Qab)→Option ((Int×Int×(List UInt8)×(List UInt8)×Int×(List Qab)×(List Qab)×(List Qab))⊕(Int×Int×(List UInt8)×(List UInt8)×Int×(List Qab)×(List Qab)×(List Qab)))):=inferInstance
def Qb3 (h0_0:(List Qaa)) (h0_1_:Int) (h2_0:Int) (h2_1:(List UInt8)) (h2_2:(List UInt8)) (h2_3:Int) (h2_4:(List Qab)) (h2_5:(List Qab)) (h2_6:(List Qab)):Option ((Int×Int×(List UInt8)×(List UInt8)×Int×(List Qab)×(List Qab)×(List Qab))⊕(Int×Int×(List UInt8)×(List UInt8)×Int×(List Qab)×(List Qab)×(List Qab))) :=
 Qb1 7 h0_0 h0_1_>>=fun x7 =>
 if x7.1 then
  Qau 4 h0_0 x7.2>>=fun o9 =>
  match o9 with
  | .inl x8 =>
   Qb3 h0_0 x8.2 5 x8.1.Text [] 0 [(Qab.mk h2_0 h2_1 h2_2 h2_3 h2_4 h2_5 h2_6)] [] []
  | .inr z10 =>
   some (.inr (x7.2,h2_0,h2_1,h2_2,h2_3,h2_4,h2_5,h2_6))
 else
  some (.inl (x7.2,h2_0,h2_1,h2_2,h2_3,h2_4,h2_5,h2_6))
 partial_fixpoint
theorem Qph:∀ (h0_0:(List Qaa)),(∀ (h0_1_:Int) (h2_0:Int) (h2_1:(List UInt8)) (h2_2:(List UInt8)) (h2_3:Int) (h2_4:(List Qab)) (h2_5:(List Qab)) (h2_6:(List Qab)) (o4:(Int×Int×(List UInt8)×(List UInt8)×Int×(List Qab)×(List Qab)×(List Qab))⊕(Int×Int×(List UInt8)×(List UInt8)×Int×(List Qab)×(List Qab)×(List Qab))),Qb3 h0_0 h0_1_ h2_0 h2_1 h2_2 h2_3 h2_4 h2_5 h2_6=some o4→TL (1,0) Tryz.prog 15 Qj2 (JP2 (1,0) 15 o4 (.exit 0) (Qfl h0_0) (.panic Qi3) (Qfm h0_0)) (Qds h0_0 h0_1_ h2_0 h2_1 h2_2 h2_3 h2_4 h2_5 h2_6)):=by
 intro h0_0;refine Qb3.partial_correctness h0_0 _ ?_;intro Qb3' iQb3 h0_1_ h2_0 h2_1 h2_2 h2_3 h2_4 h2_5 h2_6 o4 h;refine TL.round (Qan mixed tbOk (lv:=Ql3) _ _ _ ?_);refine Qah _ _ h (fun x7 hy=>((Qc3 7 h0_0 h0_1_ x7 hy).fr [0] [] rfl rfl rfl)) (fun x7 hy h=>?_);refine Qaf h (fun hb h=>?_) (fun hb h=>?_)
 ·refine xle ?_;refine Qaiw h (fun x8 hy h=>?_) (fun z10 hy h=>?_)
  ·refine And.intro (by decide +kernel) (And.intro rfl ?_);refine Exists.intro _ (Exists.intro _ (And.intro ((Qam 4 h0_0 x7.2 (.inl x8) hy).a.fg [0] [] rfl rfl rfl (Nat.le_of_ble_eq_true rfl)) ?_));refine TL.le (τ := Qds h0_0 x8.2 5 x8.1.Text [] 0 [(Qab.mk h2_0 h2_1 h2_2 h2_3 h2_4 h2_5 h2_6)] [] []) ?_ ((iQb3 x8.2 5 x8.1.Text [] 0 [(Qab.mk h2_0 h2_1 h2_2 h2_3 h2_4 h2_5 h2_6)] [] [] _ h));exact Le.tow 3 0 rfl (.cons rfl (.refl _) (.cons rfl (.refl _) (.cons rfl (.refl _) (.nil)))) (.cons (.refl _) (.cons (.refl _) (.cons (.cons (.refl _) (.cons (.refl _) (.cons (.refl _) (.cons (.refl _) (.cons (.p (.no (.cons (.ceq (Qai _) (.refl _)) (.nil)))) (.cons (.p (.not)) (.cons (.p (.not)) (.nil)))))))) (.nil)))) rfl
  ·refine Exists.intro ((.op 0 (.pan 1 (.op 3 (.pan 1 (.op 4 (.pan 1 (.nil)) (.nil))) (.nil))) (.op 3 (.op 0 (.pan 1 (.op 4 (.pan 1 (.nil)) (.nil))) (.op 4 (.op 0 (.pan 1 (.nil)) (.nil)) (.nil))) (.nil)):PT)) (And.intro (by decide +kernel) ?_);refine And.intro (And.intro ?_ (And.intro (And.intro ?_ (And.intro (And.intro ?_ (trivial)) (trivial))) (trivial))) (And.intro (And.intro (And.intro ?_ (And.intro (And.intro ?_ (trivial)) (trivial))) (And.intro (And.intro (And.intro ?_ (trivial)) (trivial)) (trivial))) (trivial))
   all_goals
    refine Or.inr (Exists.intro _ (And.intro ((Qam 4 h0_0 x7.2 (.inr z10) hy).b.fr [0] [] rfl rfl rfl) ?_));exact JP2.b h (Le.tz 3 0 rfl rfl rfl)
 ·exact JP2.a h (Le.tz 3 0 rfl rfl rfl)
def Qqg:=fun h0_0 h0_1_ h2_0 h2_1 h2_2 h2_3 h2_4 h2_5 h2_6=>(Qph h0_0) h0_1_ h2_0 h2_1 h2_2 h2_3 h2_4 h2_5 h2_6
def Qsk (p0:(List UInt8)):Option (Bool) :=
 ( if(p0==[105,102]) then
   some (p0==[105,102])
  else
   if(p0==[101,108,115,101]) then
    some (p0==[101,108,115,101])
   else
    if(p0==[101,110,100]) then
     some (p0==[101,110,100])
    else
     if(p0==[101,97,99,104]) then
      some (p0==[101,97,99,104])
     else
      if(p0==[105,110]) then
       some (p0==[105,110])
      else
       if(p0==[108,101,116]) then
        some (p0==[108,101,116])
       else
        if(p0==[117,115,101]) then
         some (p0==[117,115,101])
        else
         if(p0==[116,114,117,101]) then
          some (p0==[116,114,117,101])
         else
          if(p0==[102,97,108,115,101]) then
           some (p0==[102,97,108,115,101])
          else
           some (p0==[115,101,99,114,101,116]):Option (Bool))>>=fun o1 =>
 if o1 then
  some false
 else
  Qn8 p0>>=fun x2 =>
  some x2
theorem Q9b:∀ (p0:(List UInt8)) (o:Bool),Qsk p0=some o→PCall Tryz.prog 93 [sV p0] (Qp9 o):=by
 intro p0 o h;unfold Qsk at h;refine PCall.ofB mixed tbOk Q8v Tryz.func93 rfl (by kernel_rfl) (Nat.le_of_ble_eq_true rfl) ?_;refine Qag h (fun o1 ho hk=>?_);refine Exists.intro (JP1 _ _ o1 .normal (Q2z p0)) (And.intro ?_ (Qa7 ?_))
 ·have h:=ho;refine Qaf h (fun hb h=>?_) (fun hb h=>?_)
  ·refine JP1.a h ?_;exact Le.tz 0 0 rfl rfl rfl
  ·refine Qaf h (fun hb h=>?_) (fun hb h=>?_)
   ·refine JP1.a h ?_;exact Le.tz 0 0 rfl rfl rfl
   ·refine Qaf h (fun hb h=>?_) (fun hb h=>?_)
    ·refine JP1.a h ?_;exact Le.tz 0 0 rfl rfl rfl
    ·refine Qaf h (fun hb h=>?_) (fun hb h=>?_)
     ·refine JP1.a h ?_;exact Le.tz 0 0 rfl rfl rfl
     ·refine Qaf h (fun hb h=>?_) (fun hb h=>?_)
      ·refine JP1.a h ?_;exact Le.tz 0 0 rfl rfl rfl
      ·refine Qaf h (fun hb h=>?_) (fun hb h=>?_)
       ·refine JP1.a h ?_;exact Le.tz 0 0 rfl rfl rfl
       ·refine Qaf h (fun hb h=>?_) (fun hb h=>?_)
        ·refine JP1.a h ?_;exact Le.tz 0 0 rfl rfl rfl
        ·refine Qaf h (fun hb h=>?_) (fun hb h=>?_)
         ·refine JP1.a h ?_;exact Le.tz 0 0 rfl rfl rfl
         ·refine Qaf h (fun hb h=>?_) (fun hb h=>?_)
          ·refine JP1.a h ?_;exact Le.tz 0 0 rfl rfl rfl
          ·refine JP1.a h ?_;exact Le.tz 0 0 rfl rfl rfl
 ·have h:=hk;refine Qaf h (fun hb h=>?_) (fun hb h=>?_)
  ·refine Qao (t:=Qp9) h ?_;exact .refl _
  ·refine Qak [sV p0] Qmn h (fun x2 hy=>(Qu7 p0 x2 hy)) (fun x2 hy h=>?_);refine Qao (t:=Qp9) h ?_;exact .refl _
def Qcw (h0_0:(List Qaa)) (h0_1:Int):Option (((List UInt8)×Int)⊕(Unit)) :=
 Qbj h0_0 h0_1>>=fun x1 =>
 Qsk x1.Text>>=fun x2 =>
 Qa6 x2 h0_0 h0_1>>=fun o4 =>
 match o4 with
 | .inl x3 =>
  Qau 4 h0_0 h0_1>>=fun o7 =>
  match o7 with
  | .inl x6 =>
   some (.inl (x6.1.Text,x6.2))
  | .inr z8 =>
   some (.inr ())
 | .inr z5 =>
  some (.inr ())
theorem Qb4:∀ (h0_0:(List Qaa)) (h0_1:Int) (o:((List UInt8)×Int)⊕(Unit)),Qcw h0_0 h0_1=some o→CallS Tryz.prog 58 [.ptr 0 0] ⟨[[.p (.sl false (h0_0.map Qad)),.p (iV h0_1)]],[]⟩ Qm9 (fun(o:(List UInt8)×Int)=>⟨[[.p (.sl false (h0_0.map Qad)),.p (iV o.2)]],[]⟩) (fun(o:Unit)=>⟨[[.p (.sl false (h0_0.map Qad)),.p (iV h0_1)]],[]⟩) o:=by
 intro h0_0 h0_1 o h;unfold Qcw at h;refine CallS.ofB mixed tbOk Qtw Tryz.func58 rfl (by kernel_rfl) (Nat.le_of_ble_eq_true rfl) (fun _=>rfl) (fun _=>rfl) (fun _=>rfl) (fun _=>rfl) (fun _=>rfl) ?_;refine xle ?_;refine Qah _ _ h (fun x1 hy=>((Qci h0_0 h0_1 x1 hy).fr [0] [] rfl rfl rfl)) (fun x1 hy h=>?_);refine Qak [sV x1.Text] Qp9 h (fun x2 hy=>(Q9b x1.Text x2 hy)) (fun x2 hy h=>?_);refine Qbk _ _ _ h (fun x3 hy=>(Qbh x2 h0_0 h0_1 (.inl x3) hy).a.fr [0] [] rfl rfl rfl) (fun z5 hy=>(Qbh x2 h0_0 h0_1 (.inr z5) hy).b.fr [0] [] rfl rfl rfl) (fun x3 hy h=>?_) (fun z5 hy h=>?_)
 ·refine xle ?_;refine Qbk _ _ _ h (fun x6 hy=>(Qam 4 h0_0 h0_1 (.inl x6) hy).a.fr [0] [] rfl rfl rfl) (fun z8 hy=>(Qam 4 h0_0 h0_1 (.inr z8) hy).b.fr [0] [] rfl rfl rfl) (fun x6 hy h=>?_) (fun z8 hy h=>?_)
  ·refine Exists.intro _ (And.intro (Le.refl _ _ _) ?_);exact Qey (t:=Qm9) (ss:=fun(o:(List UInt8)×Int)=>⟨[[.p (.sl false (h0_0.map Qad)),.p (iV o.2)]],[]⟩) h ⟨[],rfl,.refl _,.refl _,rfl⟩
  ·refine xle ?_;exact Qcs (sp:=fun(o:Unit)=>⟨[[.p (.sl false (h0_0.map Qad)),.p (iV h0_1)]],[]⟩) h ⟨[],rfl,.refl _,.refl _,rfl⟩
 ·refine xle ?_;exact Qcs (sp:=fun(o:Unit)=>⟨[[.p (.sl false (h0_0.map Qad)),.p (iV h0_1)]],[]⟩) h ⟨[],rfl,.refl _,.refl _,rfl⟩
def Qaz (p1:(List UInt8)) (h0_0:(List Qaa)) (h0_1:Int):Option (Bool×Int) :=
 Qbj h0_0 h0_1>>=fun x1 =>
 ( if(x1.Kind != 4) then
   some true
  else
   some (!(x1.Text==p1)):Option (Bool))>>=fun o2 =>
 if o2 then
  some (false,h0_1)
 else
  some (true,(wr (h0_1+1)))
theorem Qbi:∀ (p1:(List UInt8)) (h0_0:(List Qaa)) (h0_1:Int) (o:Bool×Int),Qaz p1 h0_0 h0_1=some o→CallOK Tryz.prog 34 [.ptr 0 0,.p (sV p1)] ⟨[[.p (.sl false (h0_0.map Qad)),.p (iV h0_1)]],[]⟩ (Qic o) ⟨[[.p (.sl false (h0_0.map Qad)),.p (iV o.2)]],[]⟩:=by
 intro p1 h0_0 h0_1 o h;unfold Qaz at h;refine CallOK.ofB mixed tbOk Qt1 Tryz.func34 rfl (by kernel_rfl) (Nat.le_of_ble_eq_true rfl) rfl rfl rfl ?_;refine Qah _ _ h (fun x1 hy=>((Qci h0_0 h0_1 x1 hy).fr [0] [] rfl rfl rfl)) (fun x1 hy h=>?_);refine Qag h (fun o2 ho hk=>?_);refine Exists.intro (JP1 _ _ o2 .normal (Qq4 h0_0 h0_1 x1)) (And.intro ?_ (Qa7 ?_))
 ·have h:=ho;refine Qaf h (fun hb h=>?_) (fun hb h=>?_)
  ·refine JP1.a h ?_;exact Le.tz 2 0 rfl rfl rfl
  ·refine JP1.a h ?_;exact Le.tz 2 0 rfl rfl rfl
 ·have h:=hk;refine Qaf h (fun hb h=>?_) (fun hb h=>?_)
  ·refine Exists.intro _ (And.intro (Le.refl _ _ _) ?_);exact Qbe (t:=Qic) (ss:=fun o=>⟨[[.p (.sl false (h0_0.map Qad)),.p (iV o.2)]],[]⟩) h ⟨[],rfl,.refl _,.refl _,rfl⟩
  ·refine Exists.intro _ (And.intro (Le.refl _ _ _) ?_);exact Qbe (t:=Qic) (ss:=fun o=>⟨[[.p (.sl false (h0_0.map Qad)),.p (iV o.2)]],[]⟩) h ⟨[],rfl,.refl _,.refl _,rfl⟩
mutual
def Qe6 (h0_0:(List Qaa)) (h0_1:Int):Option (((List Qab)×Int)⊕(Int)) :=
 Qb1 9 h0_0 h0_1>>=fun x1 =>
 if x1.1 then
  some (.inl ([],x1.2))
 else
  Qcx h0_0 x1.2>>=fun o3 =>
  match o3 with
  | .inl x2 =>
   (Qb5 h0_0 [x2.1] x2.2)>>=fun o5 =>
   match o5 with
   | .inl y6 =>
    Qau 9 h0_0 y6.2>>=fun o15 =>
    match o15 with
    | .inl x14 =>
     some (.inl (y6.1,x14.2))
    | .inr z16 =>
     some (.inr y6.2)
   | .inr y7 =>
    some (.inr y7)
  | .inr z4 =>
   some (.inr z4)
 partial_fixpoint
def Qb5 (h0_0:(List Qaa)) (v3:(List Qab)) (h0_1_:Int):Option (((List Qab)×Int)⊕Int) :=
 ( if(decide ((v3.length:Int)<3)) then
   Qb1 10 h0_0 h0_1_>>=fun x9 =>
   some (x9.1,x9.2)
  else
   some (false,h0_1_):Option ((Bool×Int)))>>=fun o8 =>
 if o8.1 then
  Qcx h0_0 o8.2>>=fun o11 =>
  match o11 with
  | .inl x10 =>
   appL 120 v3 [x10.1]>>=fun x13 =>
   Qb5 h0_0 x13 x10.2
  | .inr z12 =>
   some (.inr z12)
 else
  some (.inl (v3,o8.2))
 partial_fixpoint
def Qcx (h0_0:(List Qaa)) (h0_1:Int):Option ((Qab×Int)⊕(Int)) :=
 Qgl h0_0 h0_1>>=fun o2 =>
 match o2 with
 | .inl x1 =>
  (Qb3 h0_0 x1.2 x1.1.Kind x1.1.Name x1.1.Text x1.1.N x1.1.L x1.1.Then x1.1.Else)>>=fun o4 =>
  match o4 with
  | .inl y5 =>
   some (.inl ((Qab.mk y5.2.1 y5.2.2.1 y5.2.2.2.1 y5.2.2.2.2.1 y5.2.2.2.2.2.1 y5.2.2.2.2.2.2.1 y5.2.2.2.2.2.2.2),y5.1))
  | .inr y6 =>
   some (.inr y6.1)
 | .inr z3 =>
  some (.inr z3)
 partial_fixpoint
def Qgl (h0_0:(List Qaa)) (h0_1:Int):Option ((Qab×Int)⊕(Int)) :=
 Qbj h0_0 h0_1>>=fun x1 =>
 if(x1.Kind==5) then
  some (.inl ((Qab.mk 1 [] x1.Text 0 [] [] []),(wr (h0_1+1))))
 else
  if(x1.Kind==6) then
   some (.inl ((Qab.mk 2 [] [] x1.N [] [] []),(wr (h0_1+1))))
  else
   Qaz [116,114,117,101] h0_0 h0_1>>=fun x2 =>
   if x2.1 then
    some (.inl ((Qab.mk 3 [] [] 1 [] [] []),x2.2))
   else
    Qaz [102,97,108,115,101] h0_0 x2.2>>=fun x3 =>
    if x3.1 then
     some (.inl ((Qab.mk 3 [] [] 0 [] [] []),x3.2))
    else
     Qaz [115,101,99,114,101,116] h0_0 x3.2>>=fun x4 =>
     if x4.1 then
      Qau 8 h0_0 x4.2>>=fun o6 =>
      match o6 with
      | .inl x5 =>
       Qbj h0_0 x5.2>>=fun x8 =>
       Qn8 x8.Text>>=fun x9 =>
       Qa6 x9 h0_0 x5.2>>=fun o11 =>
       match o11 with
       | .inl x10 =>
        Qau 5 h0_0 x5.2>>=fun o14 =>
        match o14 with
        | .inl x13 =>
         Qau 9 h0_0 x13.2>>=fun o17 =>
         match o17 with
         | .inl x16 =>
          some (.inl ((Qab.mk 7 x13.1.Text [] 0 [] [] []),x16.2))
         | .inr z18 =>
          some (.inr x13.2)
        | .inr z15 =>
         some (.inr x5.2)
       | .inr z12 =>
        some (.inr x5.2)
      | .inr z7 =>
       some (.inr x4.2)
     else
      Qcw h0_0 x4.2>>=fun o20 =>
      match o20 with
      | .inl x19 =>
       Qb1 8 h0_0 x19.2>>=fun x22 =>
       if x22.1 then
        Qe6 h0_0 x22.2>>=fun o24 =>
        match o24 with
        | .inl x23 =>
         some (.inl ((Qab.mk 6 x19.1 [] 0 x23.1 [] []),x23.2))
        | .inr z25 =>
         some (.inr z25)
       else
        some (.inl ((Qab.mk 4 x19.1 [] 0 [] [] []),x22.2))
      | .inr z21 =>
       some (.inr x4.2)
 partial_fixpoint
end
theorem Qsl:∀ (h0_0:(List Qaa)),(∀ (h0_1:Int) (o:((List Qab)×Int)⊕(Int)),Qe6 h0_0 h0_1=some o→CallS Tryz.prog 120 [.ptr 0 0] ⟨[[.p (.sl false (h0_0.map Qad)),.p (iV h0_1)]],[]⟩ Qh8 (fun(o:(List Qab)×Int)=>⟨[[.p (.sl false (h0_0.map Qad)),.p (iV o.2)]],[]⟩) (fun(o:Int)=>⟨[[.p (.sl false (h0_0.map Qad)),.p (iV o)]],[]⟩) o)∧(∀ (v3:(List Qab)) (h0_1_:Int) (o5:((List Qab)×Int)⊕Int),Qb5 h0_0 v3 h0_1_=some o5→TL (1,0) Tryz.prog 24 Qq2 (JP2 (1,0) 24 o5 (.exit 0) (Qjg h0_0) (.panic Qi3) (Qjh h0_0)) (Qfk h0_0 v3 h0_1_))∧(∀ (h0_1:Int) (o:(Qab×Int)⊕(Int)),Qcx h0_0 h0_1=some o→CallS Tryz.prog 92 [.ptr 0 0] ⟨[[.p (.sl false (h0_0.map Qad)),.p (iV h0_1)]],[]⟩ Qh9 (fun(o:Qab×Int)=>⟨[[.p (.sl false (h0_0.map Qad)),.p (iV o.2)]],[]⟩) (fun(o:Int)=>⟨[[.p (.sl false (h0_0.map Qad)),.p (iV o)]],[]⟩) o)∧(∀ (h0_1:Int) (o:(Qab×Int)⊕(Int)),Qgl h0_0 h0_1=some o→CallS Tryz.prog 111 [.ptr 0 0] ⟨[[.p (.sl false (h0_0.map Qad)),.p (iV h0_1)]],[]⟩ Qb2 (fun(o:Qab×Int)=>⟨[[.p (.sl false (h0_0.map Qad)),.p (iV o.2)]],[]⟩) (fun(o:Int)=>⟨[[.p (.sl false (h0_0.map Qad)),.p (iV o)]],[]⟩) o):=by
 intro h0_0;refine Qe6.mutual_partial_correctness h0_0 _ _ _ _ ?_ ?_ ?_ ?_
 ·intro Qb5' Qcx' iQb5 iQcx h0_1 o h;refine CallS.ofB mixed tbOk Ql2 Tryz.func120 rfl (by kernel_rfl) (Nat.le_of_ble_eq_true rfl) (fun _=>rfl) (fun _=>rfl) (fun _=>rfl) (fun _=>rfl) (fun _=>rfl) ?_;refine Qah _ _ h (fun x1 hy=>((Qc3 9 h0_0 h0_1 x1 hy).fr [0] [] rfl rfl rfl)) (fun x1 hy h=>?_);refine Qaf h (fun hb h=>?_) (fun hb h=>?_)
  ·refine Exists.intro _ (And.intro (Le.refl _ _ _) ?_);exact Qey (t:=Qh8) (ss:=fun(o:(List Qab)×Int)=>⟨[[.p (.sl false (h0_0.map Qad)),.p (iV o.2)]],[]⟩) h ⟨[],rfl,.p (.not),.refl _,rfl⟩
  ·refine xle ?_;refine Qbk _ _ _ h (fun x2 hy=>(iQcx x1.2 (.inl x2) hy).a.fr [0] [] rfl rfl rfl) (fun z4 hy=>(iQcx x1.2 (.inr z4) hy).b.fr [0] [] rfl rfl rfl) (fun x2 hy h=>?_) (fun z4 hy h=>?_)
   ·refine Qag h (fun o5 ho hk=>?_);refine Exists.intro (JP2 _ _ o5 (.exit 0) (Qjg h0_0) (.panic Qi3) (Qjh h0_0)) (And.intro (Qo0 (τ := Qfk h0_0 [x2.1] x2.2) ?_ (TL.loop (iQb5 [x2.1] x2.2 o5 ho))) (Qmu (fun y6 hy=>?_) (fun y7 hy=>?_)))
    ·exact Le.trans (τ := ⟨[(0,.ptr 0 0),(3,.p (.sl true ([x2.1].map Qae)))],⟨[[.p (.sl false (h0_0.map Qad)),.p (iV x2.2)]],[]⟩⟩) (Le.tow 1 0 rfl (.cons rfl (.refl _) (.cons rfl (.p (.sl' (fun h=>h) (.cons (.ceq (Qai _) (.refl _)) (.nil)))) (.nil))) (.refl _) rfl) ((Le.ownW 3 37 7 rfl (Q4w fun x=>by rw[Qai]; rfl)).trans (Le.tz 1 1 rfl rfl rfl))
    ·have h:=(by rw[hy] at hk; exact hk);refine xle ?_;refine Qbk _ _ _ h (fun x14 hy=>(Qam 9 h0_0 y6.2 (.inl x14) hy).a.fr [0] [] rfl rfl rfl) (fun z16 hy=>(Qam 9 h0_0 y6.2 (.inr z16) hy).b.fr [0] [] rfl rfl rfl) (fun x14 hy h=>?_) (fun z16 hy h=>?_)
     ·refine Exists.intro _ (And.intro (Le.refl _ _ _) ?_);exact Qey (t:=Qh8) (ss:=fun(o:(List Qab)×Int)=>⟨[[.p (.sl false (h0_0.map Qad)),.p (iV o.2)]],[]⟩) h ⟨[],rfl,.refl _,.refl _,rfl⟩
     ·refine xle ?_;exact Qcs (sp:=fun(o:Int)=>⟨[[.p (.sl false (h0_0.map Qad)),.p (iV o)]],[]⟩) h ⟨[],rfl,.refl _,.refl _,rfl⟩
    ·have h:=(by rw[hy] at hk; exact hk);refine xle ?_;exact Qcs (sp:=fun(o:Int)=>⟨[[.p (.sl false (h0_0.map Qad)),.p (iV o)]],[]⟩) h ⟨[],rfl,.refl _,.refl _,rfl⟩
   ·refine xle ?_;exact Qcs (sp:=fun(o:Int)=>⟨[[.p (.sl false (h0_0.map Qad)),.p (iV o)]],[]⟩) h ⟨[],rfl,.refl _,.refl _,rfl⟩
 ·intro Qb5' Qcx' iQb5 iQcx v3 h0_1_ o5 h;refine TL.round (Qan mixed tbOk (lv:=Ql2) _ _ _ ?_);refine Qag h (fun o8 ho hk=>?_);refine Exists.intro (JP1 _ _ o8 .normal (Qq1 h0_0 v3)) (And.intro ?_ (Qa7 ?_))
  ·have h:=ho;refine view (Qaw _ _) rfl ?_;refine Qaf h (fun hb h=>?_) (fun hb h=>?_)
   ·refine Qah _ _ h (fun x9 hy=>((Qc3 10 h0_0 h0_1_ x9 hy).fr [0] [] rfl rfl rfl)) (fun x9 hy h=>?_);refine JP1.a h ?_;exact Le.tz 1 1 rfl rfl rfl
   ·refine JP1.a h ?_;exact Le.tz 1 1 rfl rfl rfl
  ·have h:=hk;refine Qaf h (fun hb h=>?_) (fun hb h=>?_)
   ·refine xle ?_;refine Qbk _ _ _ h (fun x10 hy=>(iQcx o8.2 (.inl x10) hy).a.fr [0] [] rfl rfl rfl) (fun z12 hy=>(iQcx o8.2 (.inr z12) hy).b.fr [0] [] rfl rfl rfl) (fun x10 hy h=>?_) (fun z12 hy h=>?_)
    ·refine Qri (a:=v3) (b:=[x10.1]) (c:=Qae) h (.cons (.ceq (Qai _) (.refl _)) (.nil)) (fun x=>by rw[Qai]; rfl) rfl (fun x13 hi h=>?_);refine TL.le (τ := Qfk h0_0 x13 x10.2) ?_ ((iQb5 x13 x10.2 _ h));exact Le.tz 1 1 rfl rfl rfl
    ·exact JP2.b h (Le.tz 1 0 rfl rfl rfl)
   ·exact JP2.a h (Le.tz 1 1 rfl rfl rfl)
 ·intro Qgl' iQgl h0_1 o h;refine CallS.ofB mixed tbOk Ql3 Tryz.func92 rfl (by kernel_rfl) (Nat.le_of_ble_eq_true rfl) (fun _=>rfl) (fun _=>rfl) (fun _=>rfl) (fun _=>rfl) (fun _=>rfl) ?_;refine xle ?_;refine Qbk _ _ _ h (fun x1 hy=>(iQgl h0_1 (.inl x1) hy).a.fr [0] [] rfl rfl rfl) (fun z3 hy=>(iQgl h0_1 (.inr z3) hy).b.fr [0] [] rfl rfl rfl) (fun x1 hy h=>?_) (fun z3 hy h=>?_)
  ·refine Qag h (fun o4 ho hk=>?_);refine Exists.intro (JP2 _ _ o4 (.exit 0) (Qfl h0_0) (.panic Qi3) (Qfm h0_0)) (And.intro (Qo0 (τ := Qds h0_0 x1.2 x1.1.Kind x1.1.Name x1.1.Text x1.1.N x1.1.L x1.1.Then x1.1.Else) ?_ (TL.loop (Qqg h0_0 x1.2 x1.1.Kind x1.1.Name x1.1.Text x1.1.N x1.1.L x1.1.Then x1.1.Else o4 ho))) (Qmu (fun y5 hy=>?_) (fun y6 hy=>?_)))
   ·exact Le.tz 3 0 rfl rfl rfl
   ·have h:=(by rw[hy] at hk; exact hk);refine Exists.intro _ (And.intro (Le.refl _ _ _) ?_);exact Qey (t:=Qh9) (ss:=fun(o:Qab×Int)=>⟨[[.p (.sl false (h0_0.map Qad)),.p (iV o.2)]],[]⟩) h ⟨[],rfl,.refl _,.refl _,rfl⟩
   ·have h:=(by rw[hy] at hk; exact hk);refine xle ?_;exact Qcs (sp:=fun(o:Int)=>⟨[[.p (.sl false (h0_0.map Qad)),.p (iV o)]],[]⟩) h ⟨[],rfl,.refl _,.refl _,rfl⟩
  ·refine xle ?_;exact Qcs (sp:=fun(o:Int)=>⟨[[.p (.sl false (h0_0.map Qad)),.p (iV o)]],[]⟩) h ⟨[],rfl,.refl _,.refl _,rfl⟩
 ·intro Qe6' iQe6 h0_1 o h;refine CallS.ofB mixed tbOk Qsb Tryz.func111 rfl (by kernel_rfl) (Nat.le_of_ble_eq_true rfl) (fun _=>rfl) (fun _=>rfl) (fun _=>rfl) (fun _=>rfl) (fun _=>rfl) ?_;refine Qah _ _ h (fun x1 hy=>((Qci h0_0 h0_1 x1 hy).fr [0] [] rfl rfl rfl)) (fun x1 hy h=>?_);refine Qaf h (fun hb h=>?_) (fun hb h=>?_)
  ·refine Exists.intro _ (And.intro (Le.refl _ _ _) ?_);exact Qey (t:=Qb2) (ss:=fun(o:Qab×Int)=>⟨[[.p (.sl false (h0_0.map Qad)),.p (iV o.2)]],[]⟩) h ⟨[],rfl,.p (.agg' (.cons (.refl _) (.cons (.refl _) (.cons (.refl _) (.cons (.refl _) (.cons (.not) (.cons (.not) (.cons (.not) (.nil))))))))),.refl _,rfl⟩
  ·refine Qaf h (fun hb h=>?_) (fun hb h=>?_)
   ·refine Exists.intro _ (And.intro (Le.refl _ _ _) ?_);exact Qey (t:=Qb2) (ss:=fun(o:Qab×Int)=>⟨[[.p (.sl false (h0_0.map Qad)),.p (iV o.2)]],[]⟩) h ⟨[],rfl,.p (.agg' (.cons (.refl _) (.cons (.refl _) (.cons (.refl _) (.cons (.refl _) (.cons (.not) (.cons (.not) (.cons (.not) (.nil))))))))),.refl _,rfl⟩
   ·refine Qah _ _ h (fun x2 hy=>((Qbi [116,114,117,101] h0_0 h0_1 x2 hy).fr [0] [] rfl rfl rfl)) (fun x2 hy h=>?_);refine Qaf h (fun hb h=>?_) (fun hb h=>?_)
    ·refine Exists.intro _ (And.intro (Le.refl _ _ _) ?_);exact Qey (t:=Qb2) (ss:=fun(o:Qab×Int)=>⟨[[.p (.sl false (h0_0.map Qad)),.p (iV o.2)]],[]⟩) h ⟨[],rfl,.p (.agg' (.cons (.refl _) (.cons (.refl _) (.cons (.refl _) (.cons (.refl _) (.cons (.not) (.cons (.not) (.cons (.not) (.nil))))))))),.refl _,rfl⟩
    ·refine Qah _ _ h (fun x3 hy=>((Qbi [102,97,108,115,101] h0_0 x2.2 x3 hy).fr [0] [] rfl rfl rfl)) (fun x3 hy h=>?_);refine Qaf h (fun hb h=>?_) (fun hb h=>?_)
     ·refine Exists.intro _ (And.intro (Le.refl _ _ _) ?_);exact Qey (t:=Qb2) (ss:=fun(o:Qab×Int)=>⟨[[.p (.sl false (h0_0.map Qad)),.p (iV o.2)]],[]⟩) h ⟨[],rfl,.p (.agg' (.cons (.refl _) (.cons (.refl _) (.cons (.refl _) (.cons (.refl _) (.cons (.not) (.cons (.not) (.cons (.not) (.nil))))))))),.refl _,rfl⟩
     ·refine Qah _ _ h (fun x4 hy=>((Qbi [115,101,99,114,101,116] h0_0 x3.2 x4 hy).fr [0] [] rfl rfl rfl)) (fun x4 hy h=>?_);refine Qaf h (fun hb h=>?_) (fun hb h=>?_)
      ·refine xle ?_;refine Qbk _ _ _ h (fun x5 hy=>(Qam 8 h0_0 x4.2 (.inl x5) hy).a.fr [0] [] rfl rfl rfl) (fun z7 hy=>(Qam 8 h0_0 x4.2 (.inr z7) hy).b.fr [0] [] rfl rfl rfl) (fun x5 hy h=>?_) (fun z7 hy h=>?_)
       ·refine xle ?_;refine Qah _ _ h (fun x8 hy=>((Qci h0_0 x5.2 x8 hy).fr [0] [] rfl rfl rfl)) (fun x8 hy h=>?_);refine Qak [sV x8.Text] Qmn h (fun x9 hy=>(Qu7 x8.Text x9 hy)) (fun x9 hy h=>?_);refine Qbk _ _ _ h (fun x10 hy=>(Qbh x9 h0_0 x5.2 (.inl x10) hy).a.fr [0] [] rfl rfl rfl) (fun z12 hy=>(Qbh x9 h0_0 x5.2 (.inr z12) hy).b.fr [0] [] rfl rfl rfl) (fun x10 hy h=>?_) (fun z12 hy h=>?_)
        ·refine xle ?_;refine Qbk _ _ _ h (fun x13 hy=>(Qam 5 h0_0 x5.2 (.inl x13) hy).a.fr [0] [] rfl rfl rfl) (fun z15 hy=>(Qam 5 h0_0 x5.2 (.inr z15) hy).b.fr [0] [] rfl rfl rfl) (fun x13 hy h=>?_) (fun z15 hy h=>?_)
         ·refine xle ?_;refine Qbk _ _ _ h (fun x16 hy=>(Qam 9 h0_0 x13.2 (.inl x16) hy).a.fr [0] [] rfl rfl rfl) (fun z18 hy=>(Qam 9 h0_0 x13.2 (.inr z18) hy).b.fr [0] [] rfl rfl rfl) (fun x16 hy h=>?_) (fun z18 hy h=>?_)
          ·refine Exists.intro _ (And.intro (Le.refl _ _ _) ?_);exact Qey (t:=Qb2) (ss:=fun(o:Qab×Int)=>⟨[[.p (.sl false (h0_0.map Qad)),.p (iV o.2)]],[]⟩) h ⟨[],rfl,.p (.agg' (.cons (.refl _) (.cons (.refl _) (.cons (.refl _) (.cons (.refl _) (.cons (.not) (.cons (.not) (.cons (.not) (.nil))))))))),.refl _,rfl⟩
          ·refine xle ?_;exact Qcs (sp:=fun(o:Int)=>⟨[[.p (.sl false (h0_0.map Qad)),.p (iV o)]],[]⟩) h ⟨[],rfl,.refl _,.refl _,rfl⟩
         ·refine xle ?_;exact Qcs (sp:=fun(o:Int)=>⟨[[.p (.sl false (h0_0.map Qad)),.p (iV o)]],[]⟩) h ⟨[],rfl,.refl _,.refl _,rfl⟩
        ·refine xle ?_;exact Qcs (sp:=fun(o:Int)=>⟨[[.p (.sl false (h0_0.map Qad)),.p (iV o)]],[]⟩) h ⟨[],rfl,.refl _,.refl _,rfl⟩
       ·refine xle ?_;exact Qcs (sp:=fun(o:Int)=>⟨[[.p (.sl false (h0_0.map Qad)),.p (iV o)]],[]⟩) h ⟨[],rfl,.refl _,.refl _,rfl⟩
      ·refine xle ?_;refine Qbk _ _ _ h (fun x19 hy=>(Qb4 h0_0 x4.2 (.inl x19) hy).a.fr [0] [] rfl rfl rfl) (fun z21 hy=>(Qb4 h0_0 x4.2 (.inr z21) hy).b.fr [0] [] rfl rfl rfl) (fun x19 hy h=>?_) (fun z21 hy h=>?_)
       ·refine Qah _ _ h (fun x22 hy=>((Qc3 8 h0_0 x19.2 x22 hy).fr [0] [] rfl rfl rfl)) (fun x22 hy h=>?_);refine Qaf h (fun hb h=>?_) (fun hb h=>?_)
        ·refine xle ?_;refine Qbk _ _ _ h (fun x23 hy=>(iQe6 x22.2 (.inl x23) hy).a.fr [0] [] rfl rfl rfl) (fun z25 hy=>(iQe6 x22.2 (.inr z25) hy).b.fr [0] [] rfl rfl rfl) (fun x23 hy h=>?_) (fun z25 hy h=>?_)
         ·refine Exists.intro _ (And.intro (Le.refl _ _ _) ?_);exact Qey (t:=Qb2) (ss:=fun(o:Qab×Int)=>⟨[[.p (.sl false (h0_0.map Qad)),.p (iV o.2)]],[]⟩) h ⟨[],rfl,.p (.agg' (.cons (.refl _) (.cons (.refl _) (.cons (.refl _) (.cons (.refl _) (.cons (.refl _) (.cons (.not) (.cons (.not) (.nil))))))))),.refl _,rfl⟩
         ·refine xle ?_;exact Qcs (sp:=fun(o:Int)=>⟨[[.p (.sl false (h0_0.map Qad)),.p (iV o)]],[]⟩) h ⟨[],rfl,.refl _,.refl _,rfl⟩
        ·refine Exists.intro _ (And.intro (Le.refl _ _ _) ?_);exact Qey (t:=Qb2) (ss:=fun(o:Qab×Int)=>⟨[[.p (.sl false (h0_0.map Qad)),.p (iV o.2)]],[]⟩) h ⟨[],rfl,.p (.agg' (.cons (.refl _) (.cons (.refl _) (.cons (.refl _) (.cons (.refl _) (.cons (.not) (.cons (.not) (.cons (.not) (.nil))))))))),.refl _,rfl⟩
       ·refine xle ?_;exact Qcs (sp:=fun(o:Int)=>⟨[[.p (.sl false (h0_0.map Qad)),.p (iV o)]],[]⟩) h ⟨[],rfl,.refl _,.refl _,rfl⟩
def Ql4:=fun h0_0 h0_1=>(Qsl h0_0).2.2.1 h0_1
def Qbx (h0_0:(List Qaa)) (h0_1:Int):Option (((List Qab)×Int)⊕(Int)) :=
 Qcx h0_0 h0_1>>=fun o2 =>
 match o2 with
 | .inl x1 =>
  Qau 3 h0_0 x1.2>>=fun o5 =>
  match o5 with
  | .inl x4 =>
   some (.inl ([x1.1],x4.2))
  | .inr z6 =>
   some (.inr x1.2)
 | .inr z3 =>
  some (.inr z3)
theorem Qa9:∀ (h0_0:(List Qaa)) (h0_1:Int) (o:((List Qab)×Int)⊕(Int)),Qbx h0_0 h0_1=some o→CallS Tryz.prog 57 [.ptr 0 0] ⟨[[.p (.sl false (h0_0.map Qad)),.p (iV h0_1)]],[]⟩ Qk8 (fun(o:(List Qab)×Int)=>⟨[[.p (.sl false (h0_0.map Qad)),.p (iV o.2)]],[]⟩) (fun(o:Int)=>⟨[[.p (.sl false (h0_0.map Qad)),.p (iV o)]],[]⟩) o:=by
 intro h0_0 h0_1 o h;unfold Qbx at h;refine CallS.ofB mixed tbOk Qq3 Tryz.func57 rfl (by kernel_rfl) (Nat.le_of_ble_eq_true rfl) (fun _=>rfl) (fun _=>rfl) (fun _=>rfl) (fun _=>rfl) (fun _=>rfl) ?_;refine xle ?_;refine Qbk _ _ _ h (fun x1 hy=>(Ql4 h0_0 h0_1 (.inl x1) hy).a.fr [0] [] rfl rfl rfl) (fun z3 hy=>(Ql4 h0_0 h0_1 (.inr z3) hy).b.fr [0] [] rfl rfl rfl) (fun x1 hy h=>?_) (fun z3 hy h=>?_)
 ·refine xle ?_;refine Qbk _ _ _ h (fun x4 hy=>(Qam 3 h0_0 x1.2 (.inl x4) hy).a.fr [0] [] rfl rfl rfl) (fun z6 hy=>(Qam 3 h0_0 x1.2 (.inr z6) hy).b.fr [0] [] rfl rfl rfl) (fun x4 hy h=>?_) (fun z6 hy h=>?_)
  ·refine Exists.intro _ (And.intro (Le.refl _ _ _) ?_);exact Qey (t:=Qk8) (ss:=fun(o:(List Qab)×Int)=>⟨[[.p (.sl false (h0_0.map Qad)),.p (iV o.2)]],[]⟩) h ⟨[],rfl,.p (.no (.cons (.ceq (Qai _) (.refl _)) (.nil))),.refl _,rfl⟩
  ·refine xle ?_;exact Qcs (sp:=fun(o:Int)=>⟨[[.p (.sl false (h0_0.map Qad)),.p (iV o)]],[]⟩) h ⟨[],rfl,.refl _,.refl _,rfl⟩
 ·refine xle ?_;exact Qcs (sp:=fun(o:Int)=>⟨[[.p (.sl false (h0_0.map Qad)),.p (iV o)]],[]⟩) h ⟨[],rfl,.refl _,.refl _,rfl⟩
mutual
def Qa8 (p1:Bool) (p2:Bool) (h0_0:(List Qaa)) (h0_1:Int):Option (((List Qab)×Int×Int)⊕(Int)) :=
 (Qfs p1 p2 h0_0 h0_1 ())>>=fun o1 =>
 match o1 with
 | .inl y2 =>
  some (.inl (y2.1,y2.2.1,y2.2.2))
 | .inr y3 =>
  some (.inr y3)
 partial_fixpoint
def Qfs (p1:Bool) (p2:Bool) (h0_0:(List Qaa)) (h0_1:Int) (w0:Unit):Option (((List Qab)×Int×Int)⊕Int) :=
 (Qa1 p1 p2 h0_0 [] h0_1)>>=fun o4 =>
 match o4 with
 | .inl y5 =>
  Qa6 (!p1) h0_0 y5.2>>=fun o34 =>
  match o34 with
  | .inl x33 =>
   some (.inl (y5.1,2,y5.2))
  | .inr z35 =>
   some (.inr y5.2)
 | .inr (.inl y6) =>
  some (.inl (y6.1,y6.2.1,y6.2.2))
 | .inr (.inr y7) =>
  some (.inr y7)
 partial_fixpoint
def Qa1 (p1:Bool) (p2:Bool) (h0_0:(List Qaa)) (v8:(List Qab)) (h0_1_:Int):Option (((List Qab)×Int)⊕((List Qab)×Int×Int)⊕Int) :=
 if(decide (h0_1_<(h0_0.length:Int))) then
  Qbj h0_0 h0_1_>>=fun x8 =>
  Qb1 1 h0_0 h0_1_>>=fun x9 =>
  if x9.1 then
   ( if(decide ((wr ((v8.length:Int)-1)) ≥ 0)) then
     idx v8 (wr ((v8.length:Int)-1))>>=fun x11 =>
     some (x11.Kind==8)
    else
     some false:Option (Bool))>>=fun o10 =>
   if o10 then
    idx v8 (wr ((v8.length:Int)-1))>>=fun x12 =>
    need (x12.Text.length+x8.Text.length≤9223372036854775807)>>=fun _ =>
    idx v8 (wr ((v8.length:Int)-1))>>=fun x13 =>
    Qa1 p1 p2 h0_0 (v8.set ((wr ((v8.length:Int)-1)).toNat) (Qab.mk x13.Kind x13.Name (x12.Text++x8.Text) x13.N x13.L x13.Then x13.Else)) x9.2
   else
    appL 120 v8 ([(Qab.mk 8 [] x8.Text 0 [] [] [])])>>=fun x14 =>
    Qa1 p1 p2 h0_0 x14 x9.2
  else
   Qau 2 h0_0 x9.2>>=fun o16 =>
   match o16 with
   | .inl x15 =>
    Qb1 3 h0_0 x15.2>>=fun x18 =>
    if x18.1 then
     Qa1 p1 p2 h0_0 v8 x18.2
    else
     ( if p1 then
       Qaz [101,110,100] h0_0 x18.2>>=fun x20 =>
       some (x20.1,x20.2)
      else
       some (false,x18.2):Option ((Bool×Int)))>>=fun o19 =>
     if o19.1 then
      Qau 3 h0_0 o19.2>>=fun o22 =>
      match o22 with
      | .inl x21 =>
       some (.inr (.inl (v8,0,x21.2)))
      | .inr z23 =>
       some (.inr (.inr o19.2))
     else
      ( if p2 then
        Qaz [101,108,115,101] h0_0 o19.2>>=fun x25 =>
        some (x25.1,x25.2)
       else
        some (false,o19.2):Option ((Bool×Int)))>>=fun o24 =>
      if o24.1 then
       Qau 3 h0_0 o24.2>>=fun o27 =>
       match o27 with
       | .inl x26 =>
        some (.inr (.inl (v8,1,x26.2)))
       | .inr z28 =>
        some (.inr (.inr o24.2))
      else
       Qhc h0_0 o24.2>>=fun o30 =>
       match o30 with
       | .inl x29 =>
        appL 120 v8 [x29.1]>>=fun x32 =>
        Qa1 p1 p2 h0_0 x32 x29.2
       | .inr z31 =>
        some (.inr (.inr z31))
   | .inr z17 =>
    some (.inr (.inr x9.2))
 else
  some (.inl (v8,h0_1_))
 partial_fixpoint
def Qhc (h0_0:(List Qaa)) (h0_1:Int):Option ((Qab×Int)⊕(Int)) :=
 Qaz [105,102] h0_0 h0_1>>=fun x1 =>
 if x1.1 then
  Qbx h0_0 x1.2>>=fun o3 =>
  match o3 with
  | .inl x2 =>
   Qa8 true true h0_0 x2.2>>=fun o6 =>
   match o6 with
   | .inl x5 =>
    if(x5.2.1==1) then
     Qa8 true false h0_0 x5.2.2>>=fun o9 =>
     match o9 with
     | .inl x8 =>
      some (.inl ((Qab.mk 10 [] [] 0 x2.1 x5.1 x8.1),x8.2.2))
     | .inr z10 =>
      some (.inr z10)
    else
     some (.inl ((Qab.mk 10 [] [] 0 x2.1 x5.1 []),x5.2.2))
   | .inr z7 =>
    some (.inr z7)
  | .inr z4 =>
   some (.inr z4)
 else
  Qaz [101,97,99,104] h0_0 x1.2>>=fun x11 =>
  if x11.1 then
   Qcw h0_0 x11.2>>=fun o13 =>
   match o13 with
   | .inl x12 =>
    Qaz [105,110] h0_0 x12.2>>=fun x15 =>
    Qa6 x15.1 h0_0 x15.2>>=fun o17 =>
    match o17 with
    | .inl x16 =>
     Qbx h0_0 x15.2>>=fun o20 =>
     match o20 with
     | .inl x19 =>
      Qa8 true false h0_0 x19.2>>=fun o23 =>
      match o23 with
      | .inl x22 =>
       some (.inl ((Qab.mk 11 x12.1 [] 0 x19.1 x22.1 []),x22.2.2))
      | .inr z24 =>
       some (.inr z24)
     | .inr z21 =>
      some (.inr z21)
    | .inr z18 =>
     some (.inr x15.2)
   | .inr z14 =>
    some (.inr x11.2)
  else
   Qaz [108,101,116] h0_0 x11.2>>=fun x25 =>
   if x25.1 then
    Qcw h0_0 x25.2>>=fun o27 =>
    match o27 with
    | .inl x26 =>
     Qau 11 h0_0 x26.2>>=fun o30 =>
     match o30 with
     | .inl x29 =>
      Qbx h0_0 x29.2>>=fun o33 =>
      match o33 with
      | .inl x32 =>
       Qa8 true false h0_0 x32.2>>=fun o36 =>
       match o36 with
       | .inl x35 =>
        some (.inl ((Qab.mk 12 x26.1 [] 0 x32.1 x35.1 []),x35.2.2))
       | .inr z37 =>
        some (.inr z37)
      | .inr z34 =>
       some (.inr z34)
     | .inr z31 =>
      some (.inr x26.2)
    | .inr z28 =>
     some (.inr x25.2)
   else
    Qaz [117,115,101] h0_0 x25.2>>=fun x38 =>
    if x38.1 then
     Qcw h0_0 x38.2>>=fun o40 =>
     match o40 with
     | .inl x39 =>
      Qbx h0_0 x39.2>>=fun o43 =>
      match o43 with
      | .inl x42 =>
       some (.inl ((Qab.mk 13 x39.1 [] 0 x42.1 [] []),x42.2))
      | .inr z44 =>
       some (.inr z44)
     | .inr z41 =>
      some (.inr x38.2)
    else
     Qbx h0_0 x38.2>>=fun o46 =>
     match o46 with
     | .inl x45 =>
      some (.inl ((Qab.mk 9 [] [] 0 x45.1 [] []),x45.2))
     | .inr z47 =>
      some (.inr z47)
 partial_fixpoint
end
theorem Qq9:∀ (h0_0:(List Qaa)),(∀ (p1:Bool) (p2:Bool) (h0_1:Int) (o:((List Qab)×Int×Int)⊕(Int)),Qa8 p1 p2 h0_0 h0_1=some o→CallS Tryz.prog 17 [.ptr 0 0,.p (bV p1),.p (bV p2)] ⟨[[.p (.sl false (h0_0.map Qad)),.p (iV h0_1)]],[]⟩ Qhg (fun(o:(List Qab)×Int×Int)=>⟨[[.p (.sl false (h0_0.map Qad)),.p (iV o.2.2)]],[]⟩) (fun(o:Int)=>⟨[[.p (.sl false (h0_0.map Qad)),.p (iV o)]],[]⟩) o)∧(∀ (p1:Bool) (p2:Bool) (h0_1:Int) (w0:Unit) (o1:((List Qab)×Int×Int)⊕Int),Qfs p1 p2 h0_0 h0_1 w0=some o1→TG (1,0) Tryz.prog 87 Qji (Qacr Qji 0) (JP2 (1,0) 87 o1 .ret (Qit p1 p2 h0_0 h0_1) (.panic Qi3) (Qiu p1 p2 h0_0 h0_1)) (Qhe p1 p2 h0_0 h0_1 w0))∧(∀ (p1:Bool) (p2:Bool) (v8:(List Qab)) (h0_1_:Int) (o4:((List Qab)×Int)⊕((List Qab)×Int×Int)⊕Int),Qa1 p1 p2 h0_0 v8 h0_1_=some o4→TL (1,0) Tryz.prog 87 Qp7 (JP3 (1,0) 87 o4 (.exit 0) (Qiq p1 p2 h0_0) .ret (Qir p1 p2 h0_0) (.panic Qi3) (Qis p1 p2 h0_0)) (Qca p1 p2 h0_0 v8 h0_1_))∧(∀ (h0_1:Int) (o:(Qab×Int)⊕(Int)),Qhc h0_0 h0_1=some o→CallS Tryz.prog 35 [.ptr 0 0] ⟨[[.p (.sl false (h0_0.map Qad)),.p (iV h0_1)]],[]⟩ Qct (fun(o:Qab×Int)=>⟨[[.p (.sl false (h0_0.map Qad)),.p (iV o.2)]],[]⟩) (fun(o:Int)=>⟨[[.p (.sl false (h0_0.map Qad)),.p (iV o)]],[]⟩) o):=by
 intro h0_0;refine Qa8.mutual_partial_correctness h0_0 _ _ _ _ ?_ ?_ ?_ ?_
 ·intro Qfs' iQfs p1 p2 h0_1 o h;refine CallS.ofB mixed tbOk Qcc Tryz.func17 rfl (by kernel_rfl) (Nat.le_of_ble_eq_true rfl) (fun _=>rfl) (fun _=>rfl) (fun _=>rfl) (fun _=>rfl) (fun _=>rfl) ?_;refine Qag h (fun o1 ho hk=>?_);refine Exists.intro (JP2 _ _ o1 .ret (Qit p1 p2 h0_0 h0_1) (.panic Qi3) (Qiu p1 p2 h0_0 h0_1)) (And.intro (TG.scope ?_) (Qmu (fun y2 hy=>?_) (fun y3 hy=>?_)))
  ·have h:=ho;refine TG.seqb mixed tbOk (lv:=Qcc) ?_;refine TG.label (TG.le (τ := Qhe p1 p2 h0_0 h0_1 ()) ?_ ((iQfs p1 p2 h0_1 () _ h)));exact Le.tz 1 0 rfl rfl rfl
  ·have h:=(by rw[hy] at hk; exact hk);refine Exists.intro _ (And.intro (Le.refl _ _ _) ?_);exact Qey (t:=Qhg) (ss:=fun(o:(List Qab)×Int×Int)=>⟨[[.p (.sl false (h0_0.map Qad)),.p (iV o.2.2)]],[]⟩) h ⟨[],rfl,.refl _,.refl _,rfl⟩
  ·have h:=(by rw[hy] at hk; exact hk);refine xle ?_;exact Qcs (sp:=fun(o:Int)=>⟨[[.p (.sl false (h0_0.map Qad)),.p (iV o)]],[]⟩) h ⟨[],rfl,.refl _,.refl _,rfl⟩
 ·intro Qa1' iQa1 p1 p2 h0_1 w0 o1 h;refine TG.seqb mixed tbOk (lv:=Qcc) ?_;refine Qag h (fun o4 ho hk=>?_);refine Exists.intro (JP3 _ _ o4 (.exit 0) (Qiq p1 p2 h0_0) .ret (Qir p1 p2 h0_0) (.panic Qi3) (Qis p1 p2 h0_0)) (And.intro (Qo0 (τ := Qca p1 p2 h0_0 [] h0_1) ?_ (TL.loop (iQa1 p1 p2 [] h0_1 o4 ho))) (Qanr (fun y5 hy=>?_) (fun y6 hy=>?_) (fun y7 hy=>?_)))
  ·exact(Le.xnil (.s 8) 37 7 rfl).trans (Le.tz 1 1 rfl rfl rfl)
  ·have h:=(by rw[hy] at hk; exact hk);refine TG.seqb mixed tbOk (lv:=Qcc) ?_;refine xle ?_;refine Qbk _ _ _ h (fun x33 hy=>(Qbh (!p1) h0_0 y5.2 (.inl x33) hy).a.fr [0] [] rfl rfl rfl) (fun z35 hy=>(Qbh (!p1) h0_0 y5.2 (.inr z35) hy).b.fr [0] [] rfl rfl rfl) (fun x33 hy h=>?_) (fun z35 hy h=>?_)
   ·refine TG.seqb mixed tbOk (lv:=Qcc) ?_;refine Exists.intro _ (And.intro (Le.frzv (.s 8) 0 1 rfl rfl rfl rfl) ?_);refine TG.lastb mixed tbOk (lv:=Qcc) ?_;refine JP2.a h ?_;exact Le.tz 1 1 rfl rfl rfl
   ·refine JP2.b h ?_;exact Le.tz 1 1 rfl rfl rfl
  ·have h:=(by rw[hy] at hk; exact hk);refine JP2.a h ?_;exact Le.tz 1 1 rfl rfl rfl
  ·have h:=(by rw[hy] at hk; exact hk);refine JP2.b h ?_;exact Le.tz 1 1 rfl rfl rfl
 ·intro Qa1' Qhc' iQa1 iQhc p1 p2 v8 h0_1_ o4 h;refine TL.round (Qan mixed tbOk (lv:=Qcc) _ _ _ ?_);refine And.intro (by decide +kernel) (And.intro rfl ?_);refine view (Qaw _ _) rfl ?_;refine Qaf h (fun hb h=>?_) (fun hb h=>?_)
  ·refine And.intro rfl (Exists.intro _ (And.intro (List.length_map _) ?_));refine Qah _ _ h (fun x8 hy=>((Qci h0_0 h0_1_ x8 hy).fr [0] [] rfl rfl rfl)) (fun x8 hy h=>?_);refine Qah _ _ h (fun x9 hy=>((Qc3 1 h0_0 h0_1_ x9 hy).fr [0] [] rfl rfl rfl)) (fun x9 hy h=>?_);refine Qaf h (fun hb h=>?_) (fun hb h=>?_)
   ·refine Qag h (fun o10 ho hk=>?_);refine Exists.intro (JP1 _ _ o10 .normal (Qp4 p1 p2 h0_0 v8 x8 x9)) (And.intro ?_ (Qa7 ?_))
    ·have h:=ho;refine Qaf h (fun hb h=>?_) (fun hb h=>?_)
     ·refine Qw5 (l:=v8) (c:=Qae) (c' := Qa2) h rfl Qai (fun _=>rfl) (by decide) (fun x11 hi h=>?_);refine And.intro rfl ?_;refine And.intro rfl (And.intro (Nat.le_of_ble_eq_true rfl) ?_);refine JP1.a h ?_;exact Le.tz 2 1 rfl rfl rfl
     ·refine JP1.a h ?_;exact Le.tz 2 1 rfl rfl rfl
    ·have h:=hk;refine Qaf h (fun hb h=>?_) (fun hb h=>?_)
     ·refine And.intro (by decide +kernel) (And.intro (by decide +kernel) (And.intro rfl ?_));refine And.intro rfl ?_;refine Qw5 (l:=v8) (c:=Qae) (c' := Qa2) h rfl Qai (fun _=>rfl) (by decide) (fun x12 hi h=>?_);refine And.intro rfl ?_;refine And.intro rfl ?_;refine And.intro rfl ?_;refine And.intro rfl (And.intro (Nat.le_of_ble_eq_true rfl) ?_);refine Qbc h (fun h=>?_);refine Qw5 (l:=v8) (c:=Qae) (c' := Qa2) h rfl Qai (fun _=>rfl) (by decide) (fun x13 hi h=>?_);refine And.intro rfl ?_;refine And.intro rfl (And.intro (Nat.le_of_ble_eq_true rfl) (And.intro rfl (And.intro rfl (Exists.intro ((v8.set ((wr ((v8.length:Int)-1)).toNat) (Qab.mk x13.Kind x13.Name (x12.Text++x8.Text) x13.N x13.L x13.Then x13.Else)).map Qae) (And.intro (Qaj4 (.ceq (Qai _) (.refl _))) ?_)))));refine TL.le (τ := Qca p1 p2 h0_0 (v8.set ((wr ((v8.length:Int)-1)).toNat) (Qab.mk x13.Kind x13.Name (x12.Text++x8.Text) x13.N x13.L x13.Then x13.Else)) x9.2) ?_ ((iQa1 p1 p2 (v8.set ((wr ((v8.length:Int)-1)).toNat) (Qab.mk x13.Kind x13.Name (x12.Text++x8.Text) x13.N x13.L x13.Then x13.Else)) x9.2 _ h))
      exact Le.trans (τ := ⟨[(0,.ptr 0 0),(1,.p (bV p1)),(2,.p (bV p2)),(8,.x 0 2 (.sl 37 7 ((v8.set ((wr ((v8.length:Int)-1)).toNat) (Qab.mk x13.Kind x13.Name (x12.Text++x8.Text) x13.N x13.L x13.Then x13.Else)).map Qae)))],⟨[[.p (.sl false (h0_0.map Qad)),.p (iV x9.2)],[.p (iV x8.Kind),.p (sV x8.Text),.p (iV x8.N),.p (iV x8.From),.p (iV x8.To)]],[2]⟩⟩) (Le.tz 2 1 rfl rfl rfl) ((Le.ver (.s 8) 0 2 1 rfl rfl rfl rfl).trans (Le.tz 1 1 rfl rfl rfl))
     ·refine Q4y (a:=v8) (b:=[(Qab.mk 8 [] x8.Text 0 [] [] [])]) (c:=Qae) h (.cons (.ceq (Qai _) (.cons (.refl _) (.cons (.refl _) (.cons (.refl _) (.cons (.refl _) (.cons (.not) (.cons (.not) (.cons (.not) (.nil))))))))) (.nil)) (fun x=>by rw[Qai]; rfl) rfl (fun x14 hi h=>?_);refine TL.le (τ := Qca p1 p2 h0_0 x14 x9.2) ?_ ((iQa1 p1 p2 x14 x9.2 _ h));exact Le.trans (τ := ⟨[(0,.ptr 0 0),(1,.p (bV p1)),(2,.p (bV p2)),(8,.x 0 2 (.sl 37 7 (x14.map Qae)))],⟨[[.p (.sl false (h0_0.map Qad)),.p (iV x9.2)],[.p (iV x8.Kind),.p (sV x8.Text),.p (iV x8.N),.p (iV x8.From),.p (iV x8.To)]],[2]⟩⟩) (Le.tz 2 1 rfl rfl rfl) ((Le.ver (.s 8) 0 2 1 rfl rfl rfl rfl).trans (Le.tz 1 1 rfl rfl rfl))
   ·refine xle ?_;refine Qbk _ _ _ h (fun x15 hy=>(Qam 2 h0_0 x9.2 (.inl x15) hy).a.fr [0] [] rfl rfl rfl) (fun z17 hy=>(Qam 2 h0_0 x9.2 (.inr z17) hy).b.fr [0] [] rfl rfl rfl) (fun x15 hy h=>?_) (fun z17 hy h=>?_)
    ·refine Qah _ _ h (fun x18 hy=>((Qc3 3 h0_0 x15.2 x18 hy).fr [0] [] rfl rfl rfl)) (fun x18 hy h=>?_);refine Qaf h (fun hb h=>?_) (fun hb h=>?_)
     ·refine TL.le (τ := Qca p1 p2 h0_0 v8 x18.2) ?_ ((iQa1 p1 p2 v8 x18.2 _ h));exact Le.tz 1 1 rfl rfl rfl
     ·refine Qag h (fun o19 ho hk=>?_);refine Exists.intro (JP1 _ _ o19 .normal (Qp5 p1 p2 h0_0 v8 x8)) (And.intro ?_ (Qa7 ?_))
      ·have h:=ho;refine Qaf h (fun hb h=>?_) (fun hb h=>?_)
       ·refine Qah _ _ h (fun x20 hy=>((Qbi [101,110,100] h0_0 x18.2 x20 hy).fr [0] [] rfl rfl rfl)) (fun x20 hy h=>?_);refine JP1.a h ?_;exact Le.tz 2 1 rfl rfl rfl
       ·refine JP1.a h ?_;exact Le.tz 2 1 rfl rfl rfl
      ·have h:=hk;refine Qaf h (fun hb h=>?_) (fun hb h=>?_)
       ·refine xle ?_;refine Qbk _ _ _ h (fun x21 hy=>(Qam 3 h0_0 o19.2 (.inl x21) hy).a.fr [0] [] rfl rfl rfl) (fun z23 hy=>(Qam 3 h0_0 o19.2 (.inr z23) hy).b.fr [0] [] rfl rfl rfl) (fun x21 hy h=>?_) (fun z23 hy h=>?_)
        ·refine Exists.intro _ (And.intro (Le.frzv (.s 8) 0 1 rfl rfl rfl rfl) ?_);exact JP3.b h (Le.tz 1 1 rfl rfl rfl)
        ·exact JP3.c h (Le.tz 1 1 rfl rfl rfl)
       ·refine Qag h (fun o24 ho hk=>?_);refine Exists.intro (JP1 _ _ o24 .normal (Qp6 p1 p2 h0_0 v8 x8)) (And.intro ?_ (Qa7 ?_))
        ·have h:=ho;refine Qaf h (fun hb h=>?_) (fun hb h=>?_)
         ·refine Qah _ _ h (fun x25 hy=>((Qbi [101,108,115,101] h0_0 o19.2 x25 hy).fr [0] [] rfl rfl rfl)) (fun x25 hy h=>?_);refine JP1.a h ?_;exact Le.tz 2 1 rfl rfl rfl
         ·refine JP1.a h ?_;exact Le.tz 2 1 rfl rfl rfl
        ·have h:=hk;refine Qaf h (fun hb h=>?_) (fun hb h=>?_)
         ·refine xle ?_;refine Qbk _ _ _ h (fun x26 hy=>(Qam 3 h0_0 o24.2 (.inl x26) hy).a.fr [0] [] rfl rfl rfl) (fun z28 hy=>(Qam 3 h0_0 o24.2 (.inr z28) hy).b.fr [0] [] rfl rfl rfl) (fun x26 hy h=>?_) (fun z28 hy h=>?_)
          ·refine Exists.intro _ (And.intro (Le.frzv (.s 8) 0 1 rfl rfl rfl rfl) ?_);exact JP3.b h (Le.tz 1 1 rfl rfl rfl)
          ·exact JP3.c h (Le.tz 1 1 rfl rfl rfl)
         ·refine xle ?_;refine Qbk _ _ _ h (fun x29 hy=>(iQhc o24.2 (.inl x29) hy).a.fr [0] [] rfl rfl rfl) (fun z31 hy=>(iQhc o24.2 (.inr z31) hy).b.fr [0] [] rfl rfl rfl) (fun x29 hy h=>?_) (fun z31 hy h=>?_)
          ·refine Q4y (a:=v8) (b:=[x29.1]) (c:=Qae) h (.cons (.ceq (Qai _) (.refl _)) (.nil)) (fun x=>by rw[Qai]; rfl) rfl (fun x32 hi h=>?_);refine TL.le (τ := Qca p1 p2 h0_0 x32 x29.2) ?_ ((iQa1 p1 p2 x32 x29.2 _ h));exact Le.trans (τ := ⟨[(0,.ptr 0 0),(1,.p (bV p1)),(2,.p (bV p2)),(8,.x 0 2 (.sl 37 7 (x32.map Qae)))],⟨[[.p (.sl false (h0_0.map Qad)),.p (iV x29.2)],[.p (iV x8.Kind),.p (sV x8.Text),.p (iV x8.N),.p (iV x8.From),.p (iV x8.To)]],[2]⟩⟩) (Le.tz 2 1 rfl rfl rfl) ((Le.ver (.s 8) 0 2 1 rfl rfl rfl rfl).trans (Le.tz 1 1 rfl rfl rfl))
          ·exact JP3.c h (Le.tz 1 1 rfl rfl rfl)
    ·exact JP3.c h (Le.tz 1 1 rfl rfl rfl)
  ·exact JP3.a h (Le.tz 1 1 rfl rfl rfl)
 ·intro Qa8' iQa8 h0_1 o h;refine CallS.ofB mixed tbOk Qtz Tryz.func35 rfl (by kernel_rfl) (Nat.le_of_ble_eq_true rfl) (fun _=>rfl) (fun _=>rfl) (fun _=>rfl) (fun _=>rfl) (fun _=>rfl) ?_;refine Qah _ _ h (fun x1 hy=>((Qbi [105,102] h0_0 h0_1 x1 hy).fr [0] [] rfl rfl rfl)) (fun x1 hy h=>?_);refine Qaf h (fun hb h=>?_) (fun hb h=>?_)
  ·refine xle ?_;refine Qbk _ _ _ h (fun x2 hy=>(Qa9 h0_0 x1.2 (.inl x2) hy).a.fr [0] [] rfl rfl rfl) (fun z4 hy=>(Qa9 h0_0 x1.2 (.inr z4) hy).b.fr [0] [] rfl rfl rfl) (fun x2 hy h=>?_) (fun z4 hy h=>?_)
   ·refine xle ?_;refine Qbk _ _ _ h (fun x5 hy=>(iQa8 true true x2.2 (.inl x5) hy).a.fr [0] [] rfl rfl rfl) (fun z7 hy=>(iQa8 true true x2.2 (.inr z7) hy).b.fr [0] [] rfl rfl rfl) (fun x5 hy h=>?_) (fun z7 hy h=>?_)
    ·refine Qaf h (fun hb h=>?_) (fun hb h=>?_)
     ·refine xle ?_;refine Qbk _ _ _ h (fun x8 hy=>(iQa8 true false x5.2.2 (.inl x8) hy).a.fr [0] [] rfl rfl rfl) (fun z10 hy=>(iQa8 true false x5.2.2 (.inr z10) hy).b.fr [0] [] rfl rfl rfl) (fun x8 hy h=>?_) (fun z10 hy h=>?_)
      ·refine Exists.intro _ (And.intro (Le.refl _ _ _) ?_);exact Qey (t:=Qct) (ss:=fun(o:Qab×Int)=>⟨[[.p (.sl false (h0_0.map Qad)),.p (iV o.2)]],[]⟩) h ⟨[],rfl,.refl _,.refl _,rfl⟩
      ·refine xle ?_;exact Qcs (sp:=fun(o:Int)=>⟨[[.p (.sl false (h0_0.map Qad)),.p (iV o)]],[]⟩) h ⟨[],rfl,.refl _,.refl _,rfl⟩
     ·refine Exists.intro _ (And.intro (Le.refl _ _ _) ?_);exact Qey (t:=Qct) (ss:=fun(o:Qab×Int)=>⟨[[.p (.sl false (h0_0.map Qad)),.p (iV o.2)]],[]⟩) h ⟨[],rfl,.p (.agg' (.cons (.refl _) (.cons (.refl _) (.cons (.refl _) (.cons (.refl _) (.cons (.refl _) (.cons (.refl _) (.cons (.not) (.nil))))))))),.refl _,rfl⟩
    ·refine xle ?_;exact Qcs (sp:=fun(o:Int)=>⟨[[.p (.sl false (h0_0.map Qad)),.p (iV o)]],[]⟩) h ⟨[],rfl,.refl _,.refl _,rfl⟩
   ·refine xle ?_;exact Qcs (sp:=fun(o:Int)=>⟨[[.p (.sl false (h0_0.map Qad)),.p (iV o)]],[]⟩) h ⟨[],rfl,.refl _,.refl _,rfl⟩
  ·refine Qah _ _ h (fun x11 hy=>((Qbi [101,97,99,104] h0_0 x1.2 x11 hy).fr [0] [] rfl rfl rfl)) (fun x11 hy h=>?_);refine Qaf h (fun hb h=>?_) (fun hb h=>?_)
   ·refine xle ?_;refine Qbk _ _ _ h (fun x12 hy=>(Qb4 h0_0 x11.2 (.inl x12) hy).a.fr [0] [] rfl rfl rfl) (fun z14 hy=>(Qb4 h0_0 x11.2 (.inr z14) hy).b.fr [0] [] rfl rfl rfl) (fun x12 hy h=>?_) (fun z14 hy h=>?_)
    ·refine xle ?_;refine Qah _ _ h (fun x15 hy=>((Qbi [105,110] h0_0 x12.2 x15 hy).fr [0] [] rfl rfl rfl)) (fun x15 hy h=>?_);refine Qbk _ _ _ h (fun x16 hy=>(Qbh x15.1 h0_0 x15.2 (.inl x16) hy).a.fr [0] [] rfl rfl rfl) (fun z18 hy=>(Qbh x15.1 h0_0 x15.2 (.inr z18) hy).b.fr [0] [] rfl rfl rfl) (fun x16 hy h=>?_) (fun z18 hy h=>?_)
     ·refine xle ?_;refine Qbk _ _ _ h (fun x19 hy=>(Qa9 h0_0 x15.2 (.inl x19) hy).a.fr [0] [] rfl rfl rfl) (fun z21 hy=>(Qa9 h0_0 x15.2 (.inr z21) hy).b.fr [0] [] rfl rfl rfl) (fun x19 hy h=>?_) (fun z21 hy h=>?_)
      ·refine xle ?_;refine Qbk _ _ _ h (fun x22 hy=>(iQa8 true false x19.2 (.inl x22) hy).a.fr [0] [] rfl rfl rfl) (fun z24 hy=>(iQa8 true false x19.2 (.inr z24) hy).b.fr [0] [] rfl rfl rfl) (fun x22 hy h=>?_) (fun z24 hy h=>?_)
       ·refine Exists.intro _ (And.intro (Le.refl _ _ _) ?_);exact Qey (t:=Qct) (ss:=fun(o:Qab×Int)=>⟨[[.p (.sl false (h0_0.map Qad)),.p (iV o.2)]],[]⟩) h ⟨[],rfl,.p (.agg' (.cons (.refl _) (.cons (.refl _) (.cons (.refl _) (.cons (.refl _) (.cons (.refl _) (.cons (.refl _) (.cons (.not) (.nil))))))))),.refl _,rfl⟩
       ·refine xle ?_;exact Qcs (sp:=fun(o:Int)=>⟨[[.p (.sl false (h0_0.map Qad)),.p (iV o)]],[]⟩) h ⟨[],rfl,.refl _,.refl _,rfl⟩
      ·refine xle ?_;exact Qcs (sp:=fun(o:Int)=>⟨[[.p (.sl false (h0_0.map Qad)),.p (iV o)]],[]⟩) h ⟨[],rfl,.refl _,.refl _,rfl⟩
     ·refine xle ?_;exact Qcs (sp:=fun(o:Int)=>⟨[[.p (.sl false (h0_0.map Qad)),.p (iV o)]],[]⟩) h ⟨[],rfl,.refl _,.refl _,rfl⟩
    ·refine xle ?_;exact Qcs (sp:=fun(o:Int)=>⟨[[.p (.sl false (h0_0.map Qad)),.p (iV o)]],[]⟩) h ⟨[],rfl,.refl _,.refl _,rfl⟩
   ·refine Qah _ _ h (fun x25 hy=>((Qbi [108,101,116] h0_0 x11.2 x25 hy).fr [0] [] rfl rfl rfl)) (fun x25 hy h=>?_);refine Qaf h (fun hb h=>?_) (fun hb h=>?_)
    ·refine xle ?_;refine Qbk _ _ _ h (fun x26 hy=>(Qb4 h0_0 x25.2 (.inl x26) hy).a.fr [0] [] rfl rfl rfl) (fun z28 hy=>(Qb4 h0_0 x25.2 (.inr z28) hy).b.fr [0] [] rfl rfl rfl) (fun x26 hy h=>?_) (fun z28 hy h=>?_)
     ·refine xle ?_;refine Qbk _ _ _ h (fun x29 hy=>(Qam 11 h0_0 x26.2 (.inl x29) hy).a.fr [0] [] rfl rfl rfl) (fun z31 hy=>(Qam 11 h0_0 x26.2 (.inr z31) hy).b.fr [0] [] rfl rfl rfl) (fun x29 hy h=>?_) (fun z31 hy h=>?_)
      ·refine xle ?_;refine Qbk _ _ _ h (fun x32 hy=>(Qa9 h0_0 x29.2 (.inl x32) hy).a.fr [0] [] rfl rfl rfl) (fun z34 hy=>(Qa9 h0_0 x29.2 (.inr z34) hy).b.fr [0] [] rfl rfl rfl) (fun x32 hy h=>?_) (fun z34 hy h=>?_)
       ·refine xle ?_;refine Qbk _ _ _ h (fun x35 hy=>(iQa8 true false x32.2 (.inl x35) hy).a.fr [0] [] rfl rfl rfl) (fun z37 hy=>(iQa8 true false x32.2 (.inr z37) hy).b.fr [0] [] rfl rfl rfl) (fun x35 hy h=>?_) (fun z37 hy h=>?_)
        ·refine Exists.intro _ (And.intro (Le.refl _ _ _) ?_);exact Qey (t:=Qct) (ss:=fun(o:Qab×Int)=>⟨[[.p (.sl false (h0_0.map Qad)),.p (iV o.2)]],[]⟩) h ⟨[],rfl,.p (.agg' (.cons (.refl _) (.cons (.refl _) (.cons (.refl _) (.cons (.refl _) (.cons (.refl _) (.cons (.refl _) (.cons (.not) (.nil))))))))),.refl _,rfl⟩
        ·refine xle ?_;exact Qcs (sp:=fun(o:Int)=>⟨[[.p (.sl false (h0_0.map Qad)),.p (iV o)]],[]⟩) h ⟨[],rfl,.refl _,.refl _,rfl⟩
       ·refine xle ?_;exact Qcs (sp:=fun(o:Int)=>⟨[[.p (.sl false (h0_0.map Qad)),.p (iV o)]],[]⟩) h ⟨[],rfl,.refl _,.refl _,rfl⟩
      ·refine xle ?_;exact Qcs (sp:=fun(o:Int)=>⟨[[.p (.sl false (h0_0.map Qad)),.p (iV o)]],[]⟩) h ⟨[],rfl,.refl _,.refl _,rfl⟩
     ·refine xle ?_;exact Qcs (sp:=fun(o:Int)=>⟨[[.p (.sl false (h0_0.map Qad)),.p (iV o)]],[]⟩) h ⟨[],rfl,.refl _,.refl _,rfl⟩
    ·refine Qah _ _ h (fun x38 hy=>((Qbi [117,115,101] h0_0 x25.2 x38 hy).fr [0] [] rfl rfl rfl)) (fun x38 hy h=>?_);refine Qaf h (fun hb h=>?_) (fun hb h=>?_)
     ·refine xle ?_;refine Qbk _ _ _ h (fun x39 hy=>(Qb4 h0_0 x38.2 (.inl x39) hy).a.fr [0] [] rfl rfl rfl) (fun z41 hy=>(Qb4 h0_0 x38.2 (.inr z41) hy).b.fr [0] [] rfl rfl rfl) (fun x39 hy h=>?_) (fun z41 hy h=>?_)
      ·refine xle ?_;refine Qbk _ _ _ h (fun x42 hy=>(Qa9 h0_0 x39.2 (.inl x42) hy).a.fr [0] [] rfl rfl rfl) (fun z44 hy=>(Qa9 h0_0 x39.2 (.inr z44) hy).b.fr [0] [] rfl rfl rfl) (fun x42 hy h=>?_) (fun z44 hy h=>?_)
       ·refine Exists.intro _ (And.intro (Le.refl _ _ _) ?_);exact Qey (t:=Qct) (ss:=fun(o:Qab×Int)=>⟨[[.p (.sl false (h0_0.map Qad)),.p (iV o.2)]],[]⟩) h ⟨[],rfl,.p (.agg' (.cons (.refl _) (.cons (.refl _) (.cons (.refl _) (.cons (.refl _) (.cons (.refl _) (.cons (.not) (.cons (.not) (.nil))))))))),.refl _,rfl⟩
       ·refine xle ?_;exact Qcs (sp:=fun(o:Int)=>⟨[[.p (.sl false (h0_0.map Qad)),.p (iV o)]],[]⟩) h ⟨[],rfl,.refl _,.refl _,rfl⟩
      ·refine xle ?_;exact Qcs (sp:=fun(o:Int)=>⟨[[.p (.sl false (h0_0.map Qad)),.p (iV o)]],[]⟩) h ⟨[],rfl,.refl _,.refl _,rfl⟩
     ·refine xle ?_;refine Qbk _ _ _ h (fun x45 hy=>(Qa9 h0_0 x38.2 (.inl x45) hy).a.fr [0] [] rfl rfl rfl) (fun z47 hy=>(Qa9 h0_0 x38.2 (.inr z47) hy).b.fr [0] [] rfl rfl rfl) (fun x45 hy h=>?_) (fun z47 hy h=>?_)
      ·refine Exists.intro _ (And.intro (Le.refl _ _ _) ?_);exact Qey (t:=Qct) (ss:=fun(o:Qab×Int)=>⟨[[.p (.sl false (h0_0.map Qad)),.p (iV o.2)]],[]⟩) h ⟨[],rfl,.p (.agg' (.cons (.refl _) (.cons (.refl _) (.cons (.refl _) (.cons (.refl _) (.cons (.refl _) (.cons (.not) (.cons (.not) (.nil))))))))),.refl _,rfl⟩
      ·refine xle ?_;exact Qcs (sp:=fun(o:Int)=>⟨[[.p (.sl false (h0_0.map Qad)),.p (iV o)]],[]⟩) h ⟨[],rfl,.refl _,.refl _,rfl⟩
def Qlc:=fun p1 p2 h0_0 h0_1=>(Qq9 h0_0).1 p1 p2 h0_1
def Qek (p1:(List UInt8)) (h0_0:(List Qaa)) (h0_1:Int):Option (Int) :=
 if(h0_1==(h0_0.length:Int)) then
  some (p1.length:Int)
 else
  idx h0_0 h0_1>>=fun x1 =>
  some x1.From
theorem Qsm:∀ (p1:(List UInt8)) (h0_0:(List Qaa)) (h0_1:Int) (o:Int),Qek p1 h0_0 h0_1=some o→CallOK Tryz.prog 16 [.ptr 0 0,.p (sV p1)] ⟨[[.p (.sl false (h0_0.map Qad)),.p (iV h0_1)]],[]⟩ (Qhh o) ⟨[[.p (.sl false (h0_0.map Qad)),.p (iV h0_1)]],[]⟩:=by
 intro p1 h0_0 h0_1 o h;unfold Qek at h;refine CallOK.ofB mixed tbOk Qsc Tryz.func16 rfl (by kernel_rfl) (Nat.le_of_ble_eq_true rfl) rfl rfl rfl ?_;refine And.intro (by decide +kernel) (And.intro rfl ?_);refine view (Qaw _ _) rfl ?_;refine Qaf h (fun hb h=>?_) (fun hb h=>?_)
 ·refine vrfl ?_;refine Exists.intro _ (And.intro (Le.refl _ _ _) ?_);exact Qbe (t:=Qhh) (ss:=fun o=>⟨[[.p (.sl false (h0_0.map Qad)),.p (iV h0_1)]],[]⟩) h ⟨[],rfl,.refl _,.refl _,rfl⟩
 ·refine And.intro (by decide +kernel) (And.intro rfl ?_);refine Qcy (l:=h0_0) (c:=Qad) (c' := Qad) h (fun _=>rfl) (fun _=>rfl) (by decide) (fun x1 hi h=>?_);refine Exists.intro _ (And.intro (Le.refl _ _ _) ?_);exact Qbe (t:=Qhh) (ss:=fun o=>⟨[[.p (.sl false (h0_0.map Qad)),.p (iV h0_1)]],[]⟩) h ⟨[],rfl,.refl _,.refl _,rfl⟩
def Qel (x1:(List Qab)×Int) (l4:(List (Qab×Int))) (h0_0:Int):Option (Int) :=
 match l4 with
 | [] =>
  some h0_0
 | x2::r3 =>
  Qel x1 r3 (wr (h0_0+1))
 partial_fixpoint
theorem Qxh:∀ (x1:(List Qab)×Int),(∀ (l4:(List (Qab×Int))) (h0_0:Int) (o6:Int),Qel x1 l4 h0_0=some o6→RL 1 0 Tryz.prog 11 (rgP Qe2) (rgA Qe2) (rgB Qe2) (Qea x1 h0_0).env (JP1 (0,0) 11 o6 .normal (Qls x1)) (l4.map Qbv) (Qea x1 h0_0).s):=by
 intro x1;refine Qel.partial_correctness x1 _ ?_;intro Qel' iQel l4 h0_0 o6 h;cases l4 with
 | nil =>
  refine Qaf6 ?_;exact JP1.a h (Le.tz 1 0 rfl rfl rfl)
 | cons x2 r3 =>
  refine Qaat (Qan mixed tbOk (lv:=Qp8) _ _ _ ?_);refine And.intro rfl (Qan mixed tbOk (lv:=Qp8) _ _ _ ?_);exact Exists.intro (Qea x1 (wr (h0_0+1))).s (And.intro (Le.tz 1 0 rfl rfl rfl) (And.intro rfl (And.intro rfl ((iQel r3 (wr (h0_0+1)) _ h)))))
def Qyy:=fun x1 l4 h0_0=>(Qxh x1) l4 h0_0
def Qkx (p0:(List Qab)) (p1:Int):Option ((List Qab)×Int) :=
 some (p0,p1)
theorem Qva:∀ (p0:(List Qab)) (p1:Int) (o:(List Qab)×Int),Qkx p0 p1=some o→PCall Tryz.prog 37 [.sl false (p0.map Qae),iV p1] (Qpa o):=by
 intro p0 p1 o h;unfold Qkx at h;refine PCall.ofM mixed tbOk Qaba Tryz.func37 rfl (by kernel_rfl) (Nat.le_of_ble_eq_true rfl) ?_;refine Qao (t:=Qpa) h ?_;exact .refl _
def Qem (p0:(List Qab)) (p1:Int) (v12:Int) (x3:Qab) (v28:Int) (x7:(List Qab)×Int) (l10:(List (Qab×Int))):Option ((List (Qab×Int))×(Unit)) :=
 match l10 with
 | [] =>
  some ([],())
 | x8::r9 =>
  ( Qem p0 p1 v12 x3 v28 x7 r9 )>>=fun q=>some (((Qab.mk x8.1.Kind x8.1.Name x8.1.Text x8.1.N x8.1.L x8.1.Then x8.1.Else),x8.2)::q.1,q.2)
 partial_fixpoint
theorem Qxi:∀ (p0:(List Qab)) (p1:Int) (v12:Int) (x3:Qab) (v28:Int) (x7:(List Qab)×Int),(∀ (l10:(List (Qab×Int))) (o13:(List (Qab×Int))×(Unit)),Qem p0 p1 v12 x3 v28 x7 l10=some o13→∀ (gxs gp gpost gq12:List (List V)),gxs=gp++(o13.1.map Qbv++gpost)→gxs=gq12++gpost→RL 2 1 Tryz.prog 44 (rgP Qe4) (rgA Qe4) (rgB Qe4) (Qeb p0 p1 v12 x3 v28 x7 gxs gp).env (Qs (0,1) 44 gxs (JP1 (0,1) 44 o13.2 .normal (Qlt p0 p1 v12 x3 v28 x7 gxs gq12))) (l10.map Qbv) (Qeb p0 p1 v12 x3 v28 x7 gxs gp).s):=by
 intro p0 p1 v12 x3 v28 x7;refine Qem.partial_correctness p0 p1 v12 x3 v28 x7 _ ?_;intro Qem' iQem l10 o13 h;intro gxs gp gpost gq12 hx hq;cases l10 with
 | nil =>
  refine Qaf6 ?_;exact .inl (JP1.a (sndI h) (Le.tz 2 1 rfl rfl (Qakx h hx hq rfl)))
 | cons x8 r9 =>
  refine Qaat (Qan mixed tbOk (lv:=Qjk) _ _ _ ?_);refine And.intro rfl (Qan mixed tbOk (lv:=Qjk) _ _ _ ?_);refine Qaj2 (c:=Qbv) h hx (.refl _) (by exact rfl) (by exact rfl) (fun _ h hx=>?_) ?_
  ·refine bF ?_;exact Exists.intro (Qeb p0 p1 v12 x3 v28 x7  gxs (gp++[Qbv ((Qab.mk x8.1.Kind x8.1.Name x8.1.Text x8.1.N x8.1.L x8.1.Then x8.1.Else),x8.2)])).s (And.intro (Le.tz 2 1 rfl rfl rfl) (And.intro rfl (And.intro rfl ((iQem r9 _ h) _ _ _ _ hx hq))))
  ·refine bT ?_;exact⟨_,(Le.env0 _).trans (Le.tow 2 1 rfl .nil (.refl _) rfl),rfl,rfl,.inr ⟨rfl,Qais rfl⟩⟩
def Qyz:=fun p0 p1 v12 x3 v28 x7 l10=>(Qxi p0 p1 v12 x3 v28 x7) l10
mutual
def Qf7 (p0 : (List Qab)) (p1 : Int) : Option ((List (Qab × Int)) × Unit) :=
  ( Qft p0 p1 0) >>= fun o2 => (
    some ([], ())) >>= fun q => some (o2.1 ++ q.1, q.2)
  partial_fixpoint
def Qft (p0 : (List Qab)) (p1 : Int) (v12 : Int) : Option ((List (Qab × Int)) × (Unit)) :=
  if (decide (v12 < (p0.length : Int))) then
    idx p0 v12 >>= fun x3 =>
    ( ( Qcq p0 p1 v12 x3 0) >>= fun o5 => (
        Qft p0 p1 (wr (v12 + 1))) >>= fun q => some (o5.1 ++ q.1, q.2)) >>= fun q => some ((x3, p1) :: q.1, q.2)
  else
    some ([], ())
  partial_fixpoint
def Qcq (p0 : (List Qab)) (p1 : Int) (v12 : Int) (x3 : Qab) (v28 : Int) : Option ((List (Qab × Int)) × (Unit)) :=
  if (decide (v28 < 3)) then
    idx ([x3.L, x3.Then, x3.Else] : List (List Qab)) v28 >>= fun x6 =>
    Qkx x6 (wr (p1 + 1)) >>= fun x7 =>
    Qf7 x7.1 x7.2 >>= fun y11 =>
    ( Qem p0 p1 v12 x3 v28 x7 y11.1) >>= fun o13 => (
      Qcq p0 p1 v12 x3 (wr (v28 + 1))) >>= fun q => some (o13.1 ++ q.1, q.2)
  else
    some ([], ())
  partial_fixpoint
end
theorem Q3c:(∀ (p0:(List Qab)) (p1:Int) (o:(List (Qab×Int))×Unit),Qf7 p0 p1=some o→∀ gxs:List (List V),gxs=o.1.map Qbv→IterOK Tryz.prog 59 [.ep [.sl false (p0.map Qae)],.ep [iV p1]] gxs)∧(∀ (p0:(List Qab)) (p1:Int) (v12:Int) (o2:(List (Qab×Int))×(Unit)),Qft p0 p1 v12=some o2→∀ (gxs gp gpost gq1:List (List V)),gxs=gp++(o2.1.map Qbv++gpost)→gxs=gq1++gpost→TL (0,1) Tryz.prog 44 Q05 (Qs (0,1) 44 gxs (JP1 (0,1) 44 o2.2 (.exit 0) (Qqq p0 p1 gxs gq1))) (Qlv p0 p1 v12 gxs gp))∧(∀ (p0:(List Qab)) (p1:Int) (v12:Int) (x3:Qab) (v28:Int) (o5:(List (Qab×Int))×(Unit)),Qcq p0 p1 v12 x3 v28=some o5→∀ (gxs gp gpost gq4:List (List V)),gxs=gp++(o5.1.map Qbv++gpost)→gxs=gq4++gpost→TL (0,1) Tryz.prog 44 Q04 (Qs (0,1) 44 gxs (JP1 (0,1) 44 o5.2 (.exit 2) (Qqp p0 p1 v12 x3 gxs gq4))) (Qlu p0 p1 v12 x3 v28 gxs gp)):=by
 refine Qf7.mutual_partial_correctness _ _ _ ?_ ?_ ?_
 ·intro Qft' iQft p0 p1 o h;intro gxs hg;have hx:gxs=[]++(o.1.map Qbv++[]):=by simp[hg]
  refine IterOK.ofB mixed tbOk Qjk Tryz.func59 rfl (by kernel_rfl) (Nat.le_of_ble_eq_true rfl) rfl ?_;refine view (Qaw _ _) rfl ?_;refine Q4x h hx (fun o2 lgq1 gq1 ho hk hxa hjgq1=>?_);refine Exists.intro (Qs _ _ gxs (JP1 _ _ o2.2 (.exit 0) (Qqq p0 p1 gxs gq1))) (And.intro (Qo0 (τ := Qlv p0 p1 0 gxs ([]:List (List V))) ?_ (TL.loop ((iQft p0 p1 0 o2 ho) _ _ _ _ hxa hjgq1))) (Qaky (Qa7 ?_) ?_))
  ·exact Le.tz 1 1 rfl rfl rfl
  ·have h:=hk;have hx:=hjgq1;exact Qakw h hx (.inl rfl) rfl
  ·exact fun s1 h1 h2 hs=>Qait (.inr rfl) hs
 ·intro Qft' Qcq' iQft iQcq p0 p1 v12 o2 h;intro gxs gp gpost gq1 hx hq;refine TL.round (Qan mixed tbOk (lv:=Qjk) _ _ _ ?_);refine Qaf h (fun hb h=>?_) (fun hb h=>?_)
  ·refine Qcy (l:=p0) (c:=Qae) (c' := Qa2) h Qai (fun _=>rfl) (by decide) (fun x3 hi h=>?_);refine Qaj2 (c:=Qbv) h hx (.refl _) (by exact rfl) (by exact rfl) (fun _ h hx=>?_) ?_
   ·refine bF ?_;refine Q4x h hx (fun o5 lgq4 gq4 ho hk hxa hjgq4=>?_);refine Exists.intro (Qs _ _ gxs (JP1 _ _ o5.2 (.exit 2) (Qqp p0 p1 v12 x3 gxs gq4))) (And.intro (Qo0 (τ := Qlu p0 p1 v12 x3 0 gxs (gp++[Qbv (x3,p1)])) ?_ (TL.loop ((iQcq p0 p1 v12 x3 0 o5 ho) _ _ _ _ hxa hjgq4))) (Qaky (Qa7 ?_) ?_))
    ·exact Le.tz 2 1 rfl rfl rfl
    ·have h:=hk;have hx:=hjgq4;refine TL.le (τ := Qlv p0 p1 (wr (v12+1)) gxs gq4) ?_ ((iQft p0 p1 (wr (v12+1)) _ h) _ _ _ _ hx hq);exact Le.tz 1 1 rfl rfl rfl
    ·exact fun s1 h1 h2 hs =>.inr ⟨rfl,s1,.refl _ _ _,h1,h2,hs⟩
   ·refine bT ?_;exact .inr ⟨rfl,_,(Le.env0 _).trans (Le.tow 0 1 rfl .nil (.refl _) rfl),rfl,rfl,rfl⟩
  ·exact .inl (JP1.a (sndI h) (Le.tz 1 1 rfl rfl (Qakx h hx hq rfl)))
 ·intro Qf7' Qcq' iQf7 iQcq p0 p1 v12 x3 v28 o5 h;intro gxs gp gpost gq4 hx hq;refine TL.round (Qan mixed tbOk (lv:=Qjk) _ _ _ ?_);refine Qaf h (fun hb h=>?_) (fun hb h=>?_)
  ·refine Qakz (l:=([x3.L,x3.Then,x3.Else]:List (List Qab))) (c:=fun x6 =>.sl false (x6.map Qae)) h rfl rfl rfl rfl (fun x6 hi h=>?_);refine Qak [.sl false (x6.map Qae),iV (wr (p1+1))] Qpa h (fun x7 hy=>(Qva x6 (wr (p1+1)) x7 hy)) (fun x7 hy h=>?_);refine Qag h (fun y11 hy11 h=>?_);refine Q4x h hx (fun o13 lgq12 gq12 ho hk hxa hjgq12=>?_);refine Exists.intro (Qs _ _ gxs (JP1 _ _ o13.2 .normal (Qlt p0 p1 v12 x3 v28 x7 gxs gq12))) (And.intro (Qo0 (τ := Qeb p0 p1 v12 x3 v28 x7 gxs gp) ?_ (Qaam (g:=59) (cap:=[.ep [.sl false (x7.1.map Qae)],.ep [iV x7.2]]) rfl ((iQf7 x7.1 x7.2 y11 hy11) _ rfl) (Q4w fun _=>rfl) rfl (Nat.le_of_ble_eq_true rfl) (Nat.le_of_ble_eq_true rfl) ((Qyz p0 p1 v12 x3 v28 x7 y11.1 o13 ho) _ _ _ _ hxa hjgq12))) (Qaky (Qa7 ?_) ?_))
   ·exact Le.tz 2 1 rfl rfl rfl
   ·have h:=hk;have hx:=hjgq12;refine TL.le (τ := Qlu p0 p1 v12 x3 (wr (v28+1)) gxs gq12) ?_ ((iQcq p0 p1 v12 x3 (wr (v28+1)) _ h) _ _ _ _ hx hq);exact Le.tz 2 1 rfl rfl rfl
   ·exact fun s1 h1 h2 hs =>.inr ⟨rfl,s1,.refl _ _ _,h1,h2,hs⟩
  ·exact .inl (JP1.a (sndI h) (Le.tz 2 1 rfl rfl (Qakx h hx hq rfl)))
theorem Qwf:∀ (p0:(List Qab)) (p1:Int) (o:(List (Qab×Int))×Unit),Qf7 p0 p1=some o→∀ gxs:List (List V),gxs=o.1.map Qbv→IterOK Tryz.prog 59 [.ep [.sl false (p0.map Qae)],.ep [iV p1]] gxs:=fun p0 p1=>Q3c.1 p0 p1
def Qpi (p0:(List Qab)):Option (Int) :=
 Qkx p0 1>>=fun x1 =>
 Qf7 x1.1 x1.2>>=fun y5 =>
 (Qel x1 y5.1 0)>>=fun o6 =>
 some o6
theorem Q6i:∀ (p0:(List Qab)) (o:Int),Qpi p0=some o→PCall Tryz.prog 18 [.sl false (p0.map Qae)] (Qsd o):=by
 intro p0 o h;unfold Qpi at h;refine PCall.ofB mixed tbOk Qp8 Tryz.func18 rfl (by kernel_rfl) (Nat.le_of_ble_eq_true rfl) ?_;refine Qak [.sl false (p0.map Qae),iV 1] Qpa h (fun x1 hy=>(Qva p0 1 x1 hy)) (fun x1 hy h=>?_);refine Qag h (fun y5 hy5 h=>?_);refine Qag h (fun o6 ho hk=>?_);refine Exists.intro (JP1 _ _ o6 .normal (Qls x1)) (And.intro (Qo0 (τ := Qea x1 0) ?_ (Qaam (g:=59) (cap:=[.ep [.sl false (x1.1.map Qae)],.ep [iV x1.2]]) rfl ((Qwf x1.1 x1.2 y5 hy5) _ rfl) (Q4w fun _=>rfl) rfl (Nat.le_of_ble_eq_true rfl) (Nat.le_of_ble_eq_true rfl) (Qyy x1 y5.1 0 o6 ho))) (Qa7 ?_))
 ·exact Le.tz 1 0 rfl rfl rfl
 have h:=hk;refine Qao (t:=Qsd) h ?_;exact .refl _
def Qfe (x1:(List Qab)×Int) (l4:(List (Qab×Int))) (h0_0:Int):Option (Int) :=
 match l4 with
 | [] =>
  some h0_0
 | x2::r3 =>
  Qfe x1 r3 (if x2.2>h0_0 then x2.2 else h0_0)
 partial_fixpoint
theorem Qy0:∀ (x1:(List Qab)×Int),(∀ (l4:(List (Qab×Int))) (h0_0:Int) (o6:Int),Qfe x1 l4 h0_0=some o6→RL 1 0 Tryz.prog 14 (rgP Qf6) (rgA Qf6) (rgB Qf6) (Qe3 x1 h0_0).env (JP1 (0,0) 14 o6 .normal (Qnb x1)) (l4.map Qbv) (Qe3 x1 h0_0).s):=by
 intro x1;refine Qfe.partial_correctness x1 _ ?_;intro Qfe' iQfe l4 h0_0 o6 h;cases l4 with
 | nil =>
  refine Qaf6 ?_;exact JP1.a h (Le.tz 1 0 rfl rfl rfl)
 | cons x2 r3 =>
  refine Qaat (Qan mixed tbOk (lv:=Qse) _ _ _ ?_);refine And.intro rfl (Qan mixed tbOk (lv:=Qse) _ _ _ ?_);exact Exists.intro (Qe3 x1 (if x2.2>h0_0 then x2.2 else h0_0)).s (And.intro (Le.tz 1 0 rfl rfl rfl) (And.intro rfl (And.intro rfl ((iQfe r3 (if x2.2>h0_0 then x2.2 else h0_0) _ h)))))
def Q1m:=fun x1 l4 h0_0=>(Qy0 x1) l4 h0_0
def Qsn (p0:(List Qab)):Option (Int) :=
 Qkx p0 1>>=fun x1 =>
 Qf7 x1.1 x1.2>>=fun y5 =>
 (Qfe x1 y5.1 0)>>=fun o6 =>
 some o6
theorem Q9c:∀ (p0:(List Qab)) (o:Int),Qsn p0=some o→PCall Tryz.prog 19 [.sl false (p0.map Qae)] (Qu1 o):=by
 intro p0 o h;unfold Qsn at h;refine PCall.ofB mixed tbOk Qse Tryz.func19 rfl (by kernel_rfl) (Nat.le_of_ble_eq_true rfl) ?_;refine Qak [.sl false (p0.map Qae),iV 1] Qpa h (fun x1 hy=>(Qva p0 1 x1 hy)) (fun x1 hy h=>?_);refine Qag h (fun y5 hy5 h=>?_);refine Qag h (fun o6 ho hk=>?_);refine Exists.intro (JP1 _ _ o6 .normal (Qnb x1)) (And.intro (Qo0 (τ := Qe3 x1 0) ?_ (Qaam (g:=59) (cap:=[.ep [.sl false (x1.1.map Qae)],.ep [iV x1.2]]) rfl ((Qwf x1.1 x1.2 y5 hy5) _ rfl) (Q4w fun _=>rfl) rfl (Nat.le_of_ble_eq_true rfl) (Nat.le_of_ble_eq_true rfl) (Q1m x1 y5.1 0 o6 ho))) (Qa7 ?_))
 ·exact Le.tz 1 0 rfl rfl rfl
 have h:=hk;refine Qao (t:=Qu1) h ?_;exact .refl _
def Qfu (p0:(List UInt8)):Option ((List Qab)×Int×Int) :=
 Qpg p0>>=fun x1 =>
 if(x1.2.2 != 0) then
  some ([],x1.2.1,x1.2.2)
 else
  Qa8 false false x1.1 0>>=fun o3 =>
  match o3 with
  | .inl x2 =>
   Qpi x2.1>>=fun x5 =>
   if(decide (x5>1024)) then
    some ([],0,5)
   else
    Qsn x2.1>>=fun x6 =>
    if(decide (x6>12)) then
     some ([],0,8)
    else
     some (x2.1,0,0)
  | .inr z4 =>
   Qek p0 x1.1 z4>>=fun x7 =>
   some ([],x7,7)
theorem Qhn:∀ (p0:(List UInt8)) (o:(List Qab)×Int×Int),Qfu p0=some o→PCall Tryz.prog 7 [sV p0] (Qc0 o):=by
 intro p0 o h;unfold Qfu at h;refine Qagj (lv:=Q2y) ?_;refine Qak [sV p0] Qr7 h (fun x1 hy=>(Q6h p0 x1 hy)) (fun x1 hy h=>?_);refine Qaf h (fun hb h=>?_) (fun hb h=>?_)
 ·refine Exists.intro (.op 0 (.op 1 (.op 2 (.op 3 (.op 4 (.nil) (.nil)) (.nil)) (.nil)) (.op 2 (.op 1 (.op 3 (.op 4 (.nil) (.nil)) (.nil)) (.op 3 (.op 1 (.op 4 (.nil) (.nil)) (.nil)) (.nil))) (.nil))) (.op 1 (.op 0 (.op 2 (.op 3 (.op 4 (.nil) (.nil)) (.nil)) (.nil)) (.op 2 (.op 0 (.op 3 (.op 4 (.nil) (.nil)) (.nil)) (.nil)) (.nil))) (.op 2 (.op 0 (.op 1 (.op 3 (.op 4 (.nil) (.nil)) (.nil)) (.op 3 (.op 1 (.op 4 (.nil) (.nil)) (.nil)) (.nil))) (.op 1 (.op 0 (.op 3 (.op 4 (.nil) (.nil)) (.nil)) (.nil)) (.nil))) (.nil))):PT) (Exists.intro _ (And.intro (by decide +kernel) (And.intro (And.intro (And.intro (And.intro (And.intro (And.intro (rfl) (trivial)) (trivial)) (trivial)) (And.intro (And.intro (And.intro (And.intro (rfl) (trivial)) (trivial)) (And.intro (And.intro (And.intro (rfl) (trivial)) (trivial)) (trivial))) (trivial))) (And.intro (And.intro (And.intro (And.intro (And.intro (rfl) (trivial)) (trivial)) (trivial)) (And.intro (And.intro (And.intro (And.intro (rfl) (trivial)) (trivial)) (trivial)) (trivial))) (And.intro (And.intro (And.intro (And.intro (And.intro (rfl) (trivial)) (trivial)) (And.intro (And.intro (And.intro (rfl) (trivial)) (trivial)) (trivial))) (And.intro (And.intro (And.intro (And.intro (rfl) (trivial)) (trivial)) (trivial)) (trivial))) (trivial)))) ?_)));refine Qao (t:=Qc0) h ?_;exact .tup (xs:=[.sl true [],iV x1.2.1,iV x1.2.2]) (ys:=[.sl false [],iV x1.2.1,iV x1.2.2]) (.cons (.not) (.cons (.refl _) (.cons (.refl _) (.nil))))
 ·refine And.intro rfl (And.intro rfl (And.intro rfl (And.intro rfl (And.intro rfl (And.intro rfl (And.intro rfl ?_))))));refine xle ?_;refine Qbk _ _ _ h (fun x2 hy=>(Qlc false false x1.1 0 (.inl x2) hy).a.fr [4] [] rfl rfl rfl) (fun z4 hy=>(Qlc false false x1.1 0 (.inr z4) hy).b.fr [4] [] rfl rfl rfl) (fun x2 hy h=>?_) (fun z4 hy h=>?_)
  ·refine Qak [.sl false (x2.1.map Qae)] Qsd h (fun x5 hy=>(Q6i x2.1 x5 hy)) (fun x5 hy h=>?_);refine Qaf h (fun hb h=>?_) (fun hb h=>?_)
   ·refine Qao (t:=Qc0) h ?_;exact .tup (xs:=[.sl true [],iV 0,iV 5]) (ys:=[.sl false [],iV 0,iV 5]) (.cons (.not) (.cons (.refl _) (.cons (.refl _) (.nil))))
   ·refine Qak [.sl false (x2.1.map Qae)] Qu1 h (fun x6 hy=>(Q9c x2.1 x6 hy)) (fun x6 hy h=>?_);refine Qaf h (fun hb h=>?_) (fun hb h=>?_)
    ·refine Qao (t:=Qc0) h ?_;exact .tup (xs:=[.sl true [],iV 0,iV 8]) (ys:=[.sl false [],iV 0,iV 8]) (.cons (.not) (.cons (.refl _) (.cons (.refl _) (.nil))))
    ·refine Qao (t:=Qc0) h ?_;exact .refl _
  ·refine And.intro rfl (And.intro rfl (And.intro rfl (And.intro rfl (And.intro rfl (And.intro rfl ?_)))));refine Qah _ _ h (fun x7 hy=>((Qsm p0 x1.1 z4 x7 hy).fr [4] [] rfl rfl rfl)) (fun x7 hy h=>?_);refine And.intro rfl ?_;refine Qao (t:=Qc0) h ?_;exact .tup (xs:=[.sl true [],iV x7,iV 7]) (ys:=[.sl false [],iV x7,iV 7]) (.cons (.not) (.cons (.refl _) (.cons (.refl _) (.nil))))
def Qdu:Option (Bool) :=
 Qfu [123,123,32,105,102,32,120,46,121,32,125,125,97,123,123,32,101,110,100,32,125,125]>>=fun x1 =>
 Qfu [123,123,32,101,110,100,32,125,125]>>=fun x2 =>
 Qfu [123,123,32,105,102,32,120,32,125,125]>>=fun x3 =>
 ( if(x1.2.2==0) then
   if((x1.1.length:Int)==1) then
    idx x1.1 0>>=fun x5 =>
    if(x5.Kind==10) then
     idx x1.1 0>>=fun x6 =>
     if((x6.Then.length:Int)==1) then
      if(x2.2.2==7) then
       if(x2.2.1==3) then
        if(x3.2.2==7) then
         some (x3.2.1==10)
        else
         some false
       else
        some false
      else
       some false
     else
      some false
    else
     some false
   else
    some false
  else
   some false:Option (Bool))>>=fun o4 =>
 some o4
theorem Ql5:∀ (o:Bool),Qdu  = some o→PCall Tryz.prog 10 [] (Qfj o):=by
 intro o h;unfold Qdu at h;refine PCall.ofB mixed tbOk Qtv Tryz.func10 rfl (by kernel_rfl) (Nat.le_of_ble_eq_true rfl) ?_;refine Qak [sV [123,123,32,105,102,32,120,46,121,32,125,125,97,123,123,32,101,110,100,32,125,125]] Qc0 h (fun x1 hy=>(Qhn [123,123,32,105,102,32,120,46,121,32,125,125,97,123,123,32,101,110,100,32,125,125] x1 hy)) (fun x1 hy h=>?_);refine Qak [sV [123,123,32,101,110,100,32,125,125]] Qc0 h (fun x2 hy=>(Qhn [123,123,32,101,110,100,32,125,125] x2 hy)) (fun x2 hy h=>?_);refine Qak [sV [123,123,32,105,102,32,120,32,125,125]] Qc0 h (fun x3 hy=>(Qhn [123,123,32,105,102,32,120,32,125,125] x3 hy)) (fun x3 hy h=>?_);refine Qag h (fun o4 ho hk=>?_);refine Exists.intro (JP1 _ _ o4 .normal (Qq0 )) (And.intro ?_ (Qa7 ?_))
 ·have h:=ho;refine Qaf h (fun hb h=>?_) (fun hb h=>?_)
  ·refine view (Qaw _ _) rfl ?_;refine Qaf h (fun hb h=>?_) (fun hb h=>?_)
   ·refine Qcy (l:=x1.1) (c:=Qae) (c' := Qa2) h Qai (fun _=>rfl) (by decide) (fun x5 hi h=>?_);refine Qaf h (fun hb h=>?_) (fun hb h=>?_)
    ·refine Qcy (l:=x1.1) (c:=Qae) (c' := Qa2) h Qai (fun _=>rfl) (by decide) (fun x6 hi h=>?_);refine view (Qaw _ _) rfl ?_;refine Qaf h (fun hb h=>?_) (fun hb h=>?_)
     ·refine Qaf h (fun hb h=>?_) (fun hb h=>?_)
      ·refine Qaf h (fun hb h=>?_) (fun hb h=>?_)
       ·refine Qaf h (fun hb h=>?_) (fun hb h=>?_)
        ·refine JP1.a h ?_;exact Le.tz 0 0 rfl rfl rfl
        ·refine JP1.a h ?_;exact Le.tz 0 0 rfl rfl rfl
       ·refine bF ?_;refine JP1.a h ?_;exact Le.tz 0 0 rfl rfl rfl
      ·refine bF ?_;refine bF ?_;refine JP1.a h ?_;exact Le.tz 0 0 rfl rfl rfl
     ·refine bF ?_;refine bF ?_;refine bF ?_;refine JP1.a h ?_;exact Le.tz 0 0 rfl rfl rfl
    ·refine bF ?_;refine bF ?_;refine bF ?_;refine bF ?_;refine JP1.a h ?_;exact Le.tz 0 0 rfl rfl rfl
   ·refine bF ?_;refine bF ?_;refine bF ?_;refine bF ?_;refine bF ?_;refine JP1.a h ?_;exact Le.tz 0 0 rfl rfl rfl
  ·refine bF ?_;refine bF ?_;refine bF ?_;refine bF ?_;refine bF ?_;refine bF ?_;refine JP1.a h ?_;exact Le.tz 0 0 rfl rfl rfl
 ·have h:=hk;refine Qao (t:=Qfj) h ?_;exact .refl _
def Qg3 (p0:(List UInt8)):Option ((List UInt8)) :=
 cutL p0 0 (if 400<(p0.length:Int) then 400 else(p0.length:Int))>>=fun x1 =>
 some x1
theorem Qwg:∀ (p0:(List UInt8)) (o:(List UInt8)),Qg3 p0=some o→PCall Tryz.prog 6 [sV p0] (Qkg o):=by
 intro p0 o h;unfold Qg3 at h;refine PCall.ofB mixed tbOk Qv7 Tryz.func6 rfl (by kernel_rfl) (Nat.le_of_ble_eq_true rfl) ?_;refine vrfl ?_;refine Qex none (some (if 400<(p0.length:Int) then 400 else(p0.length:Int))) h (fun x1 hi h=>?_);refine Qao (t:=Qkg) h ?_;exact .refl _
def Qda (p0:(List UInt8)):Option (Bool) :=
 Qg3 p0>>=fun x1 =>
 Qfu x1>>=fun x2 =>
 Qsh x1>>=fun x3 =>
 ( if(x2.2.2 != x3.2.2) then
   some true
  else
   if(x2.2.1 != x3.2.1) then
    some true
   else
    Qhz x2.1 x3.1>>=fun x5 =>
    some (!x5):Option (Bool))>>=fun o4 =>
 if o4 then
  some false
 else
  if(x2.2.2 != 0) then
   ( if((x2.1.length:Int)==0) then
     Qdu>>=fun x7 =>
     some x7
    else
     some false:Option (Bool))>>=fun o6 =>
   some o6
  else
   Qpf x3.1>>=fun x8 =>
   Qfu x8.1>>=fun x9 =>
   ( if x8.2 then
     if(x9.2.2==0) then
      Qhz x9.1 x3.1>>=fun x11 =>
      if x11 then
       Qdu>>=fun x12 =>
       some x12
      else
       some false
     else
      some false
    else
     some false:Option (Bool))>>=fun o10 =>
   some o10
theorem Qox:∀ (p0:(List UInt8)) (o:Bool),Qda p0=some o→PCall Tryz.prog 3 [sV p0] (Qdn o):=by
 intro p0 o h;unfold Qda at h;refine PCall.ofB mixed tbOk Qou Tryz.func3 rfl (by kernel_rfl) (Nat.le_of_ble_eq_true rfl) ?_;refine Qak [sV p0] Qkg h (fun x1 hy=>(Qwg p0 x1 hy)) (fun x1 hy h=>?_);refine Qak [sV x1] Qc0 h (fun x2 hy=>(Qhn x1 x2 hy)) (fun x2 hy h=>?_);refine Qak [sV x1] Qgs h (fun x3 hy=>(Q9a x1 x3 hy)) (fun x3 hy h=>?_);refine Qag h (fun o4 ho hk=>?_);refine Exists.intro (JP1 _ _ o4 .normal (Qm6 x2 x3)) (And.intro ?_ (Qa7 ?_))
 ·have h:=ho;refine Qaf h (fun hb h=>?_) (fun hb h=>?_)
  ·refine bT ?_;refine JP1.a h ?_;exact Le.tz 0 0 rfl rfl rfl
  ·refine Qaf h (fun hb h=>?_) (fun hb h=>?_)
   ·refine JP1.a h ?_;exact Le.tz 0 0 rfl rfl rfl
   ·refine Qak [.sl false (x2.1.map Qae),.sl false (x3.1.map Qae)] Qf4 h (fun x5 hy=>(Q1i x2.1 x3.1 x5 hy)) (fun x5 hy h=>?_);refine JP1.a h ?_;exact Le.tz 0 0 rfl rfl rfl
 ·have h:=hk;refine Qaf h (fun hb h=>?_) (fun hb h=>?_)
  ·refine Qao (t:=Qdn) h ?_;exact .refl _
  ·refine Qaf h (fun hb h=>?_) (fun hb h=>?_)
   ·refine Qag h (fun o6 ho hk=>?_);refine Exists.intro (JP1 _ _ o6 .normal (Qm7 )) (And.intro ?_ (Qa7 ?_))
    ·have h:=ho;refine view (Qaw _ _) rfl ?_;refine Qaf h (fun hb h=>?_) (fun hb h=>?_)
     ·refine Qak [] Qfj h (fun x7 hy=>(Ql5 x7 hy)) (fun x7 hy h=>?_);refine JP1.a h ?_;exact Le.tz 0 0 rfl rfl rfl
     ·refine JP1.a h ?_;exact Le.tz 0 0 rfl rfl rfl
    ·have h:=hk;refine Qao (t:=Qdn) h ?_;exact .refl _
   ·refine Qak [.sl false (x3.1.map Qae)] Qmz h (fun x8 hy=>(Q88 x3.1 x8 hy)) (fun x8 hy h=>?_);refine Qak [sV x8.1] Qc0 h (fun x9 hy=>(Qhn x8.1 x9 hy)) (fun x9 hy h=>?_);refine Qag h (fun o10 ho hk=>?_);refine Exists.intro (JP1 _ _ o10 .normal (Qm8 )) (And.intro ?_ (Qa7 ?_))
    ·have h:=ho;refine Qaf h (fun hb h=>?_) (fun hb h=>?_)
     ·refine Qaf h (fun hb h=>?_) (fun hb h=>?_)
      ·refine Qak [.sl false (x9.1.map Qae),.sl false (x3.1.map Qae)] Qf4 h (fun x11 hy=>(Q1i x9.1 x3.1 x11 hy)) (fun x11 hy h=>?_);refine Qaf h (fun hb h=>?_) (fun hb h=>?_)
       ·refine Qak [] Qfj h (fun x12 hy=>(Ql5 x12 hy)) (fun x12 hy h=>?_);refine JP1.a h ?_;exact Le.tz 0 0 rfl rfl rfl
       ·refine JP1.a h ?_;exact Le.tz 0 0 rfl rfl rfl
      ·refine bF ?_;refine JP1.a h ?_;exact Le.tz 0 0 rfl rfl rfl
     ·refine bF ?_;refine bF ?_;refine JP1.a h ?_;exact Le.tz 0 0 rfl rfl rfl
    ·have h:=hk;refine Qao (t:=Qdn) h ?_;exact .refl _
end Go.Proofs.YtagokkpnfceidaaGreatDoor
end

noncomputable section
namespace Go.Proofs.YtagokkpnfceidaaGreatDoor
open Go.RowKit
set_option linter.unusedSimpArgs false
set_option linter.unusedVariables false
mutual
def nn:Qab→Nat
 | ⟨_,_,_,_,a,b,c⟩=>1+nns a+nns b+nns c
def nns:List Qab→Nat
 | []=>0
 | x::r=>nn x+nns r
end
mutual
def dp:Qab→Nat
 | ⟨_,_,_,_,a,b,c⟩=>1+max (dps a) (max (dps b) (dps c))
def dps:List Qab→Nat
 | []=>0
 | x::r=>max (dp x) (dps r)
end
theorem Qgn(x:Qab):nn x=1+nns x.L+nns x.Then+nns x.Else:=by cases x; rw[nn]
theorem Qai6(x:Qab):dp x=1+max (dps x.L) (max (dps x.Then) (dps x.Else)):=by cases x; rw[dp]
theorem Qj3(x:Qab):1≤nn x:=by rw[Qgn]; omega
theorem Qkl:∀ l:List Qab,l.length≤nns l
 | []=>by simp[nns]
 | x::r=>by have:=Qkl r; have:=Qj3 x; simp[nns]; omega
theorem Qg4:∀ {l:List Qab} {x:Qab},x ∈ l→nn x≤nns l
 | y::r,x,h=>by
  rcases List.mem_cons.1 h with rfl | h
  ·simp[nns]
  ·have:=Qg4 h; simp[nns]; omega
theorem Q6j:∀ a b:List Qab,nns (a++b)=nns a+nns b
 | [],b=>by simp[nns]
 | x::r,b=>by simp[nns,Q6j r b]; omega
theorem Qak4{l:List UInt8}{k:Nat}:(l.take (if(k:Int)<(l.length:Int) then(k:Int) else(l.length:Int)).toNat).drop (0:Int).toNat=l.take k:=by
 split
 ·simp
 ·simp;rw[List.take_of_length_le (by omega)]
theorem Qame(l:List UInt8)(k:Nat):cutL l 0 (if(k:Int)<(l.length:Int) then(k:Int) else(l.length:Int))=some (l.take k):=by
 rw[Qlg (by omega) (by split<;>omega) (by split<;>omega),Qak4]
mutual
def Qak5:Qab→Qab→Bool
 | ⟨k,s,t,n,a,b,c⟩,y=>k==y.Kind&&(s==y.Name&&(t==y.Text&&(n==y.N&&(Qld a y.L&&(Qld b y.Then&&Qld c y.Else)))))
def Qld:List Qab→List Qab→Bool
 | [],m=>m.isEmpty
 | x::r,m=>match m with
  | []=>false
  | y::q=>Qak5 x y&&Qld r q
end
theorem Qacx(x y:Qab):Qak5 x y=(x.Kind==y.Kind&&(x.Name==y.Name&&(x.Text==y.Text&&(x.N==y.N&&(Qld x.L y.L&&(Qld x.Then y.Then&&Qld x.Else y.Else)))))):=by cases x; rw[Qak5]
theorem Q32:∀ n (l:List Qab),nns l≤n→Qld l l=true:=by
 intro n
 induction n with
 | zero=>intro l h; cases l with
  | nil=>simp[Qld]
  | cons x r=>have:=Qj3 x; simp[nns] at h; omega
 | succ n ih =>
  intro l
  induction l with
  | nil=>intro _; simp[Qld]
  | cons x r ihr =>
   intro h;rw[nns,Qgn] at h;rw[Qld,Qacx,ih _ (by omega:nns x.L≤n),ih _ (by omega:nns x.Then≤n),ih _ (by omega:nns x.Else≤n),ihr (by omega)];simp
theorem Q9d:∀ (a b:List Qab),a.length≠b.length→Qld a b=false
 | [],[],h=>absurd rfl h
 | [],y::q,_=>by simp[Qld]
 | x::r,[],_=>by simp[Qld]
 | x::r,y::q,h=>by
  rw[Qld,Q9d r q (by simpa using h)];simp
section
end
theorem neI(a b:Nat):((a:Int) != (b:Int))=(a != b):=by
 by_cases h:a=b
 ·subst h; simp
 ·have:(a:Int)≠b:=by omega
  rw[bne_iff_ne.2 h,bne_iff_ne.2 this]
section
variable (n:Nat) (ih:∀ a b:List Qab,nns a≤n→Qhz a b=some (Qld a b))
include ih
theorem Qamf(a b:List Qab)(hl:a.length=b.length)(h:nns a≤n+1)(hlen:a.length<9223372036854775807):∀ k,k≤a.length →
  Qif a b k=some (if Qld (a.drop k) (b.drop k) then .inl () else .inr ()):=by
 refine upto ?_ fun k hk ihk=>?_
 ·rw[Qif];rw[hl,List.drop_length,← hl,List.drop_length];simp[Qld]
 ·have hk2:k<b.length:=by omega
  have hx:=Qg4 (List.getElem_mem hk);rw[Qgn] at hx;rw[Qif,Qbp (by omega),ihk];simp only[ltI,hk,decide_true,if_true,Qbu,getE hk,getE hk2,Qac];rw[ih a[k].L b[k].L (by omega),ih a[k].Then b[k].Then (by omega),ih a[k].Else b[k].Else (by omega)];simp only[Qac];rw[Qcm hk,Qcm hk2,Qld,Qacx];have e:∀ p q:Int,(p != q) = !(p==q):=fun p q=>rfl
  simp only[e];cases (a[k].Kind==b[k].Kind)<;>cases (a[k].Name==b[k].Name)<;>cases (a[k].Text==b[k].Text)<;>cases (a[k].N==b[k].N)<;>cases (Qld a[k].L b[k].L)<;>cases (Qld a[k].Then b[k].Then)<;>cases (Qld a[k].Else b[k].Else)<;>rfl
end
theorem Qamg:∀ n (a b:List Qab),n<9223372036854775807→nns a≤n→Qhz a b=some (Qld a b):=by
 intro n
 induction n with
 | zero =>
  intro a b _ h;have ha:a=[]:=List.eq_nil_of_length_eq_zero (by have:=Qkl a; omega);subst ha;rw[Qhz,neI];cases b with
  | nil=>rw[show(0:Int)=((0:Nat):Int) from rfl,Qif]; simp[Qld]
  | cons y q=>simp[Qld]
 | succ n ih =>
  intro a b hn h;rw[Qhz,neI];by_cases hl:a.length=b.length
  ·have:=Qamf n (fun a b=>ih a b (by omega)) a b hl h (by have:=Qkl a; omega) 0 (by omega);rw[show(0:Int)=((0:Nat):Int) from rfl,this];simp only[hl,bne_self_eq_false,Bool.false_eq_true,if_false,Qac,List.drop_zero];cases Qld a b<;>rfl
  ·rw[Q9d a b hl,bne_iff_ne.2 hl];rfl
def Qe7(c:UInt8):Bool:=decide (97≤c.toNat)&&decide (c.toNat≤122)
def digB(c:UInt8):Bool:=decide (48≤c.toNat)&&decide (c.toNat≤57)
def letB(c:UInt8):Bool:=Qe7 c||(digB c||c.toNat==95)
def Qak6:List UInt8→Bool
 | []=>false
 | c::_=>decide (97≤c.toNat)
theorem Qxj(c:UInt8)(r:List UInt8):Qak6 (c::r)=decide (97≤c.toNat):=rfl
def Qd8(s:List UInt8):Bool := !(s==[])&&(decide (s.length≤32)&&(Qak6 s&&s.all letB))
theorem geN(n k:Nat):decide ((n:Int) ≥ (k:Int))=decide (k≤n):=by
 by_cases h:k≤n
 ·rw[decide_eq_true h,decide_eq_true (by omega:(n:Int) ≥ k)]
 ·rw[decide_eq_false h,decide_eq_false (by omega)]
theorem leN(n k:Nat):decide ((n:Int)≤(k:Int))=decide (n≤k):=by
 by_cases h:n≤k
 ·rw[decide_eq_true h,decide_eq_true (by omega:(n:Int)≤k)]
 ·rw[decide_eq_false h,decide_eq_false (by omega)]
theorem eqN(n k:Nat):((n:Int)==(k:Int))=(n==k):=by
 by_cases h:n=k
 ·subst h; simp
 ·rw[beq_eq_false_iff_ne.2 h,beq_eq_false_iff_ne.2 (by omega)]
theorem Qagp(c:UInt8):Qla (c.toNat:Int)=some (digB c):=by
 have a:=geN c.toNat 48;have b:=leN c.toNat 57;rw[Qla];rw[show(48:Int)=((48:Nat):Int) from rfl,show(57:Int)=((57:Nat):Int) from rfl,a,b,digB];cases decide (48≤c.toNat)<;>rfl
theorem Qacy(c:UInt8):Qhl (c.toNat:Int)=some (digB c):=by
 have a:=geN c.toNat 48;have b:=leN c.toNat 57;rw[Qhl];rw[show(48:Int)=((48:Nat):Int) from rfl,show(57:Int)=((57:Nat):Int) from rfl,a,b,digB];cases decide (48≤c.toNat)<;>rfl
theorem Qacz(c:UInt8):Qhm (c.toNat:Int)=some (Qe7 c):=by
 have a:=geN c.toNat 97;have b:=leN c.toNat 122;rw[Qhm];rw[show(97:Int)=((97:Nat):Int) from rfl,show(122:Int)=((122:Nat):Int) from rfl,a,b,Qe7];cases decide (97≤c.toNat)<;>rfl
theorem Qabh(c:UInt8):Qkj (c.toNat:Int)=some (letB c):=by
 have a:=geN c.toNat 97;have b:=leN c.toNat 122;have d:=eqN c.toNat 95;rw[Qkj,Qagp];rw[show(97:Int)=((97:Nat):Int) from rfl,show(122:Int)=((122:Nat):Int) from rfl,show(95:Int)=((95:Nat):Int) from rfl,a,b,d,letB,Qe7];simp only[Qac];cases decide (97≤c.toNat)<;>cases decide (c.toNat≤122)<;>cases digB c<;>cases (c.toNat==95)<;>rfl
theorem Qamh(s:List UInt8)(hs:s.length<9223372036854775807):∀ k,k≤s.length→Qg1 s k=some (if(s.drop k).all letB then .inl () else .inr ()):=by
 refine upto ?_ fun k hk ih=>?_
 ·rw[Qg1]; simp
 ·rw[Qg1,Qbp (by omega),ih];simp only[ltI,hk,decide_true,if_true,Qbu,getE hk,Qac,Qabh];rw[Qcm hk,List.all_cons];cases letB s[k]<;>rfl
theorem Qak7(s:List UInt8)(hs:s.length<9223372036854775807):Qn8 s=some (Qd8 s):=by
 have h:=Qamh s hs 0 (by omega);rw[Qn8,show(0:Int)=((0:Nat):Int) from rfl,h,List.drop_zero,Qd8];have e:=leN s.length 32;rw[show(32:Int)=((32:Nat):Int) from rfl,e];cases ha:s.all letB with
 | false=>cases (s==[])<;>cases decide (s.length≤32)<;>cases Qak6 s<;>rfl
 | true =>
  cases s with
  | nil=>rfl
  | cons c r =>
   have g:=geN c.toNat 97;rw[show(97:Int)=((97:Nat):Int) from rfl];simp only[if_true,Qac,Qbu,List.getElem?_cons_zero,g,Qxj];have e0:((c::r)==([]:List UInt8))=false:=rfl;rw[e0];cases decide ((c::r).length≤32)<;>simp
theorem Qac0{c:UInt8}(h:letB c=true):Qe7 c=decide (97≤c.toNat):=by
 unfold letB Qe7 digB at *;by_cases h1:97≤c.toNat
 ·rw[decide_eq_true h1] at h ⊢;simp at h ⊢;omega
 ·rw[decide_eq_false h1]; rfl
theorem Qami(s:List UInt8)(hs:s.length<9223372036854775807):∀ k,k≤s.length→Qgw s k=some (if(s.drop k).all letB then .inl () else .inr ()):=by
 refine upto ?_ fun k hk ih=>?_
 ·rw[Qgw]; simp
 ·have d:=eqN s[k].toNat 95;rw[Qgw,Qbp (by omega),ih];simp only[ltI,hk,decide_true,if_true,Qbu,getE hk,Qac,Qacz,Qacy];rw[Qcm hk,List.all_cons,letB];have e:(((s[k].toNat:Nat):Int) != 95) = !(s[k].toNat==95):=by rw[← d]; rfl
  rw[e];cases Qe7 s[k]<;>cases digB s[k]<;>cases (s[k].toNat==95)<;>rfl
theorem Qai7(s:List UInt8)(hs:s.length<9223372036854775807):Qkw s=some (Qd8 s):=by
 have h:=Qami s hs 0 (by omega);rw[Qkw,show(0:Int)=((0:Nat):Int) from rfl,h,List.drop_zero,Qd8];cases s with
 | nil=>rfl
 | cons c r =>
  have e1:decide ((((c::r).length:Nat):Int)<1)=false:=decide_eq_false (by simp; omega);have e2:decide ((((c::r).length:Nat):Int)>32) = !(decide ((c::r).length≤32)):=by
   by_cases h:(c::r).length≤32
   ·rw[decide_eq_true h,decide_eq_false (by omega)]; rfl
   ·rw[decide_eq_false h,decide_eq_true (by omega)]; rfl
  simp only[e1,e2,Bool.false_eq_true,if_false,Qbu,List.getElem?_cons_zero,Qac,Qacz,Qxj];have e0:((c::r)==([]:List UInt8))=false:=rfl;rw[e0];cases ha:(c::r).all letB with
  | true =>
   have hl:letB c=true:=by rw[List.all_cons,Bool.and_eq_true] at ha; exact ha.1
   rw[Qac0 hl];cases decide ((c::r).length≤32)<;>cases decide (97≤c.toNat)<;>rfl
  | false=>cases decide ((c::r).length≤32)<;>cases decide (97≤c.toNat)<;>cases Qe7 c<;>rfl
theorem Qagq(a b:List UInt8):s2b (a++b)=s2b a++s2b b:=by simp[s2b]
theorem Qxk(a:List UInt8):(s2b a).length=a.length:=by simp[s2b]
theorem Qak8(l:List UInt8):b2s (s2b l)=some l:=by
 unfold b2s s2b;rw[if_pos]
 ·rw[List.map_map];congr 1;have:∀ c:UInt8,((fun n:Int=>UInt8.ofNat n.toNat) ∘ fun c:UInt8=>(c.toNat:Int)) c=c:=fun c=>by simp
  rw[show((fun n:Int=>UInt8.ofNat n.toNat) ∘ fun c:UInt8=>(c.toNat:Int))=id from funext this,List.map_id]
 ·rw[List.all_eq_true];intro n hn;obtain⟨c,-,rfl⟩:=List.mem_map.1 hn;have:=c.toNat_lt;simp only[decide_eq_true_eq];omega
def kws:List (List UInt8):=[[105,102],[101,108,115,101],[101,110,100],[101,97,99,104],[105,110],[108,101,116],[117,115,101],[116,114,117,101],[102,97,108,115,101],[115,101,99,114,101,116]]
def Qgd(s:List UInt8):Bool := !(kws.any (· == s))&&Qd8 s
theorem Qant(s:List UInt8)(hs:s.length<9223372036854775807):Qsk s=some (Qgd s):=by
 have c:∀ a:List UInt8,(a==s)=(s==a):=fun a=>by rw[Bool.beq_comm]
 rw[Qsk,Qak7 s hs,Qgd];simp only[kws,List.any_cons,List.any_nil,c];generalize (s==[105,102])=a1;generalize (s==[101,108,115,101])=a2;generalize (s==[101,110,100])=a3;generalize (s==[101,97,99,104])=a4;generalize (s==[105,110])=a5;generalize (s==[108,101,116])=a6;generalize (s==[117,115,101])=a7;generalize (s==[116,114,117,101])=a8;generalize (s==[102,97,108,115,101])=a9;generalize (s==[115,101,99,114,101,116])=a10;generalize Qd8 s=b;cases a1
 ·cases a2
  ·cases a3
   ·cases a4
    ·cases a5
     ·cases a6
      ·cases a7
       ·cases a8
        ·cases a9
         ·cases a10<;>cases b<;>rfl
         ·rfl
        ·rfl
       ·rfl
      ·rfl
     ·rfl
    ·rfl
   ·rfl
  ·rfl
 ·rfl
theorem Qamj(s:List UInt8)(l:List (List UInt8))(hl:l.length<9223372036854775807):∀ k,k≤l.length→Qfp s l k=some (if(l.drop k).any (· == s) then .inr () else .inl ()):=by
 refine upto ?_ fun k hk ih=>?_
 ·rw[Qfp]; simp
 ·rw[Qfp,Qbp (by omega),ih];simp only[ltI,hk,decide_true,if_true,Qbu,getE hk,Qac];rw[Qcm hk,List.any_cons];cases (l[k]==s)<;>rfl
theorem Qak9(s:List UInt8)(hs:s.length<9223372036854775807):Qme s=some (Qgd s):=by
 have h:=Qamj s kws (by decide) 0 (by omega);rw[Qme,Qwb];simp only[Qac,Qai7 s hs];rw[show(0:Int)=((0:Nat):Int) from rfl];show(Qfp s kws _>>=_)=_;rw[h,List.drop_zero,Qgd];cases kws.any (· == s)<;>rfl
theorem Qala{s:List UInt8}(h:Qd8 s=true):(s==[])=false:=by
 unfold Qd8 at h;cases hs:(s==[]) with
 | false=>rfl
 | true=>rw[hs] at h; cases h
theorem Qni{s:List UInt8}(h:Qgd s=true):Qd8 s=true:=by
 unfold Qgd at h;cases hw:Qd8 s with
 | true=>rfl
 | false=>rw[hw] at h; simp at h
def hasB:List UInt8→Bool
 | []=>false
 | c::r=>(c==123&&r.head? == some 123)||hasB r
theorem Qalb(s:List UInt8)(k:Nat)(hk:k<s.length)(hs:s.length<4294967281):Qcv s [123,123] k=some (match s.drop k with | []=>false | c::r=>c==123&&r.head? == some 123):=by
 have e1:decide ((k:Int) ≥ 0)=true:=decide_eq_true (by omega);have e2:decide ((k:Int)≤(s.length:Int))=true:=decide_eq_true (by omega);have e3:wr ((s.length:Int)-k)=((s.length-k:Nat):Int):=by rw[Qd6 (by omega) (by omega)]; omega
 have e4:wr ((k:Int)+(([123,123]:List UInt8).length:Int))=((k+2:Nat):Int):=by rw[Qd6 (by simp; omega) (by simp; omega)]; simp
 rw[Qcv,e1,e2,e3,e4];simp only[if_true];by_cases h2:2≤s.length-k
 ·have e5:decide (((([123,123]:List UInt8).length:Nat):Int)≤((s.length-k:Nat):Int))=true:=decide_eq_true (by simp; omega);rw[e5,Qlg (by omega) (by omega) (by omega)];simp only[if_true,Qac];have hk1:k+1<s.length:=by omega
  have e6:(s.take (k+2)).drop k=[s[k],s[k+1]]:=by
   apply List.ext_getElem
   ·simp; omega
   ·intro i h1 h2;simp at h1 h2
    match i,h2 with
    | 0,_=>simp
    | 1,_=>simp
  rw[Int.toNat_natCast,Int.toNat_natCast,e6,Qcm hk,Qcm hk1];simp only[List.head?_cons];have:(([s[k],s[k+1]]:List UInt8)==[123,123])=(s[k]==123&&(some s[k+1]==some 123)):=by
   have e:(some s[k+1]==some (123:UInt8))=(s[k+1]==123):=rfl;rw[e,List.cons_beq_cons,List.cons_beq_cons];show(s[k]==123&&(s[k+1]==123&&true))=_;rw[Bool.and_true]
  rw[this]
 ·have e5:decide (((([123,123]:List UInt8).length:Nat):Int)≤((s.length-k:Nat):Int))=false:=decide_eq_false (by simp; omega);rw[e5,Qcm hk];have:s.drop (k+1)=[]:=List.drop_eq_nil_of_le (by omega);rw[this];simp
theorem Qai8(s:List UInt8)(hs:s.length<4294967281):∀ k,k≤s.length→Qei s [123,123] k=some (if hasB (s.drop k) then .inr () else .inl ()):=by
 refine upto ?_ fun k hk ih=>?_
 ·rw[Qei]; simp[hasB]
 ·rw[Qei,Qbp (by omega),ih,Qalb s k hk hs];simp only[ltI,hk,decide_true,if_true,Qac];rw[Qcm hk,hasB];show(if(s[k]==123&&(s.drop (k+1)).head? == some 123)=true then _ else _)=_;generalize (s[k]==123&&(s.drop (k+1)).head? == some 123)=b;cases b<;>rfl
theorem Qalc(s:List UInt8)(hs:s.length<4294967281):Qpe s [123,123]=some (hasB s):=by
 have h:=Qai8 s hs 0 (by omega);rw[Qpe,show(0:Int)=((0:Nat):Int) from rfl,h,List.drop_zero];cases hasB s<;>rfl
def endB(s:List UInt8):Bool:=s.getLast? == some 123
theorem rEnd(s:List UInt8)(hs:s.length<4294967281)(hne:(s==[])=false):(idx s (wr ((s.length:Int)-1))>>=fun x=>some ((x.toNat:Int)==123))=some (endB s):=by
 have hne:s≠[]:=fun h=>by subst h; cases hne
 have hpos:0<s.length:=List.length_pos_iff.2 hne;have e2:wr ((s.length:Int)-1)=((s.length-1:Nat):Int):=by rw[Qd6 (by omega) (by omega)]; omega
 have h1:s.length-1<s.length:=by omega
 rw[e2,Qbu,getE h1,Qac,endB,List.getLast?_eq_getElem?,getE h1];have d:=eqN s[s.length-1].toNat 123;rw[show(123:Int)=((123:Nat):Int) from rfl,d];congr 1;by_cases h:s[s.length-1]=123
 ·rw[h]; rfl
 ·have:s[s.length-1].toNat≠123:=fun e=>h (UInt8.toNat_inj.1 (by rw[e]; rfl))
  rw[beq_eq_false_iff_ne.2 this]
  symm
  rw[beq_eq_false_iff_ne];intro e; exact h (Option.some.inj e)
mutual
def allN(Q:Qab→Prop):Qab→Prop
 | ⟨k,s,t,n,a,b,c⟩=>Q ⟨k,s,t,n,a,b,c⟩∧allL Q a∧allL Q b∧allL Q c
def allL(Q:Qab→Prop):List Qab→Prop
 | []=>True
 | x::r=>allN Q x∧allL Q r
end
theorem Qig(Q:Qab→Prop)(x:Qab):allN Q x↔(Q x∧allL Q x.L∧allL Q x.Then∧allL Q x.Else):=by cases x; rw[allN]
theorem Qh1{Q:Qab→Prop}:∀ {l:List Qab} {x:Qab},x ∈ l→allL Q l→allN Q x
 | y::r,x,h,hs=>by
  rw[allL] at hs;rcases List.mem_cons.1 h with rfl | h
  ·exact hs.1
  ·exact Qh1 h hs.2
theorem Qth{Q:Qab→Prop}:∀ a b:List Qab,allL Q (a++b)↔(allL Q a∧allL Q b)
 | [],b=>by simp[allL]
 | x::r,b=>by simp[allL,Qth r b,and_assoc]
structure okNd (x:Qab):Prop where
 nm:x.Name.length≤1000000
 tx:x.Text.length≤1000000
 rg : -9223372036854775808≤x.N∧x.N≤9223372036854775807
 qt:x.Kind=1→∃ q,Qjm x.Text=some q∧Qjm x.Text=some q
def Qj4 (s:List UInt8):List UInt8×Bool:=(Qjm s).getD ([],false)
def zl(l:List Qab):Bool:=l.length==0
mutual
def Qih:Qab→Bool
 | ⟨k,s,t,n,a,b,c⟩ =>
  if k==1 then(Qj4 t).2&&(s==[]&&(n==0&&(zl a&&(zl b&&zl c)))) else
  if k==2 then s==[]&&(t==[]&&(zl a&&(zl b&&zl c))) else
  if k==3 then(n==0||n==1)&&(s==[]&&(t==[]&&(zl a&&(zl b&&zl c)))) else
  if k==4 then Qgd s&&(t==[]&&(n==0&&(zl a&&(zl b&&zl c)))) else
  if k==5 then Qd8 s&&(a.length==1&&(Qbf a&&(t==[]&&(n==0&&(zl b&&zl c))))) else
  if k==6 then Qgd s&&(decide (a.length≤3)&&(Qbf a&&(t==[]&&(n==0&&(zl b&&zl c))))) else
  if k==7 then Qd8 s&&(t==[]&&(n==0&&(zl a&&(zl b&&zl c)))) else false
def Qbf:List Qab→Bool
 | []=>true
 | x::r=>Qih x&&Qbf r
end
theorem Qti(x:Qab):Qih x =
  if x.Kind==1 then(Qj4 x.Text).2&&(x.Name==[]&&(x.N==0&&(zl x.L&&(zl x.Then&&zl x.Else)))) else
  if x.Kind==2 then x.Name==[]&&(x.Text==[]&&(zl x.L&&(zl x.Then&&zl x.Else))) else
  if x.Kind==3 then(x.N==0||x.N==1)&&(x.Name==[]&&(x.Text==[]&&(zl x.L&&(zl x.Then&&zl x.Else)))) else
  if x.Kind==4 then Qgd x.Name&&(x.Text==[]&&(x.N==0&&(zl x.L&&(zl x.Then&&zl x.Else)))) else
  if x.Kind==5 then Qd8 x.Name&&(x.L.length==1&&(Qbf x.L&&(x.Text==[]&&(x.N==0&&(zl x.Then&&zl x.Else))))) else
  if x.Kind==6 then Qgd x.Name&&(decide (x.L.length≤3)&&(Qbf x.L&&(x.Text==[]&&(x.N==0&&(zl x.Then&&zl x.Else))))) else
  if x.Kind==7 then Qd8 x.Name&&(x.Text==[]&&(x.N==0&&(zl x.L&&(zl x.Then&&zl x.Else)))) else false:=by cases x; rw[Qih]
theorem zI(l:List Qab):((l.length:Int)==0)=zl l:=eqN l.length 0
theorem gI(l:List Qab):decide ((l.length:Int)>0) = !zl l:=by
 unfold zl;by_cases h:l.length=0
 ·rw[h]; rfl
 ·rw[beq_eq_false_iff_ne.2 h,decide_eq_true (by omega)]; rfl
theorem oneI(l:List Qab):((l.length:Int)==1)=(l.length==1):=eqN l.length 1
section
end
def Qai9(x:Qab)(p1 p2 p3 p4 p5:Bool):Bool:=(p1||x.Name==[])&&((p2||x.Text==[])&&((p3||x.N==0)&&((p4||zl x.L)&&((p5||zl x.Then)&&(x.Kind==10||zl x.Else)))))
theorem Qamk(x:Qab)(p1 p2 p3 p4 p5:Bool):Qeh x p1 p2 p3 p4 p5=some (Qai9 x p1 p2 p3 p4 p5):=by
 unfold Qeh Qai9;simp only[zI];generalize (x.Name==[])=a1;generalize (x.Text==[])=a2;generalize (x.N==0)=a3;generalize zl x.L=a4;generalize zl x.Then=a5;generalize zl x.Else=a6;generalize (x.Kind==10)=a7;have e:∀ b:Bool,(if a7=true then some true else some b:Option Bool)=some (a7||b):=fun b=>by cases a7<;>rfl
 simp only[e];generalize (a7||a6)=a8;cases p1<;>cases p2<;>cases p3<;>cases p4<;>cases p5<;>cases a1<;>(try rfl)<;>cases a2<;>(try rfl)<;>cases a3<;>(try rfl)<;>cases a4<;>(try rfl)<;>cases a5<;>rfl
section
variable (n:Nat) (ih:∀ x:Qab,nn x≤n→allN okNd x→Qtf x=some (Qih x))
include ih
theorem Qald(l:List Qab)(h:nns l≤n)(ho:allL okNd l)(hl:l.length<9223372036854775807):∀ k,k≤l.length→Qix l k=some (if Qbf (l.drop k) then .inl () else .inr ()):=by
 refine upto ?_ fun k hk ihk=>?_
 ·rw[Qix]; simp[Qbf]
 ·have hx:=Qg4 (List.getElem_mem hk);rw[Qix,Qbp (by omega),ihk];simp only[ltI,hk,decide_true,if_true,Qbu,getE hk,Qac,ih l[k] (by omega) (Qh1 (List.getElem_mem hk) ho)];rw[Qcm hk,Qbf];cases Qih l[k]<;>rfl
theorem Qaj6(l:List Qab)(h:nns l≤n)(ho:allL okNd l)(hl:l.length<9223372036854775807):Qnf l=some (Qbf l):=by
 have:=Qald n ih l h ho hl 0 (by omega);rw[Qnf,show(0:Int)=((0:Nat):Int) from rfl,this,List.drop_zero];cases Qbf l<;>rfl
end
theorem Qanu:∀ n (x:Qab),n<1000000000→nn x≤n→allN okNd x→Qtf x=some (Qih x):=by
 intro n
 induction n with
 | zero=>intro x _ h; have:=Qj3 x; omega
 | succ n ih =>
  intro x hb h ho;rw[Qgn] at h;obtain⟨hq,ho1,-,-⟩:=(Qig okNd x).1 ho;have hnm:=hq.nm;have hll:=Qkl x.L;have hex:=Qaj6 n (fun y=>ih y (by omega)) x.L (by omega) ho1 (by omega);have el:decide ((x.L.length:Int)≤3)=decide (x.L.length≤3):=leN x.L.length 3;rw[Qtf,Qti,Qak9 x.Name (by omega),Qai7 x.Name (by omega),hex];simp only[Qac,Qamk,Qai9,oneI,el];by_cases k1:x.Kind=1
  ·obtain⟨q,q1,q2⟩:=hq.qt k1;have e10:(x.Kind==10)=false:=beq_eq_false_iff_ne.2 (by omega);simp only[e10];simp only[k1,beq_self_eq_true,if_true,q2,q1,Qac,Qj4,Option.getD_some];generalize (x.Name==[])=a1;generalize (x.N==0)=a3;generalize zl x.L=a4;generalize zl x.Then=a5;generalize zl x.Else=a6;cases q.2<;>cases a1<;>cases a3<;>cases a4<;>cases a5<;>cases a6<;>rfl
  have b1:(x.Kind==1)=false:=beq_eq_false_iff_ne.2 k1;by_cases h10:x.Kind=10
  ·simp only[h10]; rfl
  have e10:(x.Kind==10)=false:=beq_eq_false_iff_ne.2 h10;simp only[e10,b1,Bool.false_eq_true,if_false,Bool.false_or,Bool.true_or,Bool.true_and];generalize (x.Kind==2)=k2;generalize (x.Kind==3)=k3;generalize (x.Kind==4)=k4;generalize (x.Kind==5)=k5;generalize (x.Kind==6)=k6;generalize (x.Kind==7)=k7;generalize (x.Name==[])=a1;generalize (x.Text==[])=a2;generalize (x.N==0)=a3;generalize (x.N==1)=a8;generalize zl x.L=a4;generalize zl x.Then=a5;generalize zl x.Else=a6;generalize Qgd x.Name=n1;generalize Qd8 x.Name=n2;generalize (x.L.length==1)=l1;generalize decide (x.L.length≤3)=l3;generalize Qbf x.L=ex;cases k2
  ·cases k3
   ·cases k4
    ·cases k5
     ·cases k6
      ·cases k7
       ·rfl
       ·cases n2<;>rfl
      ·cases n1<;>(try rfl)<;>cases l3<;>(try rfl)<;>cases ex<;>rfl
     ·cases n2<;>(try rfl)<;>cases l1<;>(try rfl)<;>cases ex<;>rfl
    ·cases n1<;>rfl
   ·cases a3<;>(try rfl)<;>cases a8<;>rfl
  ·rfl
def litB:List Qab→Bool
 | []=>false
 | x::_=>x.Kind==8
def Q9e(x:Qab)(r:List Qab)(inn:Bool):Bool:=x.Kind==8&&(litB r||((!r.isEmpty||inn)&&endB x.Text))
mutual
def Qmg:Qab→Bool
 | ⟨k,s,t,n,a,b,c⟩ =>
  if k==8 then !(t==[])&&(!(hasB t)&&(s==[]&&(n==0&&(zl a&&(zl b&&zl c))))) else
  if k==9 then(a.length==1&&Qbf a)&&(s==[]&&(t==[]&&(n==0&&(zl b&&zl c)))) else
  if k==10 then(a.length==1&&Qbf a)&&((Qb0 b true&&Qb0 c true)&&(s==[]&&(t==[]&&n==0))) else
  if k==11||k==12 then Qgd s&&((a.length==1&&Qbf a)&&(Qb0 b true&&(t==[]&&(n==0&&zl c)))) else
  if k==13 then Qgd s&&((a.length==1&&Qbf a)&&(t==[]&&(n==0&&(zl b&&zl c)))) else false
def Qb0:List Qab→Bool→Bool
 | [],_=>true
 | x::r,inn=>Qmg x&&(!(Q9e x r inn)&&Qb0 r inn)
end
theorem Qn9(x:Qab):Qmg x =
  if x.Kind==8 then !(x.Text==[])&&(!(hasB x.Text)&&(x.Name==[]&&(x.N==0&&(zl x.L&&(zl x.Then&&zl x.Else))))) else
  if x.Kind==9 then(x.L.length==1&&Qbf x.L)&&(x.Name==[]&&(x.Text==[]&&(x.N==0&&(zl x.Then&&zl x.Else)))) else
  if x.Kind==10 then(x.L.length==1&&Qbf x.L)&&((Qb0 x.Then true&&Qb0 x.Else true)&&(x.Name==[]&&(x.Text==[]&&x.N==0))) else
  if x.Kind==11||x.Kind==12 then Qgd x.Name&&((x.L.length==1&&Qbf x.L)&&(Qb0 x.Then true&&(x.Text==[]&&(x.N==0&&zl x.Else)))) else
  if x.Kind==13 then Qgd x.Name&&((x.L.length==1&&Qbf x.L)&&(x.Text==[]&&(x.N==0&&(zl x.Then&&zl x.Else)))) else false:=by cases x; rw[Qmg]
theorem Qdt{l:List Qab}(h:zl l=true):l=[]:=List.eq_nil_of_length_eq_zero (by simpa [zl] using h)
theorem Qho(b:Bool):Qb0 [] b=true:=by rw[Qb0]
theorem Qagr{x:Qab}(h:Qmg x=true)(hk:x.Kind=8):(x.Text==[])=false:=by
 rw[Qn9,hk] at h;simp only[beq_self_eq_true,if_true] at h;cases ht:(x.Text==[]) with
 | false=>rfl
 | true=>rw[ht] at h; cases h
theorem Qanv(k n:Nat)(hk:k<n)(hn:n<9223372036854775807):((k:Int)==wr ((n:Int)-1))=(k+1==n):=by
 have e:wr ((n:Int)-1)=((n-1:Nat):Int):=by rw[Qd6 (by omega) (by omega)]; omega
 rw[e,eqN];by_cases h:k+1=n
 ·rw[beq_iff_eq.2 h,beq_iff_eq.2 (by omega)]
 ·rw[beq_eq_false_iff_ne.2 h,beq_eq_false_iff_ne.2 (by omega)]
theorem Qale{l:List Qab}{k:Nat}(hk:k<l.length):(l.drop (k+1)).isEmpty=(k+1==l.length):=by
 by_cases h:k+1=l.length
 ·rw[List.drop_eq_nil_of_le (by omega),beq_iff_eq.2 h]; rfl
 ·rw[beq_eq_false_iff_ne.2 h,Qcm (by omega:k+1<l.length)]; rfl
theorem Qalf(l:List Qab)(k:Nat)(h:k+1<l.length):litB (l.drop (k+1))=(l[k+1].Kind==8):=by
 rw[Qcm h]; rfl
section
end
section
variable (n:Nat) (hn:n<900000000) (ih:∀ x:Qab,nn x≤n→allN okNd x→Qwc x=some (Qmg x))
include hn ih
theorem Qalg(l:List Qab)(h:nns l≤n)(ho:allL okNd l)(inn:Bool):∀ k,k≤l.length→Qgz l inn k=some (if Qb0 (l.drop k) inn then .inl () else .inr ()):=by
 have hl:=Qkl l;refine upto ?_ fun k hk ihk=>?_
 ·rw[Qgz]; simp[Qb0]
 ·have hx:=Qg4 (List.getElem_mem hk);have ha:=Qh1 (List.getElem_mem hk) ho;have htx:=((Qig okNd l[k]).1 ha).1.tx;rw[Qgz,Qbp (by omega),ihk];simp only[ltI,hk,decide_true,if_true,Qbu,getE hk,Qac,ih l[k] (by omega) ha,Qanv k l.length hk (by omega)];rw[Qcm hk,Qb0,Q9e];rw[Qale hk];cases hs:Qmg l[k] with
  | false=>rfl
  | true =>
   cases h8:(l[k].Kind==8) with
   | false =>
    have:(l[k].Kind != 8)=true:=by rw[bne,h8]; rfl
    rw[this];simp
   | true =>
    have h8' : (l[k].Kind != 8)=false:=by rw[bne,h8]; rfl
    rw[h8', rEnd l[k].Text (by omega) (Qagr hs (by simpa using h8))];by_cases hlast:k+1=l.length
    ·have e1:(k+1==l.length)=true:=beq_iff_eq.2 hlast;have e2:litB (l.drop (k+1))=false:=by rw[List.drop_eq_nil_of_le (by omega)]; rfl
     rw[e1,e2];cases inn<;>cases endB l[k].Text<;>simp
    ·have e1:(k+1==l.length)=false:=beq_eq_false_iff_ne.2 hlast;have hk1:k+1<l.length:=by omega
     rw[e1,Qalf l k hk1,getE hk1];simp only[Qac];cases (l[k+1].Kind==8)<;>cases endB l[k].Text<;>cases inn<;>simp
theorem Qags(l:List Qab)(h:nns l≤n)(ho:allL okNd l)(inn:Bool):Qjn l inn=some (Qb0 l inn):=by
 have:=Qalg n hn ih l h ho inn 0 (by omega);rw[Qjn,show(0:Int)=((0:Nat):Int) from rfl,this,List.drop_zero];cases Qb0 l inn<;>rfl
end
theorem Qanw:∀ n (x:Qab),n<900000000→nn x≤n→allN okNd x→Qwc x=some (Qmg x):=by
 intro n
 induction n with
 | zero=>intro x _ h; have:=Qj3 x; omega
 | succ n ih =>
  intro x hb h ho;rw[Qgn] at h;obtain⟨hq,ho1,ho2,ho3⟩:=(Qig okNd x).1 ho;have hnm:=hq.nm;have htx:=hq.tx;have hll:=Qkl x.L;have ih' := fun y=>ih y (by omega)
  have t1:=Qags n (by omega) ih' x.Then (by omega) ho2 true;have t2:=Qags n (by omega) ih' x.Else (by omega) ho3 true;have hex:=Qaj6 n (fun y hy=>Qanu n y (by omega) hy) x.L (by omega) ho1 (by omega);rw[Qwc,Qn9,Qak9 x.Name (by omega),Qalc x.Text (by omega),t1,t2,hex];simp only[Qac,oneI,Qamk,Qai9];have e1:(if(x.L.length==1)=true then some (Qbf x.L) else some false:Option Bool)=some (x.L.length==1&&Qbf x.L):=by cases (x.L.length==1)<;>rfl
  rw[e1];simp only[Qac];generalize (x.L.length==1&&Qbf x.L)=one;by_cases k8:x.Kind=8
  ·have e10:(x.Kind==10)=false:=beq_eq_false_iff_ne.2 (by omega);simp only[e10];simp only[k8,beq_self_eq_true,if_true];generalize (x.Name==[])=a1;generalize (x.Text==[])=a2;generalize (x.N==0)=a3;generalize zl x.L=a4;generalize zl x.Then=a5;generalize zl x.Else=a6;generalize hasB x.Text=hh;cases a2<;>(try rfl)<;>cases hh<;>(try rfl)<;>cases a1<;>(try rfl)<;>cases a3<;>rfl
  have b8:(x.Kind==8)=false:=beq_eq_false_iff_ne.2 k8;simp only[b8,Bool.false_eq_true,if_false];by_cases k10:x.Kind=10
  ·simp only[k10,beq_self_eq_true,if_true,show((10:Int)==9)=false from rfl,Bool.false_eq_true,if_false];generalize (x.Name==[])=a1;generalize (x.Text==[])=a2;generalize (x.N==0)=a3;generalize Qb0 x.Then true=bt;generalize Qb0 x.Else true=be;generalize zl x.L=a4;generalize zl x.Then=a5;generalize zl x.Else=a6;cases one<;>(try rfl)<;>cases bt<;>(try rfl)<;>cases be<;>(try rfl)<;>cases a1<;>(try rfl)<;>cases a2<;>(try rfl)<;>cases a3<;>rfl
  have b10:(x.Kind==10)=false:=beq_eq_false_iff_ne.2 k10;simp only[b10,Bool.false_eq_true,if_false];have e11:(if(x.Kind==11)=true then some (x.Kind==11) else some (x.Kind==12):Option Bool)=some (x.Kind==11||x.Kind==12):=by cases (x.Kind==11)<;>rfl
  rw[e11];simp only[Qac];have nw:Qgd x.Name=true→(x.Name==[])=false:=fun h=>Qala (Qni h)
  generalize (x.Kind==9)=k9;generalize (x.Kind==11||x.Kind==12)=k11;generalize (x.Kind==13)=k13;generalize (x.Name==[])=a1;generalize Qgd x.Name=nm;generalize (x.Text==[])=a2;generalize (x.N==0)=a3;generalize Qb0 x.Then true=bt;generalize Qb0 x.Else true=be;generalize zl x.L=a4;generalize zl x.Then=a5;generalize zl x.Else=a6;cases k9
  ·cases k11
   ·cases k13
    ·rfl
    ·cases nm<;>(try rfl)<;>cases one<;>(try rfl)<;>cases a2<;>(try rfl)<;>cases a3<;>rfl
   ·cases nm<;>(try rfl)<;>cases one<;>(try rfl)<;>cases bt<;>(try rfl)<;>cases a2<;>(try rfl)<;>cases a3<;>rfl
  ·cases one<;>(try rfl)<;>cases a1<;>(try rfl)<;>cases a2<;>(try rfl)<;>cases a3<;>rfl
def maxD(l:List (Qab×Int))(m:Int):Int:=l.foldl (fun m x=>if x.2>m then x.2 else m) m
theorem Qzi(a b:List (Qab×Int))(m:Int):maxD (a++b) m=maxD b (maxD a m):=by unfold maxD; rw[List.foldl_append]
theorem Qaj7(x1:List Qab×Int):∀ (l:List (Qab×Int)) (m:Int),Qfe x1 l m=some (maxD l m)
 | [],m=>by rw[Qfe]; rfl
 | x::r,m=>by rw[Qfe,Qaj7 x1 r]; rfl
theorem Qagt(x1:List Qab×Int):∀ (l:List (Qab×Int)) (m:Nat),m+l.length<9223372036854775807→Qel x1 l m=some ((m+l.length:Nat):Int)
 | [],m,_=>by rw[Qel]; rfl
 | x::r,m,h=>by
  simp at h;rw[Qel,Qbp (by omega),Qagt x1 r (m+1) (by omega)];simp; omega
theorem Qaja(p0:List Qab)(p1 v12:Int)(x3:Qab)(v28:Int)(x7:List Qab×Int):∀ l:List (Qab×Int),Qem p0 p1 v12 x3 v28 x7 l=some (l,())
 | []=>by rw[Qem]
 | x::r=>by
  obtain⟨⟨k,s,t,n,a,b,c⟩,d⟩:=x;rw[Qem,Qaja p0 p1 v12 x3 v28 x7 r]; rfl
def Qajb(d:Nat)(k dep:Nat)(o:Option (List (Qab×Int)×Unit)):Prop:=∃ out,o=some (out,())∧out.length=k∧∀ m:Int,(d:Int)-1≤m→maxD out m=max m ((d:Int)-1+dep)
section
variable (n:Nat) (ih:∀ (l:List Qab) (d:Nat),nns l≤n→n+d≤1000000000→Qajb d (nns l) (dps l) (Qf7 l d))
include ih
theorem Qanx(l:List Qab)(d:Nat)(v:Int)(x:Qab)(hx:nn x≤n+1)(hd:n+1+d≤1000000000) :
  Qajb (d+1) (nns x.L+nns x.Then+nns x.Else) (max (dps x.L) (max (dps x.Then) (dps x.Else))) (Qcq l d v x 0):=by
 rw[Qgn] at hx;have ed:wr ((d:Int)+1)=((d+1:Nat):Int):=Qbp (by omega);obtain⟨o1,a1,a2,a3⟩:=ih x.L (d+1) (by omega) (by omega);obtain⟨o2,b1,b2,b3⟩:=ih x.Then (d+1) (by omega) (by omega);obtain⟨o3,c1,c2,c3⟩:=ih x.Else (d+1) (by omega) (by omega);have s3:Qcq l d v x 3=some ([],()):=by rw[Qcq]; rfl
 have s2:Qcq l d v x 2=some (o3++[],()):=by
  rw[Qcq];have e:wr ((2:Int)+1)=3:=by rw[Qd6 (by omega) (by omega)]; rfl
  have g:idx ([x.L,x.Then,x.Else]:List (List Qab)) 2=some x.Else:=Qaau _ 2;rw[g,e,s3];simp only[Qac,Qkx,ed,c1,Qaja,show decide ((2:Int)<3)=true from rfl,if_true]
 have s1:Qcq l d v x 1=some (o2++(o3++[]),()):=by
  rw[Qcq];have e:wr ((1:Int)+1)=2:=by rw[Qd6 (by omega) (by omega)]; rfl
  have g:idx ([x.L,x.Then,x.Else]:List (List Qab)) 1=some x.Then:=Qaau _ 1;rw[g,e,s2];simp only[Qac,Qkx,ed,b1,Qaja,show decide ((1:Int)<3)=true from rfl,if_true]
 have s0:Qcq l d v x 0=some (o1++(o2++(o3++[])),()):=by
  rw[Qcq];have e:wr ((0:Int)+1)=1:=by rw[Qd6 (by omega) (by omega)]; rfl
  have g:idx ([x.L,x.Then,x.Else]:List (List Qab)) 0=some x.L:=Qaau _ 0;rw[g,e,s1];simp only[Qac,Qkx,ed,a1,Qaja,show decide ((0:Int)<3)=true from rfl,if_true]
 refine⟨_,s0,by simp; omega,fun m hm=>?_⟩;rw[List.append_nil,Qzi,Qzi,a3 m hm,b3 _ (by omega),c3 _ (by omega)];omega
theorem Qany(l:List Qab)(d:Nat)(hl:nns l≤n+1)(hd:n+1+d≤1000000000):∀ k,k≤l.length→Qajb d (nns (l.drop k)) (dps (l.drop k)) (Qft l d k):=by
 have hlen:=Qkl l;refine upto ?_ fun k hk ihk=>?_
 ·rw[Qft,List.drop_length];refine⟨[],by simp,by simp[nns],fun m hm=>?_⟩;simp[maxD,dps]; omega
 ·have hx:=Qg4 (List.getElem_mem hk);obtain⟨o1,a1,a2,a3⟩:=Qanx n ih l d k l[k] (by omega) hd;obtain⟨o2,b1,b2,b3⟩:=ihk;rw[Qft,Qbp (by omega)];simp only[ltI,hk,decide_true,if_true,Qbu,getE hk,Qac,a1,b1];rw[Qcm hk];refine⟨_,rfl,?_,fun m hm=>?_⟩
  ·simp[nns,Qgn,a2,b2]; omega
  ·show maxD ([(l[k],(d:Int))]++(o1++o2)) m=_;have e0:maxD [(l[k],(d:Int))] m=max m d:=by
    show(if(d:Int)>m then(d:Int) else m)=_;split<;>omega
   rw[Qzi,Qzi,e0,a3 _ (by omega),b3 _ (by omega),dps,Qai6];omega
end
theorem tAll:∀ n (l:List Qab) (d:Nat),nns l≤n→n+d≤1000000000→Qajb d (nns l) (dps l) (Qf7 l d):=by
 intro n
 induction n with
 | zero =>
  intro l d h _;have hl:l=[]:=List.eq_nil_of_length_eq_zero (by have:=Qkl l; omega);subst hl;rw[Qf7,Qft];refine⟨[],by simp,by simp[nns],fun m hm=>?_⟩;simp[maxD,dps]; omega
 | succ n ih =>
  intro l d h hd;obtain⟨o,a1,a2,a3⟩:=Qany n ih l d h hd 0 (by omega);rw[List.drop_zero] at a2 a3;refine⟨o,?_,a2,a3⟩;rw[Qf7,show(0:Int)=((0:Nat):Int) from rfl,a1];simp
theorem Qanz(l:List Qab)(h:nns l≤900000000):Qsn l=some (dps l:Int):=by
 obtain⟨o,a1,a2,a3⟩:=tAll 900000000 l 1 h (by omega);rw[Qsn,Qkx];simp only[Qac];rw[show(1:Int)=((1:Nat):Int) from rfl,a1];simp only[Qac,Qaj7];rw[a3 0 (by omega)];congr 1;omega
theorem Qaml(l:List Qab)(h:nns l≤900000000):Qpi l=some (nns l:Int):=by
 obtain⟨o,a1,a2,a3⟩:=tAll 900000000 l 1 h (by omega);have:=Qagt (l,((1:Nat):Int)) o 0 (by omega);rw[Qpi,Qkx];simp only[Qac];rw[show(1:Int)=((1:Nat):Int) from rfl,a1];simp only[Qac];rw[show(0:Int)=((0:Nat):Int) from rfl,this];simp[a2]
theorem Qagu:∀ m (l:List Qab),nns l≤m→dps l≤nns l:=by
 intro m
 induction m with
 | zero =>
  intro l h;have hl:l=[]:=List.eq_nil_of_length_eq_zero (by have:=Qkl l; omega);subst hl; simp[dps]
 | succ m ihm =>
  intro l
  induction l with
  | nil=>intro _; simp[dps]
  | cons x r ihr =>
   intro h;rw[nns,Qgn] at h;have h1:=ihm x.L (by omega);have h2:=ihm x.Then (by omega);have h3:=ihm x.Else (by omega);have h4:=ihr (by omega);rw[dps,Qai6,nns,Qgn];omega
section
variable (n:Nat) (hn:n≤900000000) (ih:∀ l:List Qab,nns l≤n→Qhy l=some (dps l:Int)∧Qfy l=some (nns l:Int))
include hn ih
theorem Qamm(l:List Qab)(h:nns l≤n+1):∀ k,k≤l.length→∀ v:Nat,v≤1000000000→Qie l v k=some ((max v (dps (l.drop k)):Nat):Int):=by
 have hl:=Qkl l;refine upto ?_ fun k hk ihk=>?_
 ·intro v _; rw[Qie]; simp[dps]
 ·intro v hv;have hx:=Qg4 (List.getElem_mem hk);rw[Qgn] at hx;have d1:=Qagu _ l[k].L (Nat.le_refl _);have d2:=Qagu _ l[k].Then (Nat.le_refl _);have d3:=Qagu _ l[k].Else (Nat.le_refl _);have em:(if(dps l[k].Else:Int)>(if(dps l[k].Then:Int)>(dps l[k].L:Int) then(dps l[k].Then:Int) else(dps l[k].L:Int)) then(dps l[k].Else:Int) else(if(dps l[k].Then:Int)>(dps l[k].L:Int) then(dps l[k].Then:Int) else(dps l[k].L:Int)))=((max (dps l[k].L) (max (dps l[k].Then) (dps l[k].Else)):Nat):Int):=by
   split<;>split at * <;> omega
  rw[Qie,Qbp (by omega)];simp only[ltI,hk,decide_true,if_true,Qbu,getE hk,Qac,(ih l[k].L (by omega)).1,(ih l[k].Then (by omega)).1,(ih l[k].Else (by omega)).1];rw[em];have ew:wr (1+((max (dps l[k].L) (max (dps l[k].Then) (dps l[k].Else)):Nat):Int))=((dp l[k]:Nat):Int):=by
   rw[Qd6 (by omega) (by omega),Qai6]; omega
  rw[ew];have ei:(if((dp l[k]:Nat):Int)>(v:Int) then((dp l[k]:Nat):Int) else(v:Int))=((max v (dp l[k]):Nat):Int):=by split<;>omega
  have hdp:dp l[k]≤1000000000:=by rw[Qai6]; omega
  rw[ei,ihk (max v (dp l[k])) (by omega),Qcm hk,dps];congr 2;omega
theorem Qalh(l:List Qab)(h:nns l≤n+1):∀ k,k≤l.length→∀ v:Nat,v+nns (l.drop k)≤1000000000→Qgy l v k=some ((v+nns (l.drop k):Nat):Int):=by
 have hl:=Qkl l;refine upto ?_ fun k hk ihk=>?_
 ·intro v _; rw[Qgy]; simp[nns]
 ·intro v hv;have hx:=Qg4 (List.getElem_mem hk);rw[Qgn] at hx;rw[Qcm hk,nns,Qgn] at hv;rw[Qgy,Qbp (i:=k) (by omega)];simp only[ltI,hk,decide_true,if_true,Qbu,getE hk,Qac,(ih l[k].L (by omega)).2,(ih l[k].Then (by omega)).2,(ih l[k].Else (by omega)).2];have ew:wr ((wr ((wr ((wr ((v:Int)+1))+(nns l[k].L:Int)))+(nns l[k].Then:Int)))+(nns l[k].Else:Int))=((v+nn l[k]:Nat):Int):=by
   rw[Qd6 (n:=(v:Int)+1) (by omega) (by omega),Qd6 (n:=(v:Int)+1+(nns l[k].L:Int)) (by omega) (by omega),Qd6 (n:=(v:Int)+1+(nns l[k].L:Int)+(nns l[k].Then:Int)) (by omega) (by omega),Qd6 (by omega) (by omega),Qgn];omega
  rw[ew,ihk (v+nn l[k]) (by rw[Qgn]; omega),Qcm hk,nns];congr 2;omega
end
theorem rDC:∀ n (l:List Qab),n≤900000000→nns l≤n→Qhy l=some (dps l:Int)∧Qfy l=some (nns l:Int):=by
 intro n
 induction n with
 | zero =>
  intro l _ h;have hl:l=[]:=List.eq_nil_of_length_eq_zero (by have:=Qkl l; omega);subst hl;rw[Qhy,Qfy,Qie,Qgy];simp[dps,nns]
 | succ n ih =>
  intro l hn h;have h1:=Qamm n (by omega) (fun l hl=>ih l (by omega) hl) l h 0 (by omega) 0 (by omega);have h2:=Qalh n (by omega) (fun l hl=>ih l (by omega) hl) l h 0 (by omega) 0 (by rw[List.drop_zero]; omega);rw[Qhy,Qfy,show(0:Int)=((0:Nat):Int) from rfl,h1,h2];simp
def isP (l:List Qab):Bool:=decide (dps l≤12)&&(decide (nns l≤1024)&&Qb0 l false)
theorem rIs(l:List Qab)(h:nns l≤800000000)(ho:allL okNd l):Q86 l=some (isP l):=by
 have e1:decide ((dps l:Int)≤12)=decide (dps l≤12):=leN _ 12;have e2:decide ((nns l:Int)≤1024)=decide (nns l≤1024):=leN _ 1024;have hb:=Qags 800000000 (by omega) (fun x hx=>Qanw 800000000 x (by omega) hx) l h ho false;obtain⟨hd,hc⟩:=rDC 800000000 l (by omega) h;rw[Q86,hd,hc,hb,isP];simp only[Qac,e1,e2];cases decide (dps l≤12)<;>cases decide (nns l≤1024)<;>cases Qb0 l false<;>rfl
abbrev Tk0:Qaa:=⟨0,[],0,0,0⟩
def hd(l:List Qaa):Qaa:=l.headD Tk0
def kd(l:List Qaa):Int:=(hd l).Kind
@[simp] theorem Qaop:hd []=Tk0:=rfl
@[simp] theorem Qagv (t:Qaa) (r:List Qaa):hd (t::r)=t:=rfl
@[simp] theorem Qamn:kd []=0:=rfl
@[simp] theorem Qali (t:Qaa) (r:List Qaa):kd (t::r)=t.Kind:=rfl
inductive Rs (α : Type) where
 | ok (x : α) (l:List Qaa)
 | bad (l:List Qaa)
def Rs.bind{α β : Type}(r:Rs α)(f : α → List Qaa→Rs β):Rs β := match r with
 | .ok x l=>f x l
 | .bad l =>.bad l
def isW(w:List UInt8)(l:List Qaa):Bool:=kd l==4&&(hd l).Text==w
def want(k:Int)(l:List Qaa):Rs Qaa:=if kd l=k then .ok (hd l) l.tail else .bad l
def Qqh(w:List UInt8)(l:List Qaa):Rs Unit:=if isW w l=true then .ok () l.tail else .bad l
def Qhp(l:List Qaa):Rs (List UInt8):=if kd l=4∧Qgd (hd l).Text=true then .ok (hd l).Text l.tail else .bad l
def endW(w:List UInt8)(l:List Qaa):Rs Unit:=(want 2 l).bind fun _ l1=>(Qqh w l1).bind fun _ l2=>(want 3 l2).bind fun _ l3 =>.ok () l3
def Qdh(w:List UInt8)(l:List Qaa):Bool:=kd l==2&&isW w l.tail
abbrev wIf:List UInt8:=[105,102]
abbrev Qe8:List UInt8:=[101,108,115,101]
abbrev wEnd:List UInt8:=[101,110,100]
abbrev Qy1:List UInt8:=[101,97,99,104]
abbrev wIn:List UInt8:=[105,110]
abbrev wLet:List UInt8:=[108,101,116]
abbrev wUse:List UInt8:=[117,115,101]
abbrev Qaem:List UInt8:=[116,114,117,101]
abbrev Q1n:List UInt8:=[102,97,108,115,101]
abbrev Qso:List UInt8:=[115,101,99,114,101,116]
def Qly(l:List Qaa):Rs Qab:=(want 8 l).bind fun _ l1 =>
 if kd l1=5∧Qd8 (hd l1).Text=true then(want 9 l1.tail).bind fun _ l2 =>.ok ⟨7,(hd l1).Text,[],0,[],[],[]⟩ l2 else .bad l1
def Qmh(E:List Qaa→Rs Qab)(l:List Qaa):Rs (List Qab) :=
 if kd l=9 then .ok [] l.tail else(E l).bind fun x1 l1 =>
  if kd l1=10 then(E l1.tail).bind fun x2 l2 =>
   if kd l2=10 then(E l2.tail).bind fun x3 l3=>(want 9 l3).bind fun _ l4 =>.ok [x1,x2,x3] l4
   else(want 9 l2).bind fun _ l4 =>.ok [x1,x2] l4
  else(want 9 l1).bind fun _ l4 =>.ok [x1] l4
def Qen(E:List Qaa→Rs Qab)(l:List Qaa):Rs Qab :=
 if kd l=5 then .ok ⟨1,[],(hd l).Text,0,[],[],[]⟩ l.tail
 else if kd l=6 then .ok ⟨2,[],[],(hd l).N,[],[],[]⟩ l.tail
 else if isW Qaem l=true then .ok ⟨3,[],[],1,[],[],[]⟩ l.tail
 else if isW Q1n l=true then .ok ⟨3,[],[],0,[],[],[]⟩ l.tail
 else if isW Qso l=true then Qly l.tail
 else(Qhp l).bind fun s l1=>if kd l1=8 then(Qmh E l1.tail).bind fun xs l2 =>.ok ⟨6,s,[],0,xs,[],[]⟩ l2 else .ok ⟨4,s,[],0,[],[],[]⟩ l1
def Qlz:Nat→Qab→List Qaa→Rs Qab
 | 0,x,l =>.ok x l
 | n+1,x,l=>if kd l=7 then(want 4 l.tail).bind fun t l2=>Qlz n ⟨5,t.Text,[],0,[x],[],[]⟩ l2 else .ok x l
def Qmi:Nat→List Qaa→Rs Qab
 | 0,l =>.bad l
 | f+1,l=>(Qen (Qmi f) l).bind fun x l1=>Qlz l1.length x l1
def ex20(l:List Qaa):Rs Qab:=Qmi (l.length+1) l
def Qdl(l:List Qaa):Rs Qab:=(ex20 l).bind fun x l1=>(want 3 l1).bind fun _ l2 =>.ok x l2
def Qj5(out:List Qab)(s:List UInt8):List Qab:=match out.getLast? with
 | some x=>if x.Kind=8 then out.set (out.length-1) ⟨x.Kind,x.Name,x.Text++s,x.N,x.L,x.Then,x.Else⟩ else out++[⟨8,[],s,0,[],[],[]⟩]
 | none=>out++[⟨8,[],s,0,[],[],[]⟩]
def actR(B:Bool→Bool→List Qaa→Rs (List Qab))(l:List Qaa):Rs Qab :=
 if isW wIf l=true then(Qdl l.tail).bind fun x l1=>(B true true l1).bind fun y l2 =>
  if Qdh Qe8 l2=true then(endW Qe8 l2).bind fun _ l3=>(B true false l3).bind fun z l4=>(endW wEnd l4).bind fun _ l5 =>.ok ⟨10,[],[],0,[x],y,z⟩ l5
  else(endW wEnd l2).bind fun _ l5 =>.ok ⟨10,[],[],0,[x],y,[]⟩ l5
 else if isW Qy1 l=true then(Qhp l.tail).bind fun s l1=>(Qqh wIn l1).bind fun _ l2=>(Qdl l2).bind fun x l3=>(B true false l3).bind fun y l4=>(endW wEnd l4).bind fun _ l5 =>.ok ⟨11,s,[],0,[x],y,[]⟩ l5
 else if isW wLet l=true then(Qhp l.tail).bind fun s l1=>(want 11 l1).bind fun _ l2=>(Qdl l2).bind fun x l3=>(B true false l3).bind fun y l4=>(endW wEnd l4).bind fun _ l5 =>.ok ⟨12,s,[],0,[x],y,[]⟩ l5
 else if isW wUse l=true then(Qhp l.tail).bind fun s l1=>(Qdl l1).bind fun x l2 =>.ok ⟨13,s,[],0,[x],[],[]⟩ l2
 else(Qdl l).bind fun x l2 =>.ok ⟨9,[],[],0,[x],[],[]⟩ l2
def Qd9:Nat→Bool→Bool→List Qab→List Qaa→Rs (List Qab)
 | 0,_,_,_,l =>.bad l
 | f+1,i,o,out,l=>if l=[] then .ok out l else
  if kd l=1 then Qd9 f i o (Qj5 out (hd l).Text) l.tail
  else if((i&&Qdh wEnd l)||(o&&Qdh Qe8 l))=true then .ok out l
  else if kd l=2 then
   (if kd l.tail=3 then Qd9 f i o out l.tail.tail else(actR (fun i o l=>Qd9 f i o [] l) l.tail).bind fun x l2=>Qd9 f i o (out++[x]) l2)
  else .bad l
def bl20(i o:Bool)(l:List Qaa):Rs (List Qab):=Qd9 (l.length+1) i o [] l
end Go.Proofs.YtagokkpnfceidaaGreatDoor
end
