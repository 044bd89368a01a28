/- The proof's texts, part 8 of 12: the walks by a logic in which data are by value, the plain laws, and at the end the law, for every input. -/
import Derived.Test.YtagokkpnfceidaaGreatDoorMgParseTrees7

noncomputable section
set_option linter.unusedVariables false
set_option linter.unusedSimpArgs false
set_option maxRecDepth 100000
set_option maxHeartbeats 4000000
namespace Go.Proofs.YtagokkpnfceidaaGreatDoor
open Go.RowKit
theorem Qda:∀ (p0:Qab) (p1:Bool) (p2:Bool) (p3:Bool) (p4:Bool) (p5:Bool) (o:Bool),Qd6 p0 p1 p2 p3 p4 p5=some o→PCall Tryz.prog 99 [.agg [iV p0.Kind,sV p0.Name,sV p0.Text,iV p0.N,.sl false (p0.L.map Qae),.sl false (p0.Then.map Qae),.sl false (p0.Else.map Qae)],bV p1,bV p2,bV p3,bV p4,bV p5] (Qc8 o):=by
 intro p0 p1 p2 p3 p4 p5 o h;unfold Qd6 at h;refine PCall.ofB mixed tbOk Q9v Tryz.func99 rfl (by kernel_rfl) (Nat.le_of_ble_eq_true rfl) ?_;refine Qag h (fun o1 ho hk=>?_);refine Exists.intro (JP1 _ _ o1 .normal (Q32 p0)) (And.intro ?_ (Qa5 ?_))
 ·have h:=ho;refine Qaf h (fun hb h=>?_) (fun hb h=>?_)
  ·refine bT ?_;refine Qaf h (fun hb h=>?_) (fun hb h=>?_)
   ·refine bT ?_;refine Qaf h (fun hb h=>?_) (fun hb h=>?_)
    ·refine bT ?_;refine Qaf h (fun hb h=>?_) (fun hb h=>?_)
     ·refine bT ?_;refine Qaf h (fun hb h=>?_) (fun hb h=>?_)
      ·refine bT ?_;refine Qaf h (fun hb h=>?_) (fun hb h=>?_)
       ·refine JP1.a h ?_;exact Le.tz 1 0 rfl rfl rfl
       ·refine view (Qaw _ _) rfl ?_;refine JP1.a h ?_;exact Le.tz 1 0 rfl rfl rfl
      ·refine view (Qaw _ _) rfl ?_;refine Qaf h (fun hb h=>?_) (fun hb h=>?_)
       ·refine Qaf h (fun hb h=>?_) (fun hb h=>?_)
        ·refine JP1.a h ?_;exact Le.tz 1 0 rfl rfl rfl
        ·refine view (Qaw _ _) rfl ?_;refine JP1.a h ?_;exact Le.tz 1 0 rfl rfl rfl
       ·refine JP1.a h ?_;exact Le.tz 1 0 rfl rfl rfl
     ·refine view (Qaw _ _) rfl ?_;refine Qaf h (fun hb h=>?_) (fun hb h=>?_)
      ·refine Qaf h (fun hb h=>?_) (fun hb h=>?_)
       ·refine bT ?_;refine Qaf h (fun hb h=>?_) (fun hb h=>?_)
        ·refine JP1.a h ?_;exact Le.tz 1 0 rfl rfl rfl
        ·refine view (Qaw _ _) rfl ?_;refine JP1.a h ?_;exact Le.tz 1 0 rfl rfl rfl
       ·refine view (Qaw _ _) rfl ?_;refine Qaf h (fun hb h=>?_) (fun hb h=>?_)
        ·refine Qaf h (fun hb h=>?_) (fun hb h=>?_)
         ·refine JP1.a h ?_;exact Le.tz 1 0 rfl rfl rfl
         ·refine view (Qaw _ _) rfl ?_;refine JP1.a h ?_;exact Le.tz 1 0 rfl rfl rfl
        ·refine JP1.a h ?_;exact Le.tz 1 0 rfl rfl rfl
      ·refine bF ?_;refine JP1.a h ?_;exact Le.tz 1 0 rfl rfl rfl
    ·refine Qaf h (fun hb h=>?_) (fun hb h=>?_)
     ·refine Qaf h (fun hb h=>?_) (fun hb h=>?_)
      ·refine bT ?_;refine Qaf h (fun hb h=>?_) (fun hb h=>?_)
       ·refine bT ?_;refine Qaf h (fun hb h=>?_) (fun hb h=>?_)
        ·refine JP1.a h ?_;exact Le.tz 1 0 rfl rfl rfl
        ·refine view (Qaw _ _) rfl ?_;refine JP1.a h ?_;exact Le.tz 1 0 rfl rfl rfl
       ·refine view (Qaw _ _) rfl ?_;refine Qaf h (fun hb h=>?_) (fun hb h=>?_)
        ·refine Qaf h (fun hb h=>?_) (fun hb h=>?_)
         ·refine JP1.a h ?_;exact Le.tz 1 0 rfl rfl rfl
         ·refine view (Qaw _ _) rfl ?_;refine JP1.a h ?_;exact Le.tz 1 0 rfl rfl rfl
        ·refine JP1.a h ?_;exact Le.tz 1 0 rfl rfl rfl
      ·refine view (Qaw _ _) rfl ?_;refine Qaf h (fun hb h=>?_) (fun hb h=>?_)
       ·refine Qaf h (fun hb h=>?_) (fun hb h=>?_)
        ·refine bT ?_;refine Qaf h (fun hb h=>?_) (fun hb h=>?_)
         ·refine JP1.a h ?_;exact Le.tz 1 0 rfl rfl rfl
         ·refine view (Qaw _ _) rfl ?_;refine JP1.a h ?_;exact Le.tz 1 0 rfl rfl rfl
        ·refine view (Qaw _ _) rfl ?_;refine Qaf h (fun hb h=>?_) (fun hb h=>?_)
         ·refine Qaf h (fun hb h=>?_) (fun hb h=>?_)
          ·refine JP1.a h ?_;exact Le.tz 1 0 rfl rfl rfl
          ·refine view (Qaw _ _) rfl ?_;refine JP1.a h ?_;exact Le.tz 1 0 rfl rfl rfl
         ·refine JP1.a h ?_;exact Le.tz 1 0 rfl rfl rfl
       ·refine bF ?_;refine JP1.a h ?_;exact Le.tz 1 0 rfl rfl rfl
     ·refine bF ?_;refine bF ?_;refine JP1.a h ?_;exact Le.tz 1 0 rfl rfl rfl
   ·refine Qaf h (fun hb h=>?_) (fun hb h=>?_)
    ·refine Qaf h (fun hb h=>?_) (fun hb h=>?_)
     ·refine bT ?_;refine Qaf h (fun hb h=>?_) (fun hb h=>?_)
      ·refine bT ?_;refine Qaf h (fun hb h=>?_) (fun hb h=>?_)
       ·refine bT ?_;refine Qaf h (fun hb h=>?_) (fun hb h=>?_)
        ·refine JP1.a h ?_;exact Le.tz 1 0 rfl rfl rfl
        ·refine view (Qaw _ _) rfl ?_;refine JP1.a h ?_;exact Le.tz 1 0 rfl rfl rfl
       ·refine view (Qaw _ _) rfl ?_;refine Qaf h (fun hb h=>?_) (fun hb h=>?_)
        ·refine Qaf h (fun hb h=>?_) (fun hb h=>?_)
         ·refine JP1.a h ?_;exact Le.tz 1 0 rfl rfl rfl
         ·refine view (Qaw _ _) rfl ?_;refine JP1.a h ?_;exact Le.tz 1 0 rfl rfl rfl
        ·refine JP1.a h ?_;exact Le.tz 1 0 rfl rfl rfl
      ·refine view (Qaw _ _) rfl ?_;refine Qaf h (fun hb h=>?_) (fun hb h=>?_)
       ·refine Qaf h (fun hb h=>?_) (fun hb h=>?_)
        ·refine bT ?_;refine Qaf h (fun hb h=>?_) (fun hb h=>?_)
         ·refine JP1.a h ?_;exact Le.tz 1 0 rfl rfl rfl
         ·refine view (Qaw _ _) rfl ?_;refine JP1.a h ?_;exact Le.tz 1 0 rfl rfl rfl
        ·refine view (Qaw _ _) rfl ?_;refine Qaf h (fun hb h=>?_) (fun hb h=>?_)
         ·refine Qaf h (fun hb h=>?_) (fun hb h=>?_)
          ·refine JP1.a h ?_;exact Le.tz 1 0 rfl rfl rfl
          ·refine view (Qaw _ _) rfl ?_;refine JP1.a h ?_;exact Le.tz 1 0 rfl rfl rfl
         ·refine JP1.a h ?_;exact Le.tz 1 0 rfl rfl rfl
       ·refine bF ?_;refine JP1.a h ?_;exact Le.tz 1 0 rfl rfl rfl
     ·refine Qaf h (fun hb h=>?_) (fun hb h=>?_)
      ·refine Qaf h (fun hb h=>?_) (fun hb h=>?_)
       ·refine bT ?_;refine Qaf h (fun hb h=>?_) (fun hb h=>?_)
        ·refine bT ?_;refine Qaf h (fun hb h=>?_) (fun hb h=>?_)
         ·refine JP1.a h ?_;exact Le.tz 1 0 rfl rfl rfl
         ·refine view (Qaw _ _) rfl ?_;refine JP1.a h ?_;exact Le.tz 1 0 rfl rfl rfl
        ·refine view (Qaw _ _) rfl ?_;refine Qaf h (fun hb h=>?_) (fun hb h=>?_)
         ·refine Qaf h (fun hb h=>?_) (fun hb h=>?_)
          ·refine JP1.a h ?_;exact Le.tz 1 0 rfl rfl rfl
          ·refine view (Qaw _ _) rfl ?_;refine JP1.a h ?_;exact Le.tz 1 0 rfl rfl rfl
         ·refine JP1.a h ?_;exact Le.tz 1 0 rfl rfl rfl
       ·refine view (Qaw _ _) rfl ?_;refine Qaf h (fun hb h=>?_) (fun hb h=>?_)
        ·refine Qaf h (fun hb h=>?_) (fun hb h=>?_)
         ·refine bT ?_;refine Qaf h (fun hb h=>?_) (fun hb h=>?_)
          ·refine JP1.a h ?_;exact Le.tz 1 0 rfl rfl rfl
          ·refine view (Qaw _ _) rfl ?_;refine JP1.a h ?_;exact Le.tz 1 0 rfl rfl rfl
         ·refine view (Qaw _ _) rfl ?_;refine Qaf h (fun hb h=>?_) (fun hb h=>?_)
          ·refine Qaf h (fun hb h=>?_) (fun hb h=>?_)
           ·refine JP1.a h ?_;exact Le.tz 1 0 rfl rfl rfl
           ·refine view (Qaw _ _) rfl ?_;refine JP1.a h ?_;exact Le.tz 1 0 rfl rfl rfl
          ·refine JP1.a h ?_;exact Le.tz 1 0 rfl rfl rfl
        ·refine bF ?_;refine JP1.a h ?_;exact Le.tz 1 0 rfl rfl rfl
      ·refine bF ?_;refine bF ?_;refine JP1.a h ?_;exact Le.tz 1 0 rfl rfl rfl
    ·refine bF ?_;refine bF ?_;refine bF ?_;refine JP1.a h ?_;exact Le.tz 1 0 rfl rfl rfl
  ·refine Qaf h (fun hb h=>?_) (fun hb h=>?_)
   ·refine Qaf h (fun hb h=>?_) (fun hb h=>?_)
    ·refine bT ?_;refine Qaf h (fun hb h=>?_) (fun hb h=>?_)
     ·refine bT ?_;refine Qaf h (fun hb h=>?_) (fun hb h=>?_)
      ·refine bT ?_;refine Qaf h (fun hb h=>?_) (fun hb h=>?_)
       ·refine bT ?_;refine Qaf h (fun hb h=>?_) (fun hb h=>?_)
        ·refine JP1.a h ?_;exact Le.tz 1 0 rfl rfl rfl
        ·refine view (Qaw _ _) rfl ?_;refine JP1.a h ?_;exact Le.tz 1 0 rfl rfl rfl
       ·refine view (Qaw _ _) rfl ?_;refine Qaf h (fun hb h=>?_) (fun hb h=>?_)
        ·refine Qaf h (fun hb h=>?_) (fun hb h=>?_)
         ·refine JP1.a h ?_;exact Le.tz 1 0 rfl rfl rfl
         ·refine view (Qaw _ _) rfl ?_;refine JP1.a h ?_;exact Le.tz 1 0 rfl rfl rfl
        ·refine JP1.a h ?_;exact Le.tz 1 0 rfl rfl rfl
      ·refine view (Qaw _ _) rfl ?_;refine Qaf h (fun hb h=>?_) (fun hb h=>?_)
       ·refine Qaf h (fun hb h=>?_) (fun hb h=>?_)
        ·refine bT ?_;refine Qaf h (fun hb h=>?_) (fun hb h=>?_)
         ·refine JP1.a h ?_;exact Le.tz 1 0 rfl rfl rfl
         ·refine view (Qaw _ _) rfl ?_;refine JP1.a h ?_;exact Le.tz 1 0 rfl rfl rfl
        ·refine view (Qaw _ _) rfl ?_;refine Qaf h (fun hb h=>?_) (fun hb h=>?_)
         ·refine Qaf h (fun hb h=>?_) (fun hb h=>?_)
          ·refine JP1.a h ?_;exact Le.tz 1 0 rfl rfl rfl
          ·refine view (Qaw _ _) rfl ?_;refine JP1.a h ?_;exact Le.tz 1 0 rfl rfl rfl
         ·refine JP1.a h ?_;exact Le.tz 1 0 rfl rfl rfl
       ·refine bF ?_;refine JP1.a h ?_;exact Le.tz 1 0 rfl rfl rfl
     ·refine Qaf h (fun hb h=>?_) (fun hb h=>?_)
      ·refine Qaf h (fun hb h=>?_) (fun hb h=>?_)
       ·refine bT ?_;refine Qaf h (fun hb h=>?_) (fun hb h=>?_)
        ·refine bT ?_;refine Qaf h (fun hb h=>?_) (fun hb h=>?_)
         ·refine JP1.a h ?_;exact Le.tz 1 0 rfl rfl rfl
         ·refine view (Qaw _ _) rfl ?_;refine JP1.a h ?_;exact Le.tz 1 0 rfl rfl rfl
        ·refine view (Qaw _ _) rfl ?_;refine Qaf h (fun hb h=>?_) (fun hb h=>?_)
         ·refine Qaf h (fun hb h=>?_) (fun hb h=>?_)
          ·refine JP1.a h ?_;exact Le.tz 1 0 rfl rfl rfl
          ·refine view (Qaw _ _) rfl ?_;refine JP1.a h ?_;exact Le.tz 1 0 rfl rfl rfl
         ·refine JP1.a h ?_;exact Le.tz 1 0 rfl rfl rfl
       ·refine view (Qaw _ _) rfl ?_;refine Qaf h (fun hb h=>?_) (fun hb h=>?_)
        ·refine Qaf h (fun hb h=>?_) (fun hb h=>?_)
         ·refine bT ?_;refine Qaf h (fun hb h=>?_) (fun hb h=>?_)
          ·refine JP1.a h ?_;exact Le.tz 1 0 rfl rfl rfl
          ·refine view (Qaw _ _) rfl ?_;refine JP1.a h ?_;exact Le.tz 1 0 rfl rfl rfl
         ·refine view (Qaw _ _) rfl ?_;refine Qaf h (fun hb h=>?_) (fun hb h=>?_)
          ·refine Qaf h (fun hb h=>?_) (fun hb h=>?_)
           ·refine JP1.a h ?_;exact Le.tz 1 0 rfl rfl rfl
           ·refine view (Qaw _ _) rfl ?_;refine JP1.a h ?_;exact Le.tz 1 0 rfl rfl rfl
          ·refine JP1.a h ?_;exact Le.tz 1 0 rfl rfl rfl
        ·refine bF ?_;refine JP1.a h ?_;exact Le.tz 1 0 rfl rfl rfl
      ·refine bF ?_;refine bF ?_;refine JP1.a h ?_;exact Le.tz 1 0 rfl rfl rfl
    ·refine Qaf h (fun hb h=>?_) (fun hb h=>?_)
     ·refine Qaf h (fun hb h=>?_) (fun hb h=>?_)
      ·refine bT ?_;refine Qaf h (fun hb h=>?_) (fun hb h=>?_)
       ·refine bT ?_;refine Qaf h (fun hb h=>?_) (fun hb h=>?_)
        ·refine bT ?_;refine Qaf h (fun hb h=>?_) (fun hb h=>?_)
         ·refine JP1.a h ?_;exact Le.tz 1 0 rfl rfl rfl
         ·refine view (Qaw _ _) rfl ?_;refine JP1.a h ?_;exact Le.tz 1 0 rfl rfl rfl
        ·refine view (Qaw _ _) rfl ?_;refine Qaf h (fun hb h=>?_) (fun hb h=>?_)
         ·refine Qaf h (fun hb h=>?_) (fun hb h=>?_)
          ·refine JP1.a h ?_;exact Le.tz 1 0 rfl rfl rfl
          ·refine view (Qaw _ _) rfl ?_;refine JP1.a h ?_;exact Le.tz 1 0 rfl rfl rfl
         ·refine JP1.a h ?_;exact Le.tz 1 0 rfl rfl rfl
       ·refine view (Qaw _ _) rfl ?_;refine Qaf h (fun hb h=>?_) (fun hb h=>?_)
        ·refine Qaf h (fun hb h=>?_) (fun hb h=>?_)
         ·refine bT ?_;refine Qaf h (fun hb h=>?_) (fun hb h=>?_)
          ·refine JP1.a h ?_;exact Le.tz 1 0 rfl rfl rfl
          ·refine view (Qaw _ _) rfl ?_;refine JP1.a h ?_;exact Le.tz 1 0 rfl rfl rfl
         ·refine view (Qaw _ _) rfl ?_;refine Qaf h (fun hb h=>?_) (fun hb h=>?_)
          ·refine Qaf h (fun hb h=>?_) (fun hb h=>?_)
           ·refine JP1.a h ?_;exact Le.tz 1 0 rfl rfl rfl
           ·refine view (Qaw _ _) rfl ?_;refine JP1.a h ?_;exact Le.tz 1 0 rfl rfl rfl
          ·refine JP1.a h ?_;exact Le.tz 1 0 rfl rfl rfl
        ·refine bF ?_;refine JP1.a h ?_;exact Le.tz 1 0 rfl rfl rfl
      ·refine Qaf h (fun hb h=>?_) (fun hb h=>?_)
       ·refine Qaf h (fun hb h=>?_) (fun hb h=>?_)
        ·refine bT ?_;refine Qaf h (fun hb h=>?_) (fun hb h=>?_)
         ·refine bT ?_;refine Qaf h (fun hb h=>?_) (fun hb h=>?_)
          ·refine JP1.a h ?_;exact Le.tz 1 0 rfl rfl rfl
          ·refine view (Qaw _ _) rfl ?_;refine JP1.a h ?_;exact Le.tz 1 0 rfl rfl rfl
         ·refine view (Qaw _ _) rfl ?_;refine Qaf h (fun hb h=>?_) (fun hb h=>?_)
          ·refine Qaf h (fun hb h=>?_) (fun hb h=>?_)
           ·refine JP1.a h ?_;exact Le.tz 1 0 rfl rfl rfl
           ·refine view (Qaw _ _) rfl ?_;refine JP1.a h ?_;exact Le.tz 1 0 rfl rfl rfl
          ·refine JP1.a h ?_;exact Le.tz 1 0 rfl rfl rfl
        ·refine view (Qaw _ _) rfl ?_;refine Qaf h (fun hb h=>?_) (fun hb h=>?_)
         ·refine Qaf h (fun hb h=>?_) (fun hb h=>?_)
          ·refine bT ?_;refine Qaf h (fun hb h=>?_) (fun hb h=>?_)
           ·refine JP1.a h ?_;exact Le.tz 1 0 rfl rfl rfl
           ·refine view (Qaw _ _) rfl ?_;refine JP1.a h ?_;exact Le.tz 1 0 rfl rfl rfl
          ·refine view (Qaw _ _) rfl ?_;refine Qaf h (fun hb h=>?_) (fun hb h=>?_)
           ·refine Qaf h (fun hb h=>?_) (fun hb h=>?_)
            ·refine JP1.a h ?_;exact Le.tz 1 0 rfl rfl rfl
            ·refine view (Qaw _ _) rfl ?_;refine JP1.a h ?_;exact Le.tz 1 0 rfl rfl rfl
           ·refine JP1.a h ?_;exact Le.tz 1 0 rfl rfl rfl
         ·refine bF ?_;refine JP1.a h ?_;exact Le.tz 1 0 rfl rfl rfl
       ·refine bF ?_;refine bF ?_;refine JP1.a h ?_;exact Le.tz 1 0 rfl rfl rfl
     ·refine bF ?_;refine bF ?_;refine bF ?_;refine JP1.a h ?_;exact Le.tz 1 0 rfl rfl rfl
   ·refine bF ?_;refine bF ?_;refine bF ?_;refine bF ?_;refine JP1.a h ?_;exact Le.tz 1 0 rfl rfl rfl
 ·have h:=hk;refine Qao (t:=Qc8) h ?_;exact .refl _
mutual
def Qse (p0:Qab):Option (Bool) :=
 if(p0.Kind==1) then
  Qi2 p0.Text>>=fun x1 =>
  ( if x1.2 then
    Qd6 p0 false true false false false>>=fun x3 =>
    some x3
   else
    some false:Option (Bool))>>=fun o2 =>
  some o2
 else
  if(p0.Kind==2) then
   Qd6 p0 false false true false false>>=fun x4 =>
   some x4
  else
   if(p0.Kind==3) then
    ( if(p0.N==0) then
      Qd6 p0 false false true false false>>=fun x6 =>
      some x6
     else
      if(p0.N==1) then
       Qd6 p0 false false true false false>>=fun x7 =>
       some x7
      else
       some false:Option (Bool))>>=fun o5 =>
    some o5
   else
    if(p0.Kind==4) then
     ( Qlh p0.Name>>=fun x9 =>
      if x9 then
       Qd6 p0 true false false false false>>=fun x10 =>
       some x10
      else
       some false:Option (Bool))>>=fun o8 =>
     some o8
    else
     if(p0.Kind==5) then
      ( Qj9 p0.Name>>=fun x12 =>
       if x12 then
        if((p0.L.length:Int)==1) then
         Qmi p0.L>>=fun x13 =>
         if x13 then
          Qd6 p0 true false false true false>>=fun x14 =>
          some x14
         else
          some false
        else
         some false
       else
        some false:Option (Bool))>>=fun o11 =>
      some o11
     else
      if(p0.Kind==6) then
       ( Qlh p0.Name>>=fun x16 =>
        if x16 then
         if(decide ((p0.L.length:Int)≤3)) then
          Qmi p0.L>>=fun x17 =>
          if x17 then
           Qd6 p0 true false false true false>>=fun x18 =>
           some x18
          else
           some false
         else
          some false
        else
         some false:Option (Bool))>>=fun o15 =>
       some o15
      else
       if(p0.Kind==7) then
        ( Qj9 p0.Name>>=fun x20 =>
         if x20 then
          Qd6 p0 true false false false false>>=fun x21 =>
          some x21
         else
          some false:Option (Bool))>>=fun o19 =>
        some o19
       else
        some false
 partial_fixpoint
def Qmi (p0:(List Qab)):Option (Bool) :=
 (Qid p0 0)>>=fun o1 =>
 match o1 with
 | .inl y2 =>
  some true
 | .inr y3 =>
  some false
 partial_fixpoint
def Qid (p0:(List Qab)) (v3:Int):Option (Unit⊕Unit) :=
 if(decide (v3<(p0.length:Int))) then
  idx p0 v3>>=fun x4 =>
  Qse x4>>=fun x5 =>
  if(!x5) then
   some (.inr ())
  else
   Qid p0 (wr (v3+1))
 else
  some (.inl ())
 partial_fixpoint
end
theorem Q7q:(∀ (p0:Qab) (o:Bool),Qse p0=some o→PCall Tryz.prog 115 [.agg [iV p0.Kind,sV p0.Name,sV p0.Text,iV p0.N,.sl false (p0.L.map Qae),.sl false (p0.Then.map Qae),.sl false (p0.Else.map Qae)]] (Qfp o))∧(∀ (p0:(List Qab)) (o:Bool),Qmi p0=some o→PCall Tryz.prog 97 [.sl false (p0.map Qae)] (Qhj o))∧(∀ (p0:(List Qab)) (v3:Int) (o1:Unit⊕Unit),Qid p0 v3=some o1→TL (0,0) Tryz.prog 16 Q1j (JP2 (0,0) 16 o1 (.exit 0) (Qqu p0) .ret (Qqv p0)) (Ql2 p0 v3)):=by
 refine Qse.mutual_partial_correctness _ _ _ ?_ ?_ ?_
 ·intro Qmi' iQmi p0 o h;refine PCall.ofB mixed tbOk Q9w Tryz.func115 rfl (by kernel_rfl) (Nat.le_of_ble_eq_true rfl) ?_;refine Qaf h (fun hb h=>?_) (fun hb h=>?_)
  ·refine Qak [sV p0.Text] Qjq h (fun x1 hy=>(Qxf p0.Text x1 hy)) (fun x1 hy h=>?_);refine Qag h (fun o2 ho hk=>?_);refine Exists.intro (JP1 _ _ o2 .normal (Q33 p0)) (And.intro ?_ (Qa5 ?_))
   ·have h:=ho;refine Qaf h (fun hb h=>?_) (fun hb h=>?_)
    ·refine Qak [.agg [iV p0.Kind,sV p0.Name,sV p0.Text,iV p0.N,.sl false (p0.L.map Qae),.sl false (p0.Then.map Qae),.sl false (p0.Else.map Qae)],bV false,bV true,bV false,bV false,bV false] Qc8 h (fun x3 hy=>(Qda p0 false true false false false x3 hy)) (fun x3 hy h=>?_);refine JP1.a h ?_;exact Le.tz 1 0 rfl rfl rfl
    ·refine JP1.a h ?_;exact Le.tz 1 0 rfl rfl rfl
   ·have h:=hk;refine Qao (t:=Qfp) h ?_;exact .refl _
  ·refine Qaf h (fun hb h=>?_) (fun hb h=>?_)
   ·refine Qak [.agg [iV p0.Kind,sV p0.Name,sV p0.Text,iV p0.N,.sl false (p0.L.map Qae),.sl false (p0.Then.map Qae),.sl false (p0.Else.map Qae)],bV false,bV false,bV true,bV false,bV false] Qc8 h (fun x4 hy=>(Qda p0 false false true false false x4 hy)) (fun x4 hy h=>?_);refine Qao (t:=Qfp) h ?_;exact .refl _
   ·refine Qaf h (fun hb h=>?_) (fun hb h=>?_)
    ·refine Qag h (fun o5 ho hk=>?_);refine Exists.intro (JP1 _ _ o5 .normal (Q34 p0)) (And.intro ?_ (Qa5 ?_))
     ·have h:=ho;refine Qaf h (fun hb h=>?_) (fun hb h=>?_)
      ·refine bT ?_;refine Qak [.agg [iV p0.Kind,sV p0.Name,sV p0.Text,iV p0.N,.sl false (p0.L.map Qae),.sl false (p0.Then.map Qae),.sl false (p0.Else.map Qae)],bV false,bV false,bV true,bV false,bV false] Qc8 h (fun x6 hy=>(Qda p0 false false true false false x6 hy)) (fun x6 hy h=>?_);refine JP1.a h ?_;exact Le.tz 1 0 rfl rfl rfl
      ·refine Qaf h (fun hb h=>?_) (fun hb h=>?_)
       ·refine Qak [.agg [iV p0.Kind,sV p0.Name,sV p0.Text,iV p0.N,.sl false (p0.L.map Qae),.sl false (p0.Then.map Qae),.sl false (p0.Else.map Qae)],bV false,bV false,bV true,bV false,bV false] Qc8 h (fun x7 hy=>(Qda p0 false false true false false x7 hy)) (fun x7 hy h=>?_);refine JP1.a h ?_;exact Le.tz 1 0 rfl rfl rfl
       ·refine JP1.a h ?_;exact Le.tz 1 0 rfl rfl rfl
     ·have h:=hk;refine Qao (t:=Qfp) h ?_;exact .refl _
    ·refine Qaf h (fun hb h=>?_) (fun hb h=>?_)
     ·refine Qag h (fun o8 ho hk=>?_);refine Exists.intro (JP1 _ _ o8 .normal (Q35 p0)) (And.intro ?_ (Qa5 ?_))
      ·have h:=ho;refine Qak [sV p0.Name] Qh6 h (fun x9 hy=>(Qmh p0.Name x9 hy)) (fun x9 hy h=>?_);refine Qaf h (fun hb h=>?_) (fun hb h=>?_)
       ·refine Qak [.agg [iV p0.Kind,sV p0.Name,sV p0.Text,iV p0.N,.sl false (p0.L.map Qae),.sl false (p0.Then.map Qae),.sl false (p0.Else.map Qae)],bV true,bV false,bV false,bV false,bV false] Qc8 h (fun x10 hy=>(Qda p0 true false false false false x10 hy)) (fun x10 hy h=>?_);refine JP1.a h ?_;exact Le.tz 1 0 rfl rfl rfl
       ·refine JP1.a h ?_;exact Le.tz 1 0 rfl rfl rfl
      ·have h:=hk;refine Qao (t:=Qfp) h ?_;exact .refl _
     ·refine Qaf h (fun hb h=>?_) (fun hb h=>?_)
      ·refine Qag h (fun o11 ho hk=>?_);refine Exists.intro (JP1 _ _ o11 .normal (Q36 p0)) (And.intro ?_ (Qa5 ?_))
       ·have h:=ho;refine Qak [sV p0.Name] Qgo h (fun x12 hy=>(Qmf p0.Name x12 hy)) (fun x12 hy h=>?_);refine Qaf h (fun hb h=>?_) (fun hb h=>?_)
        ·refine view (Qaw _ _) rfl ?_;refine Qaf h (fun hb h=>?_) (fun hb h=>?_)
         ·refine Qak [.sl false (p0.L.map Qae)] Qhj h (fun x13 hy=>(iQmi p0.L x13 hy)) (fun x13 hy h=>?_);refine Qaf h (fun hb h=>?_) (fun hb h=>?_)
          ·refine Qak [.agg [iV p0.Kind,sV p0.Name,sV p0.Text,iV p0.N,.sl false (p0.L.map Qae),.sl false (p0.Then.map Qae),.sl false (p0.Else.map Qae)],bV true,bV false,bV false,bV true,bV false] Qc8 h (fun x14 hy=>(Qda p0 true false false true false x14 hy)) (fun x14 hy h=>?_);refine JP1.a h ?_;exact Le.tz 1 0 rfl rfl rfl
          ·refine JP1.a h ?_;exact Le.tz 1 0 rfl rfl rfl
         ·refine bF ?_;refine JP1.a h ?_;exact Le.tz 1 0 rfl rfl rfl
        ·refine bF ?_;refine bF ?_;refine JP1.a h ?_;exact Le.tz 1 0 rfl rfl rfl
       ·have h:=hk;refine Qao (t:=Qfp) h ?_;exact .refl _
      ·refine Qaf h (fun hb h=>?_) (fun hb h=>?_)
       ·refine Qag h (fun o15 ho hk=>?_);refine Exists.intro (JP1 _ _ o15 .normal (Q37 p0)) (And.intro ?_ (Qa5 ?_))
        ·have h:=ho;refine Qak [sV p0.Name] Qh6 h (fun x16 hy=>(Qmh p0.Name x16 hy)) (fun x16 hy h=>?_);refine Qaf h (fun hb h=>?_) (fun hb h=>?_)
         ·refine view (Qaw _ _) rfl ?_;refine Qaf h (fun hb h=>?_) (fun hb h=>?_)
          ·refine Qak [.sl false (p0.L.map Qae)] Qhj h (fun x17 hy=>(iQmi p0.L x17 hy)) (fun x17 hy h=>?_);refine Qaf h (fun hb h=>?_) (fun hb h=>?_)
           ·refine Qak [.agg [iV p0.Kind,sV p0.Name,sV p0.Text,iV p0.N,.sl false (p0.L.map Qae),.sl false (p0.Then.map Qae),.sl false (p0.Else.map Qae)],bV true,bV false,bV false,bV true,bV false] Qc8 h (fun x18 hy=>(Qda p0 true false false true false x18 hy)) (fun x18 hy h=>?_);refine JP1.a h ?_;exact Le.tz 1 0 rfl rfl rfl
           ·refine JP1.a h ?_;exact Le.tz 1 0 rfl rfl rfl
          ·refine bF ?_;refine JP1.a h ?_;exact Le.tz 1 0 rfl rfl rfl
         ·refine bF ?_;refine bF ?_;refine JP1.a h ?_;exact Le.tz 1 0 rfl rfl rfl
        ·have h:=hk;refine Qao (t:=Qfp) h ?_;exact .refl _
       ·refine Qaf h (fun hb h=>?_) (fun hb h=>?_)
        ·refine Qag h (fun o19 ho hk=>?_);refine Exists.intro (JP1 _ _ o19 .normal (Q38 p0)) (And.intro ?_ (Qa5 ?_))
         ·have h:=ho;refine Qak [sV p0.Name] Qgo h (fun x20 hy=>(Qmf p0.Name x20 hy)) (fun x20 hy h=>?_);refine Qaf h (fun hb h=>?_) (fun hb h=>?_)
          ·refine Qak [.agg [iV p0.Kind,sV p0.Name,sV p0.Text,iV p0.N,.sl false (p0.L.map Qae),.sl false (p0.Then.map Qae),.sl false (p0.Else.map Qae)],bV true,bV false,bV false,bV false,bV false] Qc8 h (fun x21 hy=>(Qda p0 true false false false false x21 hy)) (fun x21 hy h=>?_);refine JP1.a h ?_;exact Le.tz 1 0 rfl rfl rfl
          ·refine JP1.a h ?_;exact Le.tz 1 0 rfl rfl rfl
         ·have h:=hk;refine Qao (t:=Qfp) h ?_;exact .refl _
        ·refine Qao (t:=Qfp) h ?_;exact .refl _
 ·intro Qid' iQid p0 o h;refine PCall.ofB mixed tbOk Qxe Tryz.func97 rfl (by kernel_rfl) (Nat.le_of_ble_eq_true rfl) ?_;refine Qag h (fun o1 ho hk=>?_);refine Exists.intro (JP2 _ _ o1 (.exit 0) (Qqu p0) .ret (Qqv p0)) (And.intro (Qnx (τ := Ql2 p0 0) ?_ (TL.loop (iQid p0 0 o1 ho))) (Qlx (fun y2 hy=>?_) (fun y3 hy=>?_)))
  ·exact Le.tz 0 0 rfl rfl rfl
  ·have h:=(by rw[hy] at hk; exact hk);refine Qao (t:=Qhj) h ?_;exact .refl _
  ·have h:=(by rw[hy] at hk; exact hk);refine Qao (t:=Qhj) h ?_;exact .refl _
 ·intro Qse' Qid' iQse iQid p0 v3 o1 h;refine TL.round (Qan mixed tbOk (lv:=Qxe) _ _ _ ?_);refine view (Qaw _ _) rfl ?_;refine Qaf h (fun hb h=>?_) (fun hb h=>?_)
  ·refine Qcv (l:=p0) (c:=Qae) (c' := Qa1) h Qai (fun _=>rfl) (by decide) (fun x4 hi h=>?_);refine Qak [.agg [iV x4.Kind,sV x4.Name,sV x4.Text,iV x4.N,.sl false (x4.L.map Qae),.sl false (x4.Then.map Qae),.sl false (x4.Else.map Qae)]] Qfp h (fun x5 hy=>(iQse x4 x5 hy)) (fun x5 hy h=>?_);refine Qaf h (fun hb h=>?_) (fun hb h=>?_)
   ·exact JP2.b h (Le.tz 0 0 rfl rfl rfl)
   ·refine TL.le (τ := Ql2 p0 (wr (v3+1))) ?_ ((iQid p0 (wr (v3+1)) _ h));exact Le.tz 0 0 rfl rfl rfl
  ·exact JP2.a h (Le.tz 0 0 rfl rfl rfl)
theorem Q7r:∀ (p0:(List Qab)) (o:Bool),Qmi p0=some o→PCall Tryz.prog 97 [.sl false (p0.map Qae)] (Qhj o):=fun p0=>Q7q.2.1 p0
def Qe7 (p0:(List UInt8)) (p1:(List UInt8)) (v5:Int):Option (Unit⊕Unit) :=
 if(decide (v5<(p0.length:Int))) then
  Qcs p0 p1 v5>>=fun x4 =>
  if x4 then
   some (.inr ())
  else
   Qe7 p0 p1 (wr (v5+1))
 else
  some (.inl ())
 partial_fixpoint
theorem Qade:∀ (p0:(List UInt8)) (p1:(List UInt8)),(∀ (v5:Int) (o1:Unit⊕Unit),Qe7 p0 p1 v5=some o1→TL (0,0) Tryz.prog 16 Qzs (JP2 (0,0) 16 o1 (.exit 0) (Qpn p0 p1) .ret (Qpo p0 p1)) (Qkz p0 p1 v5)):=by
 intro p0 p1;refine Qe7.partial_correctness p0 p1 _ ?_;intro Qe7' iQe7 v5 o1 h;refine TL.round (Qan mixed tbOk (lv:=Qvb) _ _ _ ?_);refine vrfl ?_;refine Qaf h (fun hb h=>?_) (fun hb h=>?_)
 ·refine Qak [sV p0,sV p1,iV v5] Qh4 h (fun x4 hy=>(Qlg p0 p1 v5 x4 hy)) (fun x4 hy h=>?_);refine Qaf h (fun hb h=>?_) (fun hb h=>?_)
  ·exact JP2.b h (Le.tz 0 0 rfl rfl rfl)
  ·refine TL.le (τ := Qkz p0 p1 (wr (v5+1))) ?_ ((iQe7 (wr (v5+1)) _ h));exact Le.tz 0 0 rfl rfl rfl
 ·exact JP2.a h (Le.tz 0 0 rfl rfl rfl)
def Qob (p0:(List UInt8)) (p1:(List UInt8)):Option (Bool) :=
 (Qe7 p0 p1 0)>>=fun o1 =>
 match o1 with
 | .inl y2 =>
  some false
 | .inr y3 =>
  some true
theorem Q4w:∀ (p0:(List UInt8)) (p1:(List UInt8)) (o:Bool),Qob p0 p1=some o→PCall Tryz.prog 98 [sV p0,sV p1] (Qm1 o):=by
 intro p0 p1 o h;unfold Qob at h;refine PCall.ofB mixed tbOk Qvb Tryz.func98 rfl (by kernel_rfl) (Nat.le_of_ble_eq_true rfl) ?_;refine Qag h (fun o1 ho hk=>?_);refine Exists.intro (JP2 _ _ o1 (.exit 0) (Qpn p0 p1) .ret (Qpo p0 p1)) (And.intro (Qnx (τ := Qkz p0 p1 0) ?_ (TL.loop (Qade p0 p1 0 o1 ho))) (Qlx (fun y2 hy=>?_) (fun y3 hy=>?_)))
 ·exact Le.tz 0 0 rfl rfl rfl
 ·have h:=(by rw[hy] at hk; exact hk);refine Qao (t:=Qm1) h ?_;exact .refl _
 ·have h:=(by rw[hy] at hk; exact hk);refine Qao (t:=Qm1) h ?_;exact .refl _
mutual
def Qi3 (p0:(List Qab)) (p1:Bool):Option (Bool) :=
 (Qgf p0 p1 0)>>=fun o1 =>
 match o1 with
 | .inl y2 =>
  some true
 | .inr y3 =>
  some false
 partial_fixpoint
def Qgf (p0:(List Qab)) (p1:Bool) (v5:Int):Option (Unit⊕Unit) :=
 if(decide (v5<(p0.length:Int))) then
  idx p0 v5>>=fun x4 =>
  Qvk x4>>=fun x5 =>
  if(!x5) then
   some (.inr ())
  else
   idx p0 v5>>=fun x6 =>
   if(x6.Kind != 8) then
    Qgf p0 p1 (wr (v5+1))
   else
    idx p0 v5>>=fun x7 =>
    ( if(!(v5==(wr ((p0.length:Int)-1)))) then
      idx p0 (wr (v5+1))>>=fun x9 =>
      if(x9.Kind==8) then
       some true
      else
       if(!(v5==(wr ((p0.length:Int)-1)))) then
        idx x7.Text (wr ((x7.Text.length:Int)-1))>>=fun x10 =>
        some ((x10.toNat:Int)==123)
       else
        if p1 then
         idx x7.Text (wr ((x7.Text.length:Int)-1))>>=fun x11 =>
         some ((x11.toNat:Int)==123)
        else
         some false
     else
      if(!(v5==(wr ((p0.length:Int)-1)))) then
       idx x7.Text (wr ((x7.Text.length:Int)-1))>>=fun x12 =>
       some ((x12.toNat:Int)==123)
      else
       if p1 then
        idx x7.Text (wr ((x7.Text.length:Int)-1))>>=fun x13 =>
        some ((x13.toNat:Int)==123)
       else
        some false:Option (Bool))>>=fun o8 =>
    if o8 then
     some (.inr ())
    else
     Qgf p0 p1 (wr (v5+1))
 else
  some (.inl ())
 partial_fixpoint
def Qvk (p0:Qab):Option (Bool) :=
 ( if((p0.L.length:Int)==1) then
   Qmi p0.L>>=fun x2 =>
   some x2
  else
   some false:Option (Bool))>>=fun o1 =>
 if(p0.Kind==8) then
  ( if(!(p0.Text==[])) then
    Qob p0.Text [123,123]>>=fun x4 =>
    if(!x4) then
     Qd6 p0 false true false false false>>=fun x5 =>
     some x5
    else
     some false
   else
    some false:Option (Bool))>>=fun o3 =>
  some o3
 else
  if(p0.Kind==9) then
   ( if o1 then
     Qd6 p0 false false false true false>>=fun x7 =>
     some x7
    else
     some false:Option (Bool))>>=fun o6 =>
   some o6
  else
   if(p0.Kind==10) then
    ( if o1 then
      Qi3 p0.Then true>>=fun x9 =>
      if x9 then
       Qi3 p0.Else true>>=fun x10 =>
       if x10 then
        Qd6 p0 false false false true true>>=fun x11 =>
        some x11
       else
        some false
      else
       some false
     else
      some false:Option (Bool))>>=fun o8 =>
    some o8
   else
    ( if(p0.Kind==11) then
      some (p0.Kind==11)
     else
      some (p0.Kind==12):Option (Bool))>>=fun o12 =>
    if o12 then
     ( Qlh p0.Name>>=fun x14 =>
      if x14 then
       if o1 then
        Qi3 p0.Then true>>=fun x15 =>
        if x15 then
         Qd6 p0 true false false true true>>=fun x16 =>
         some x16
        else
         some false
       else
        some false
      else
       some false:Option (Bool))>>=fun o13 =>
     some o13
    else
     if(p0.Kind==13) then
      ( Qlh p0.Name>>=fun x18 =>
       if x18 then
        if o1 then
         Qd6 p0 true false false true false>>=fun x19 =>
         some x19
        else
         some false
       else
        some false:Option (Bool))>>=fun o17 =>
      some o17
     else
      some false
 partial_fixpoint
end
theorem Q4x:(∀ (p0:(List Qab)) (p1:Bool) (o:Bool),Qi3 p0 p1=some o→PCall Tryz.prog 46 [.sl false (p0.map Qae),bV p1] (Qf8 o))∧(∀ (p0:(List Qab)) (p1:Bool) (v5:Int) (o1:Unit⊕Unit),Qgf p0 p1 v5=some o1→TL (0,0) Tryz.prog 62 Q1i (JP2 (0,0) 62 o1 (.exit 0) (Qqs p0 p1) .ret (Qqt p0 p1)) (Qio p0 p1 v5))∧(∀ (p0:Qab) (o:Bool),Qvk p0=some o→PCall Tryz.prog 71 [.agg [iV p0.Kind,sV p0.Name,sV p0.Text,iV p0.N,.sl false (p0.L.map Qae),.sl false (p0.Then.map Qae),.sl false (p0.Else.map Qae)]] (Qh7 o)):=by
 refine Qi3.mutual_partial_correctness _ _ _ ?_ ?_ ?_
 ·intro Qgf' iQgf p0 p1 o h;refine PCall.ofB mixed tbOk Qxd Tryz.func46 rfl (by kernel_rfl) (Nat.le_of_ble_eq_true rfl) ?_;refine Qag h (fun o1 ho hk=>?_);refine Exists.intro (JP2 _ _ o1 (.exit 0) (Qqs p0 p1) .ret (Qqt p0 p1)) (And.intro (Qnx (τ := Qio p0 p1 0) ?_ (TL.loop (iQgf p0 p1 0 o1 ho))) (Qlx (fun y2 hy=>?_) (fun y3 hy=>?_)))
  ·exact Le.tz 0 0 rfl rfl rfl
  ·have h:=(by rw[hy] at hk; exact hk);refine Qao (t:=Qf8) h ?_;exact .refl _
  ·have h:=(by rw[hy] at hk; exact hk);refine Qao (t:=Qf8) h ?_;exact .refl _
 ·intro Qgf' Qvk' iQgf iQvk p0 p1 v5 o1 h;refine TL.round (Qan mixed tbOk (lv:=Qxd) _ _ _ ?_);refine view (Qaw _ _) rfl ?_;refine Qaf h (fun hb h=>?_) (fun hb h=>?_)
  ·refine Qcv (l:=p0) (c:=Qae) (c' := Qa1) h Qai (fun _=>rfl) (by decide) (fun x4 hi h=>?_);refine Qak [.agg [iV x4.Kind,sV x4.Name,sV x4.Text,iV x4.N,.sl false (x4.L.map Qae),.sl false (x4.Then.map Qae),.sl false (x4.Else.map Qae)]] Qh7 h (fun x5 hy=>(iQvk x4 x5 hy)) (fun x5 hy h=>?_);refine Qaf h (fun hb h=>?_) (fun hb h=>?_)
   ·exact JP2.b h (Le.tz 0 0 rfl rfl rfl)
   ·refine Qcv (l:=p0) (c:=Qae) (c' := Qa1) h Qai (fun _=>rfl) (by decide) (fun x6 hi h=>?_);refine Qaf h (fun hb h=>?_) (fun hb h=>?_)
    ·refine TL.le (τ := Qio p0 p1 (wr (v5+1))) ?_ ((iQgf p0 p1 (wr (v5+1)) _ h));exact Le.tz 0 0 rfl rfl rfl
    ·refine Qcv (l:=p0) (c:=Qae) (c' := Qa1) h Qai (fun _=>rfl) (by decide) (fun x7 hi h=>?_);refine view (Qaw _ _) rfl ?_;refine Qag h (fun o8 ho hk=>?_);refine Exists.intro (JP1 _ _ o8 .normal (Q1h p0 p1 v5)) (And.intro ?_ (Qa5 ?_))
     ·have h:=ho;refine Qaf h (fun hb h=>?_) (fun hb h=>?_)
      ·refine Qcv (l:=p0) (c:=Qae) (c' := Qa1) h Qai (fun _=>rfl) (by decide) (fun x9 hi h=>?_);refine Qaf h (fun hb h=>?_) (fun hb h=>?_)
       ·refine JP1.a h ?_;exact Le.tz 0 0 rfl rfl rfl
       ·refine Qaf h (fun hb h=>?_) (fun hb h=>?_)
        ·refine bT ?_;refine vrfl ?_;refine Qcn h (fun x10 hi h=>?_);refine JP1.a h ?_;exact Le.tz 0 0 rfl rfl rfl
        ·refine Qaf h (fun hb h=>?_) (fun hb h=>?_)
         ·refine vrfl ?_;refine Qcn h (fun x11 hi h=>?_);refine JP1.a h ?_;exact Le.tz 0 0 rfl rfl rfl
         ·refine JP1.a h ?_;exact Le.tz 0 0 rfl rfl rfl
      ·refine bF ?_;refine Qaf h (fun hb h=>?_) (fun hb h=>?_)
       ·refine bT ?_;refine vrfl ?_;refine Qcn h (fun x12 hi h=>?_);refine JP1.a h ?_;exact Le.tz 0 0 rfl rfl rfl
       ·refine Qaf h (fun hb h=>?_) (fun hb h=>?_)
        ·refine vrfl ?_;refine Qcn h (fun x13 hi h=>?_);refine JP1.a h ?_;exact Le.tz 0 0 rfl rfl rfl
        ·refine JP1.a h ?_;exact Le.tz 0 0 rfl rfl rfl
     ·have h:=hk;refine Qaf h (fun hb h=>?_) (fun hb h=>?_)
      ·exact JP2.b h (Le.tz 0 0 rfl rfl rfl)
      ·refine TL.le (τ := Qio p0 p1 (wr (v5+1))) ?_ ((iQgf p0 p1 (wr (v5+1)) _ h));exact Le.tz 0 0 rfl rfl rfl
  ·exact JP2.a h (Le.tz 0 0 rfl rfl rfl)
 ·intro Qi3' iQi3 p0 o h;refine PCall.ofB mixed tbOk Q9x Tryz.func71 rfl (by kernel_rfl) (Nat.le_of_ble_eq_true rfl) ?_;refine Qag h (fun o1 ho hk=>?_);refine Exists.intro (JP1 _ _ o1 .normal (Q39 p0)) (And.intro ?_ (Qa5 ?_))
  ·have h:=ho;refine view (Qaw _ _) rfl ?_;refine Qaf h (fun hb h=>?_) (fun hb h=>?_)
   ·refine Qak [.sl false (p0.L.map Qae)] Qhj h (fun x2 hy=>(Q7r p0.L x2 hy)) (fun x2 hy h=>?_);refine JP1.a h ?_;exact Le.tz 1 0 rfl rfl rfl
   ·refine JP1.a h ?_;exact Le.tz 1 0 rfl rfl rfl
  ·have h:=hk;refine Qaf h (fun hb h=>?_) (fun hb h=>?_)
   ·refine Qag h (fun o3 ho hk=>?_);refine Exists.intro (JP1 _ _ o3 .normal (Q4a p0)) (And.intro ?_ (Qa5 ?_))
    ·have h:=ho;refine Qaf h (fun hb h=>?_) (fun hb h=>?_)
     ·refine Qak [sV p0.Text,sV [123,123]] Qm1 h (fun x4 hy=>(Q4w p0.Text [123,123] x4 hy)) (fun x4 hy h=>?_);refine Qaf h (fun hb h=>?_) (fun hb h=>?_)
      ·refine Qak [.agg [iV p0.Kind,sV p0.Name,sV p0.Text,iV p0.N,.sl false (p0.L.map Qae),.sl false (p0.Then.map Qae),.sl false (p0.Else.map Qae)],bV false,bV true,bV false,bV false,bV false] Qc8 h (fun x5 hy=>(Qda p0 false true false false false x5 hy)) (fun x5 hy h=>?_);refine JP1.a h ?_;exact Le.tz 1 0 rfl rfl rfl
      ·refine JP1.a h ?_;exact Le.tz 1 0 rfl rfl rfl
     ·refine bF ?_;refine JP1.a h ?_;exact Le.tz 1 0 rfl rfl rfl
    ·have h:=hk;refine Qao (t:=Qh7) h ?_;exact .refl _
   ·refine Qaf h (fun hb h=>?_) (fun hb h=>?_)
    ·refine Qag h (fun o6 ho hk=>?_);refine Exists.intro (JP1 _ _ o6 .normal (Q4b p0)) (And.intro ?_ (Qa5 ?_))
     ·have h:=ho;refine Qaf h (fun hb h=>?_) (fun hb h=>?_)
      ·refine Qak [.agg [iV p0.Kind,sV p0.Name,sV p0.Text,iV p0.N,.sl false (p0.L.map Qae),.sl false (p0.Then.map Qae),.sl false (p0.Else.map Qae)],bV false,bV false,bV false,bV true,bV false] Qc8 h (fun x7 hy=>(Qda p0 false false false true false x7 hy)) (fun x7 hy h=>?_);refine JP1.a h ?_;exact Le.tz 1 0 rfl rfl rfl
      ·refine JP1.a h ?_;exact Le.tz 1 0 rfl rfl rfl
     ·have h:=hk;refine Qao (t:=Qh7) h ?_;exact .refl _
    ·refine Qaf h (fun hb h=>?_) (fun hb h=>?_)
     ·refine Qag h (fun o8 ho hk=>?_);refine Exists.intro (JP1 _ _ o8 .normal (Q4c p0)) (And.intro ?_ (Qa5 ?_))
      ·have h:=ho;refine Qaf h (fun hb h=>?_) (fun hb h=>?_)
       ·refine Qak [.sl false (p0.Then.map Qae),bV true] Qf8 h (fun x9 hy=>(iQi3 p0.Then true x9 hy)) (fun x9 hy h=>?_);refine Qaf h (fun hb h=>?_) (fun hb h=>?_)
        ·refine Qak [.sl false (p0.Else.map Qae),bV true] Qf8 h (fun x10 hy=>(iQi3 p0.Else true x10 hy)) (fun x10 hy h=>?_);refine Qaf h (fun hb h=>?_) (fun hb h=>?_)
         ·refine Qak [.agg [iV p0.Kind,sV p0.Name,sV p0.Text,iV p0.N,.sl false (p0.L.map Qae),.sl false (p0.Then.map Qae),.sl false (p0.Else.map Qae)],bV false,bV false,bV false,bV true,bV true] Qc8 h (fun x11 hy=>(Qda p0 false false false true true x11 hy)) (fun x11 hy h=>?_);refine JP1.a h ?_;exact Le.tz 1 0 rfl rfl rfl
         ·refine JP1.a h ?_;exact Le.tz 1 0 rfl rfl rfl
        ·refine bF ?_;refine JP1.a h ?_;exact Le.tz 1 0 rfl rfl rfl
       ·refine bF ?_;refine bF ?_;refine JP1.a h ?_;exact Le.tz 1 0 rfl rfl rfl
      ·have h:=hk;refine Qao (t:=Qh7) h ?_;exact .refl _
     ·refine Qag h (fun o12 ho hk=>?_);refine Exists.intro (JP1 _ _ o12 .normal (Q4d p0 o1)) (And.intro ?_ (Qa5 ?_))
      ·have h:=ho;refine Qaf h (fun hb h=>?_) (fun hb h=>?_)
       ·refine JP1.a h ?_;exact Le.tz 1 0 rfl rfl rfl
       ·refine JP1.a h ?_;exact Le.tz 1 0 rfl rfl rfl
      ·have h:=hk;refine Qaf h (fun hb h=>?_) (fun hb h=>?_)
       ·refine Qag h (fun o13 ho hk=>?_);refine Exists.intro (JP1 _ _ o13 .normal (Q4e p0)) (And.intro ?_ (Qa5 ?_))
        ·have h:=ho;refine Qak [sV p0.Name] Qh6 h (fun x14 hy=>(Qmh p0.Name x14 hy)) (fun x14 hy h=>?_);refine Qaf h (fun hb h=>?_) (fun hb h=>?_)
         ·refine Qaf h (fun hb h=>?_) (fun hb h=>?_)
          ·refine Qak [.sl false (p0.Then.map Qae),bV true] Qf8 h (fun x15 hy=>(iQi3 p0.Then true x15 hy)) (fun x15 hy h=>?_);refine Qaf h (fun hb h=>?_) (fun hb h=>?_)
           ·refine Qak [.agg [iV p0.Kind,sV p0.Name,sV p0.Text,iV p0.N,.sl false (p0.L.map Qae),.sl false (p0.Then.map Qae),.sl false (p0.Else.map Qae)],bV true,bV false,bV false,bV true,bV true] Qc8 h (fun x16 hy=>(Qda p0 true false false true true x16 hy)) (fun x16 hy h=>?_);refine JP1.a h ?_;exact Le.tz 1 0 rfl rfl rfl
           ·refine JP1.a h ?_;exact Le.tz 1 0 rfl rfl rfl
          ·refine bF ?_;refine JP1.a h ?_;exact Le.tz 1 0 rfl rfl rfl
         ·refine bF ?_;refine bF ?_;refine JP1.a h ?_;exact Le.tz 1 0 rfl rfl rfl
        ·have h:=hk;refine Qao (t:=Qh7) h ?_;exact .refl _
       ·refine Qaf h (fun hb h=>?_) (fun hb h=>?_)
        ·refine Qag h (fun o17 ho hk=>?_);refine Exists.intro (JP1 _ _ o17 .normal (Q4f p0)) (And.intro ?_ (Qa5 ?_))
         ·have h:=ho;refine Qak [sV p0.Name] Qh6 h (fun x18 hy=>(Qmh p0.Name x18 hy)) (fun x18 hy h=>?_);refine Qaf h (fun hb h=>?_) (fun hb h=>?_)
          ·refine Qaf h (fun hb h=>?_) (fun hb h=>?_)
           ·refine Qak [.agg [iV p0.Kind,sV p0.Name,sV p0.Text,iV p0.N,.sl false (p0.L.map Qae),.sl false (p0.Then.map Qae),.sl false (p0.Else.map Qae)],bV true,bV false,bV false,bV true,bV false] Qc8 h (fun x19 hy=>(Qda p0 true false false true false x19 hy)) (fun x19 hy h=>?_);refine JP1.a h ?_;exact Le.tz 1 0 rfl rfl rfl
           ·refine JP1.a h ?_;exact Le.tz 1 0 rfl rfl rfl
          ·refine bF ?_;refine JP1.a h ?_;exact Le.tz 1 0 rfl rfl rfl
         ·have h:=hk;refine Qao (t:=Qh7) h ?_;exact .refl _
        ·refine Qao (t:=Qh7) h ?_;exact .refl _
theorem Q7s:∀ (p0:(List Qab)) (p1:Bool) (o:Bool),Qi3 p0 p1=some o→PCall Tryz.prog 46 [.sl false (p0.map Qae),bV p1] (Qf8 o):=fun p0 p1=>Q4x.1 p0 p1
def Q7t (p0:(List Qab)):Option (Bool) :=
 ( Qi3 p0 false>>=fun x2 =>
  if x2 then
   Qhb p0>>=fun x3 =>
   if(decide (x3≤12)) then
    Qfi p0>>=fun x4 =>
    some (decide (x4≤1024))
   else
    some false
  else
   some false:Option (Bool))>>=fun o1 =>
 some o1
theorem Qafq:∀ (p0:(List Qab)) (o:Bool),Q7t p0=some o→PCall Tryz.prog 24 [.sl false (p0.map Qae)] (Q3x o):=by
 intro p0 o h;unfold Q7t at h;refine PCall.ofB mixed tbOk Qafh Tryz.func24 rfl (by kernel_rfl) (Nat.le_of_ble_eq_true rfl) ?_;refine Qag h (fun o1 ho hk=>?_);refine Exists.intro (JP1 _ _ o1 .normal (Q9u )) (And.intro ?_ (Qa5 ?_))
 ·have h:=ho;refine Qak [.sl false (p0.map Qae),bV false] Qf8 h (fun x2 hy=>(Q7s p0 false x2 hy)) (fun x2 hy h=>?_);refine Qaf h (fun hb h=>?_) (fun hb h=>?_)
  ·refine Qak [.sl false (p0.map Qae)] Qh5 h (fun x3 hy=>(Qz7 p0 x3 hy)) (fun x3 hy h=>?_);refine Qaf h (fun hb h=>?_) (fun hb h=>?_)
   ·refine Qak [.sl false (p0.map Qae)] Qf6 h (fun x4 hy=>(Qxg p0 x4 hy)) (fun x4 hy h=>?_);refine JP1.a h ?_;exact Le.tz 0 0 rfl rfl rfl
   ·refine JP1.a h ?_;exact Le.tz 0 0 rfl rfl rfl
  ·refine bF ?_;refine JP1.a h ?_;exact Le.tz 0 0 rfl rfl rfl
 ·have h:=hk;refine Qao (t:=Q3x) h ?_;exact .refl _
mutual
def Qfj (p0:(List Qab)):Option ((List UInt8)) :=
 (Qca p0 [] 0)>>=fun o1 =>
 some o1
 partial_fixpoint
def Qca (p0:(List Qab)) (v3:(List UInt8)) (v4:Int):Option ((List UInt8)) :=
 if(decide (v4<(p0.length:Int))) then
  idx p0 v4>>=fun x2 =>
  if(x2.Kind==8) then
   need (v3.length+x2.Text.length≤9223372036854775807)>>=fun _ =>
   Qca p0 (v3++x2.Text) (wr (v4+1))
  else
   if(x2.Kind==9) then
    need (v3.length+[123,123,32].length≤9223372036854775807)>>=fun _ =>
    idx x2.L 0>>=fun x3 =>
    Qf1 x3>>=fun x4 =>
    need ((v3++[123,123,32]).length+x4.length≤9223372036854775807)>>=fun _ =>
    need (((v3++[123,123,32])++x4).length+[32,125,125].length≤9223372036854775807)>>=fun _ =>
    Qca p0 (((v3++[123,123,32])++x4)++[32,125,125]) (wr (v4+1))
   else
    if(x2.Kind==13) then
     need (v3.length+[123,123,32,117,115,101,32].length≤9223372036854775807)>>=fun _ =>
     need ((v3++[123,123,32,117,115,101,32]).length+x2.Name.length≤9223372036854775807)>>=fun _ =>
     need (((v3++[123,123,32,117,115,101,32])++x2.Name).length+[32].length≤9223372036854775807)>>=fun _ =>
     idx x2.L 0>>=fun x5 =>
     Qf1 x5>>=fun x6 =>
     need ((((v3++[123,123,32,117,115,101,32])++x2.Name)++[32]).length+x6.length≤9223372036854775807)>>=fun _ =>
     need (((((v3++[123,123,32,117,115,101,32])++x2.Name)++[32])++x6).length+[32,125,125].length≤9223372036854775807)>>=fun _ =>
     Qca p0 (((((v3++[123,123,32,117,115,101,32])++x2.Name)++[32])++x6)++[32,125,125]) (wr (v4+1))
    else
     if(x2.Kind==10) then
      need (v3.length+[123,123,32,105,102,32].length≤9223372036854775807)>>=fun _ =>
      idx x2.L 0>>=fun x7 =>
      Qf1 x7>>=fun x8 =>
      need ((v3++[123,123,32,105,102,32]).length+x8.length≤9223372036854775807)>>=fun _ =>
      need (((v3++[123,123,32,105,102,32])++x8).length+[32,125,125].length≤9223372036854775807)>>=fun _ =>
      Qfj x2.Then>>=fun x9 =>
      need ((((v3++[123,123,32,105,102,32])++x8)++[32,125,125]).length+x9.length≤9223372036854775807)>>=fun _ =>
      if(decide ((x2.Else.length:Int)>0)) then
       need (((((v3++[123,123,32,105,102,32])++x8)++[32,125,125])++x9).length+[123,123,32,101,108,115,101,32,125,125].length≤9223372036854775807)>>=fun _ =>
       Qfj x2.Else>>=fun x10 =>
       need ((((((v3++[123,123,32,105,102,32])++x8)++[32,125,125])++x9)++[123,123,32,101,108,115,101,32,125,125]).length+x10.length≤9223372036854775807)>>=fun _ =>
       need (((((((v3++[123,123,32,105,102,32])++x8)++[32,125,125])++x9)++[123,123,32,101,108,115,101,32,125,125])++x10).length+[123,123,32,101,110,100,32,125,125].length≤9223372036854775807)>>=fun _ =>
       Qca p0 (((((((v3++[123,123,32,105,102,32])++x8)++[32,125,125])++x9)++[123,123,32,101,108,115,101,32,125,125])++x10)++[123,123,32,101,110,100,32,125,125]) (wr (v4+1))
      else
       need (((((v3++[123,123,32,105,102,32])++x8)++[32,125,125])++x9).length+[123,123,32,101,110,100,32,125,125].length≤9223372036854775807)>>=fun _ =>
       Qca p0 (((((v3++[123,123,32,105,102,32])++x8)++[32,125,125])++x9)++[123,123,32,101,110,100,32,125,125]) (wr (v4+1))
     else
      if(x2.Kind==11) then
       need (v3.length+[123,123,32,101,97,99,104,32].length≤9223372036854775807)>>=fun _ =>
       need ((v3++[123,123,32,101,97,99,104,32]).length+x2.Name.length≤9223372036854775807)>>=fun _ =>
       need (((v3++[123,123,32,101,97,99,104,32])++x2.Name).length+[32,105,110,32].length≤9223372036854775807)>>=fun _ =>
       idx x2.L 0>>=fun x11 =>
       Qf1 x11>>=fun x12 =>
       need ((((v3++[123,123,32,101,97,99,104,32])++x2.Name)++[32,105,110,32]).length+x12.length≤9223372036854775807)>>=fun _ =>
       need (((((v3++[123,123,32,101,97,99,104,32])++x2.Name)++[32,105,110,32])++x12).length+[32,125,125].length≤9223372036854775807)>>=fun _ =>
       Qfj x2.Then>>=fun x13 =>
       need ((((((v3++[123,123,32,101,97,99,104,32])++x2.Name)++[32,105,110,32])++x12)++[32,125,125]).length+x13.length≤9223372036854775807)>>=fun _ =>
       need (((((((v3++[123,123,32,101,97,99,104,32])++x2.Name)++[32,105,110,32])++x12)++[32,125,125])++x13).length+[123,123,32,101,110,100,32,125,125].length≤9223372036854775807)>>=fun _ =>
       Qca p0 (((((((v3++[123,123,32,101,97,99,104,32])++x2.Name)++[32,105,110,32])++x12)++[32,125,125])++x13)++[123,123,32,101,110,100,32,125,125]) (wr (v4+1))
      else
       need (v3.length+[123,123,32,108,101,116,32].length≤9223372036854775807)>>=fun _ =>
       need ((v3++[123,123,32,108,101,116,32]).length+x2.Name.length≤9223372036854775807)>>=fun _ =>
       need (((v3++[123,123,32,108,101,116,32])++x2.Name).length+[32,61,32].length≤9223372036854775807)>>=fun _ =>
       idx x2.L 0>>=fun x14 =>
       Qf1 x14>>=fun x15 =>
       need ((((v3++[123,123,32,108,101,116,32])++x2.Name)++[32,61,32]).length+x15.length≤9223372036854775807)>>=fun _ =>
       need (((((v3++[123,123,32,108,101,116,32])++x2.Name)++[32,61,32])++x15).length+[32,125,125].length≤9223372036854775807)>>=fun _ =>
       Qfj x2.Then>>=fun x16 =>
       need ((((((v3++[123,123,32,108,101,116,32])++x2.Name)++[32,61,32])++x15)++[32,125,125]).length+x16.length≤9223372036854775807)>>=fun _ =>
       need (((((((v3++[123,123,32,108,101,116,32])++x2.Name)++[32,61,32])++x15)++[32,125,125])++x16).length+[123,123,32,101,110,100,32,125,125].length≤9223372036854775807)>>=fun _ =>
       Qca p0 (((((((v3++[123,123,32,108,101,116,32])++x2.Name)++[32,61,32])++x15)++[32,125,125])++x16)++[123,123,32,101,110,100,32,125,125]) (wr (v4+1))
 else
  some v3
 partial_fixpoint
end
theorem Q4y:(∀ (p0:(List Qab)) (o:(List UInt8)),Qfj p0=some o→PCall Tryz.prog 25 [.sl false (p0.map Qae)] (Qf7 o))∧(∀ (p0:(List Qab)) (v3:(List UInt8)) (v4:Int) (o1:(List UInt8)),Qca p0 v3 v4=some o1→TL (0,0) Tryz.prog 116 Q1g (JP1 (0,0) 116 o1 (.exit 0) (Qqr p0)) (Qcw p0 v3 v4)):=by
 refine Qfj.mutual_partial_correctness _ _ ?_ ?_
 ·intro Qca' iQca p0 o h;refine PCall.ofB mixed tbOk Qxc Tryz.func25 rfl (by kernel_rfl) (Nat.le_of_ble_eq_true rfl) ?_;refine Qag h (fun o1 ho hk=>?_);refine Exists.intro (JP1 _ _ o1 (.exit 0) (Qqr p0)) (And.intro (Qnx (τ := Qcw p0 [] 0) ?_ (TL.loop (iQca p0 [] 0 o1 ho))) (Qa5 ?_))
  ·exact Le.tz 0 0 rfl rfl rfl
  have h:=hk;refine Qao (t:=Qf7) h ?_;exact .refl _
 ·intro Qfj' Qca' iQfj iQca p0 v3 v4 o1 h;refine TL.round (Qan mixed tbOk (lv:=Qxc) _ _ _ ?_);refine view (Qaw _ _) rfl ?_;refine Qaf h (fun hb h=>?_) (fun hb h=>?_)
  ·refine Qcv (l:=p0) (c:=Qae) (c' := Qa1) h Qai (fun _=>rfl) (by decide) (fun x2 hi h=>?_);refine Qaf h (fun hb h=>?_) (fun hb h=>?_)
   ·refine Qbb h (fun h=>?_);refine TL.le (τ := Qcw p0 (v3++x2.Text) (wr (v4+1))) ?_ ((iQca p0 (v3++x2.Text) (wr (v4+1)) _ h));exact Le.tz 0 0 rfl rfl rfl
   ·refine Qaf h (fun hb h=>?_) (fun hb h=>?_)
    ·refine Qbb h (fun h=>?_);refine Qcv (l:=x2.L) (c:=Qae) (c' := Qa1) h Qai (fun _=>rfl) (by decide) (fun x3 hi h=>?_);refine Qak [.agg [iV x3.Kind,sV x3.Name,sV x3.Text,iV x3.N,.sl false (x3.L.map Qae),.sl false (x3.Then.map Qae),.sl false (x3.Else.map Qae)]] Qcq h (fun x4 hy=>(Qmg x3 x4 hy)) (fun x4 hy h=>?_);refine Qbb h (fun h=>?_);refine Qbb h (fun h=>?_);refine TL.le (τ := Qcw p0 (((v3++[123,123,32])++x4)++[32,125,125]) (wr (v4+1))) ?_ ((iQca p0 (((v3++[123,123,32])++x4)++[32,125,125]) (wr (v4+1)) _ h));exact Le.tz 0 0 rfl rfl rfl
    ·refine Qaf h (fun hb h=>?_) (fun hb h=>?_)
     ·refine And.intro (by decide +kernel) (And.intro rfl ?_);refine Qbb h (fun h=>?_);refine Qbb h (fun h=>?_);refine Qbb h (fun h=>?_);refine Qcv (l:=x2.L) (c:=Qae) (c' := Qa1) h Qai (fun _=>rfl) (by decide) (fun x5 hi h=>?_);refine Qdc [.agg [iV x5.Kind,sV x5.Name,sV x5.Text,iV x5.N,.sl false (x5.L.map Qae),.sl false (x5.Then.map Qae),.sl false (x5.Else.map Qae)]] Qcq h (fun x6 hy=>(Qmg x5 x6 hy)) (fun x6 hy h=>?_);refine Qbb h (fun h=>?_);refine Qbb h (fun h=>?_);refine TL.le (τ := Qcw p0 (((((v3++[123,123,32,117,115,101,32])++x2.Name)++[32])++x6)++[32,125,125]) (wr (v4+1))) ?_ ((iQca p0 (((((v3++[123,123,32,117,115,101,32])++x2.Name)++[32])++x6)++[32,125,125]) (wr (v4+1)) _ h));exact Le.tz 0 0 rfl rfl rfl
     ·refine Qaf h (fun hb h=>?_) (fun hb h=>?_)
      ·refine And.intro (by decide +kernel) (And.intro rfl ?_);refine Qbb h (fun h=>?_);refine Qcv (l:=x2.L) (c:=Qae) (c' := Qa1) h Qai (fun _=>rfl) (by decide) (fun x7 hi h=>?_);refine Qdc [.agg [iV x7.Kind,sV x7.Name,sV x7.Text,iV x7.N,.sl false (x7.L.map Qae),.sl false (x7.Then.map Qae),.sl false (x7.Else.map Qae)]] Qcq h (fun x8 hy=>(Qmg x7 x8 hy)) (fun x8 hy h=>?_);refine Qbb h (fun h=>?_);refine Qbb h (fun h=>?_);refine Qdc [.sl false (x2.Then.map Qae)] Qf7 h (fun x9 hy=>(iQfj x2.Then x9 hy)) (fun x9 hy h=>?_);refine Qbb h (fun h=>?_);refine view (Qaw _ _) rfl ?_;refine Qaf h (fun hb h=>?_) (fun hb h=>?_)
       ·refine Qbb h (fun h=>?_);refine Qak [.sl false (x2.Else.map Qae)] Qf7 h (fun x10 hy=>(iQfj x2.Else x10 hy)) (fun x10 hy h=>?_);refine Qbb h (fun h=>?_);refine Qbb h (fun h=>?_);refine TL.le (τ := Qcw p0 (((((((v3++[123,123,32,105,102,32])++x8)++[32,125,125])++x9)++[123,123,32,101,108,115,101,32,125,125])++x10)++[123,123,32,101,110,100,32,125,125]) (wr (v4+1))) ?_ ((iQca p0 (((((((v3++[123,123,32,105,102,32])++x8)++[32,125,125])++x9)++[123,123,32,101,108,115,101,32,125,125])++x10)++[123,123,32,101,110,100,32,125,125]) (wr (v4+1)) _ h));exact Le.tz 0 0 rfl rfl rfl
       ·refine Qbb h (fun h=>?_);refine TL.le (τ := Qcw p0 (((((v3++[123,123,32,105,102,32])++x8)++[32,125,125])++x9)++[123,123,32,101,110,100,32,125,125]) (wr (v4+1))) ?_ ((iQca p0 (((((v3++[123,123,32,105,102,32])++x8)++[32,125,125])++x9)++[123,123,32,101,110,100,32,125,125]) (wr (v4+1)) _ h));exact Le.tz 0 0 rfl rfl rfl
      ·refine Qaf h (fun hb h=>?_) (fun hb h=>?_)
       ·refine And.intro (by decide +kernel) (And.intro rfl ?_);refine Qbb h (fun h=>?_);refine Qbb h (fun h=>?_);refine Qbb h (fun h=>?_);refine Qcv (l:=x2.L) (c:=Qae) (c' := Qa1) h Qai (fun _=>rfl) (by decide) (fun x11 hi h=>?_);refine Qdc [.agg [iV x11.Kind,sV x11.Name,sV x11.Text,iV x11.N,.sl false (x11.L.map Qae),.sl false (x11.Then.map Qae),.sl false (x11.Else.map Qae)]] Qcq h (fun x12 hy=>(Qmg x11 x12 hy)) (fun x12 hy h=>?_);refine Qbb h (fun h=>?_);refine Qbb h (fun h=>?_);refine Qdc [.sl false (x2.Then.map Qae)] Qf7 h (fun x13 hy=>(iQfj x2.Then x13 hy)) (fun x13 hy h=>?_);refine Qbb h (fun h=>?_);refine Qbb h (fun h=>?_);refine TL.le (τ := Qcw p0 (((((((v3++[123,123,32,101,97,99,104,32])++x2.Name)++[32,105,110,32])++x12)++[32,125,125])++x13)++[123,123,32,101,110,100,32,125,125]) (wr (v4+1))) ?_ ((iQca p0 (((((((v3++[123,123,32,101,97,99,104,32])++x2.Name)++[32,105,110,32])++x12)++[32,125,125])++x13)++[123,123,32,101,110,100,32,125,125]) (wr (v4+1)) _ h));exact Le.tz 0 0 rfl rfl rfl
       ·refine And.intro (by decide +kernel) (And.intro rfl ?_);refine Qbb h (fun h=>?_);refine Qbb h (fun h=>?_);refine Qbb h (fun h=>?_);refine Qcv (l:=x2.L) (c:=Qae) (c' := Qa1) h Qai (fun _=>rfl) (by decide) (fun x14 hi h=>?_);refine Qdc [.agg [iV x14.Kind,sV x14.Name,sV x14.Text,iV x14.N,.sl false (x14.L.map Qae),.sl false (x14.Then.map Qae),.sl false (x14.Else.map Qae)]] Qcq h (fun x15 hy=>(Qmg x14 x15 hy)) (fun x15 hy h=>?_);refine Qbb h (fun h=>?_);refine Qbb h (fun h=>?_);refine Qdc [.sl false (x2.Then.map Qae)] Qf7 h (fun x16 hy=>(iQfj x2.Then x16 hy)) (fun x16 hy h=>?_);refine Qbb h (fun h=>?_);refine Qbb h (fun h=>?_);refine TL.le (τ := Qcw p0 (((((((v3++[123,123,32,108,101,116,32])++x2.Name)++[32,61,32])++x15)++[32,125,125])++x16)++[123,123,32,101,110,100,32,125,125]) (wr (v4+1))) ?_ ((iQca p0 (((((((v3++[123,123,32,108,101,116,32])++x2.Name)++[32,61,32])++x15)++[32,125,125])++x16)++[123,123,32,101,110,100,32,125,125]) (wr (v4+1)) _ h));exact Le.tz 0 0 rfl rfl rfl
  ·exact JP1.a h (Le.tz 0 0 rfl rfl rfl)
theorem Q7u:∀ (p0:(List Qab)) (o:(List UInt8)),Qfj p0=some o→PCall Tryz.prog 25 [.sl false (p0.map Qae)] (Qf7 o):=fun p0=>Q4y.1 p0
def Qoc (p0:(List Qab)):Option ((List UInt8)×Bool) :=
 Q7t p0>>=fun x1 =>
 if(!x1) then
  some ([],false)
 else
  Qfj p0>>=fun x2 =>
  if(decide ((x2.length:Int)>65536)) then
   some ([],false)
  else
   some (x2,true)
theorem Q7v:∀ (p0:(List Qab)) (o:(List UInt8)×Bool),Qoc p0=some o→PCall Tryz.prog 11 [.sl false (p0.map Qae)] (Ql1 o):=by
 intro p0 o h;unfold Qoc at h;refine PCall.ofB mixed tbOk Q7f Tryz.func11 rfl (by kernel_rfl) (Nat.le_of_ble_eq_true rfl) ?_;refine Qak [.sl false (p0.map Qae)] Q3x h (fun x1 hy=>(Qafq p0 x1 hy)) (fun x1 hy h=>?_);refine Qaf h (fun hb h=>?_) (fun hb h=>?_)
 ·refine Qao (t:=Ql1) h ?_;exact .refl _
 ·refine Qak [.sl false (p0.map Qae)] Qf7 h (fun x2 hy=>(Q7u p0 x2 hy)) (fun x2 hy h=>?_);refine vrfl ?_;refine Qaf h (fun hb h=>?_) (fun hb h=>?_)
  ·refine Qao (t:=Ql1) h ?_;exact .refl _
  ·refine Qao (t:=Ql1) h ?_;exact .refl _
mutual
def Qhc (p0:(List Qab)) (p1:(List Qab)):Option (Bool) :=
 if((p0.length:Int) != (p1.length:Int)) then
  some false
 else
  (Qhv p0 p1 0)>>=fun o1 =>
  match o1 with
  | .inl y2 =>
   some true
  | .inr y3 =>
   some false
 partial_fixpoint
def Qhv (p0:(List Qab)) (p1:(List Qab)) (v5:Int):Option (Unit⊕Unit) :=
 if(decide (v5<(p0.length:Int))) then
  ( idx p0 v5>>=fun x5 =>
   idx p1 v5>>=fun x6 =>
   some (x5.Kind,x5.Name,x5.Text,x5.N,x5.L,x5.Then,x5.Else,x6.Kind,x6.Name,x6.Text,x6.N,x6.L,x6.Then,x6.Else):Option ((Int×(List UInt8)×(List UInt8)×Int×(List Qab)×(List Qab)×(List Qab)×Int×(List UInt8)×(List UInt8)×Int×(List Qab)×(List Qab)×(List Qab))))>>=fun o4 =>
  ( if(o4.1 != o4.2.2.2.2.2.2.2.1) then
    some true
   else
    if(!(o4.2.1==o4.2.2.2.2.2.2.2.2.1)) then
     some true
    else
     if(!(o4.2.2.1==o4.2.2.2.2.2.2.2.2.2.1)) then
      some true
     else
      if(o4.2.2.2.1 != o4.2.2.2.2.2.2.2.2.2.2.1) then
       some true
      else
       Qhc o4.2.2.2.2.1 o4.2.2.2.2.2.2.2.2.2.2.2.1>>=fun x8 =>
       if(!x8) then
        some true
       else
        Qhc o4.2.2.2.2.2.1 o4.2.2.2.2.2.2.2.2.2.2.2.2.1>>=fun x9 =>
        if(!x9) then
         some true
        else
         Qhc o4.2.2.2.2.2.2.1 o4.2.2.2.2.2.2.2.2.2.2.2.2.2>>=fun x10 =>
         some (!x10):Option (Bool))>>=fun o7 =>
  if o7 then
   some (.inr ())
  else
   Qhv p0 p1 (wr (v5+1))
 else
  some (.inl ())
 partial_fixpoint
end
theorem Q7w:(∀ (p0:(List Qab)) (p1:(List Qab)) (o:Bool),Qhc p0 p1=some o→PCall Tryz.prog 9 [.sl false (p0.map Qae),.sl false (p1.map Qae)] (Qfo o))∧(∀ (p0:(List Qab)) (p1:(List Qab)) (v5:Int) (o1:Unit⊕Unit),Qhv p0 p1 v5=some o1→TL (0,0) Tryz.prog 77 Q31 (JP2 (0,0) 77 o1 (.exit 0) (Qtn p0 p1) .ret (Qto p0 p1)) (Qnp p0 p1 v5)):=by
 refine Qhc.mutual_partial_correctness _ _ ?_ ?_
 ·intro Qhv' iQhv p0 p1 o h;refine PCall.ofB mixed tbOk Qzr Tryz.func9 rfl (by kernel_rfl) (Nat.le_of_ble_eq_true rfl) ?_;refine view (Qaw _ _) rfl ?_;refine view (Qaw _ _) rfl ?_;refine Qaf h (fun hb h=>?_) (fun hb h=>?_)
  ·refine Qao (t:=Qfo) h ?_;exact .refl _
  ·refine Qag h (fun o1 ho hk=>?_);refine Exists.intro (JP2 _ _ o1 (.exit 0) (Qtn p0 p1) .ret (Qto p0 p1)) (And.intro (Qnx (τ := Qnp p0 p1 0) ?_ (TL.loop (iQhv p0 p1 0 o1 ho))) (Qlx (fun y2 hy=>?_) (fun y3 hy=>?_)))
   ·exact Le.tz 0 0 rfl rfl rfl
   ·have h:=(by rw[hy] at hk; exact hk);refine Qao (t:=Qfo) h ?_;exact .refl _
   ·have h:=(by rw[hy] at hk; exact hk);refine Qao (t:=Qfo) h ?_;exact .refl _
 ·intro Qhc' Qhv' iQhc iQhv p0 p1 v5 o1 h;refine TL.round (Qan mixed tbOk (lv:=Qzr) _ _ _ ?_);refine view (Qaw _ _) rfl ?_;refine Qaf h (fun hb h=>?_) (fun hb h=>?_)
  ·refine Qag h (fun o4 ho hk=>?_);refine Exists.intro (JP1 _ _ o4 .normal (Q3z p0 p1 v5)) (And.intro ?_ (Qa5 ?_))
   ·have h:=ho;refine And.intro (by decide +kernel) (And.intro (by decide +kernel) (And.intro (by decide +kernel) (And.intro rfl ?_)));refine Qcv (l:=p0) (c:=Qae) (c' := Qa1) h Qai (fun _=>rfl) (by decide) (fun x5 hi h=>?_);refine Qcv (l:=p1) (c:=Qae) (c' := Qa1) h Qai (fun _=>rfl) (by decide) (fun x6 hi h=>?_);refine And.intro (Nat.le_of_ble_eq_true rfl) (And.intro ?_ ?_)
    ·refine JP1.a h ?_;exact Le.tz 2 0 rfl rfl rfl
    ·refine JP1.a h ?_;exact Le.trans (τ := ⟨[(0,.p (.sl false (p0.map Qae))),(1,.p (.sl false (p1.map Qae))),(5,.p (iV v5)),(6,.ptr 0 0),(7,.ptr 1 0)],⟨[[.p (iV x5.Kind),.p (sV x5.Name),.p (sV x5.Text),.p (iV x5.N),.p (.sl false (x5.L.map Qae)),.p (.sl false (x5.Then.map Qae)),.p (.sl false (x5.Else.map Qae))],[.p (iV x6.Kind),.p (sV x6.Name),.p (sV x6.Text),.p (iV x6.N),.p (.sl false (x6.L.map Qae)),.p (.sl false (x6.Then.map Qae)),.p (.sl false (x6.Else.map Qae))]],[]⟩⟩) (Le.perm [1,0] rfl rfl rfl) (Le.tz 2 0 rfl rfl rfl)
   ·have h:=hk;refine Qag h (fun o7 ho hk=>?_);refine Exists.intro (JP1 _ _ o7 .normal (Q30 p0 p1 v5 o4)) (And.intro ?_ (Qa5 ?_))
    ·have h:=ho;refine Qaf h (fun hb h=>?_) (fun hb h=>?_)
     ·refine bT ?_;refine bT ?_;refine bT ?_;refine bT ?_;refine bT ?_;refine JP1.a h ?_;exact Le.tz 2 0 rfl rfl rfl
     ·refine Qaf h (fun hb h=>?_) (fun hb h=>?_)
      ·refine bT ?_;refine bT ?_;refine bT ?_;refine bT ?_;refine JP1.a h ?_;exact Le.tz 2 0 rfl rfl rfl
      ·refine Qaf h (fun hb h=>?_) (fun hb h=>?_)
       ·refine bT ?_;refine bT ?_;refine bT ?_;refine JP1.a h ?_;exact Le.tz 2 0 rfl rfl rfl
       ·refine Qaf h (fun hb h=>?_) (fun hb h=>?_)
        ·refine bT ?_;refine bT ?_;refine JP1.a h ?_;exact Le.tz 2 0 rfl rfl rfl
        ·refine Qak [.sl false (o4.2.2.2.2.1.map Qae),.sl false (o4.2.2.2.2.2.2.2.2.2.2.2.1.map Qae)] Qfo h (fun x8 hy=>(iQhc o4.2.2.2.2.1 o4.2.2.2.2.2.2.2.2.2.2.2.1 x8 hy)) (fun x8 hy h=>?_);refine Qaf h (fun hb h=>?_) (fun hb h=>?_)
         ·refine bT ?_;refine JP1.a h ?_;exact Le.tz 2 0 rfl rfl rfl
         ·refine Qak [.sl false (o4.2.2.2.2.2.1.map Qae),.sl false (o4.2.2.2.2.2.2.2.2.2.2.2.2.1.map Qae)] Qfo h (fun x9 hy=>(iQhc o4.2.2.2.2.2.1 o4.2.2.2.2.2.2.2.2.2.2.2.2.1 x9 hy)) (fun x9 hy h=>?_);refine Qaf h (fun hb h=>?_) (fun hb h=>?_)
          ·refine JP1.a h ?_;exact Le.tz 2 0 rfl rfl rfl
          ·refine Qak [.sl false (o4.2.2.2.2.2.2.1.map Qae),.sl false (o4.2.2.2.2.2.2.2.2.2.2.2.2.2.map Qae)] Qfo h (fun x10 hy=>(iQhc o4.2.2.2.2.2.2.1 o4.2.2.2.2.2.2.2.2.2.2.2.2.2 x10 hy)) (fun x10 hy h=>?_);refine JP1.a h ?_;exact Le.tz 2 0 rfl rfl rfl
    ·have h:=hk;refine Qaf h (fun hb h=>?_) (fun hb h=>?_)
     ·exact JP2.b h (Le.tz 0 0 rfl rfl rfl)
     ·refine TL.le (τ := Qnp p0 p1 (wr (v5+1))) ?_ ((iQhv p0 p1 (wr (v5+1)) _ h));exact Le.tz 0 0 rfl rfl rfl
  ·exact JP2.a h (Le.tz 0 0 rfl rfl rfl)
theorem Qz8:∀ (p0:(List Qab)) (p1:(List Qab)) (o:Bool),Qhc p0 p1=some o→PCall Tryz.prog 9 [.sl false (p0.map Qae),.sl false (p1.map Qae)] (Qfo o):=fun p0 p1=>Q7w.1 p0 p1
def Qap (p1:Int) (h0_0:(List Qaa)) (h0_1:Int) (h0_2:Bool):Option (Bool) :=
 ( if(!h0_2) then
   if(decide (h0_1<(h0_0.length:Int))) then
    idx h0_0 h0_1>>=fun x2 =>
    some (x2.Kind==p1)
   else
    some false
  else
   some false:Option (Bool))>>=fun o1 =>
 some o1
theorem Qas:∀ (p1:Int) (h0_0:(List Qaa)) (h0_1:Int) (h0_2:Bool) (o:Bool),Qap p1 h0_0 h0_1 h0_2=some o→CallOK Tryz.prog 42 [.ptr 0 0,.p (iV p1)] ⟨[[.p (.sl false (h0_0.map Qad)),.p (iV h0_1),.p (bV h0_2)]],[]⟩ (Qds o) ⟨[[.p (.sl false (h0_0.map Qad)),.p (iV h0_1),.p (bV h0_2)]],[]⟩:=by
 intro p1 h0_0 h0_1 h0_2 o h;unfold Qap at h;refine CallOK.ofB mixed tbOk Qxr Tryz.func42 rfl (by kernel_rfl) (Nat.le_of_ble_eq_true rfl) rfl rfl rfl ?_;refine Qag h (fun o1 ho hk=>?_);refine Exists.intro (JP1 _ _ o1 .normal (Qvc h0_0 h0_1 h0_2)) (And.intro ?_ (Qa5 ?_))
 ·have h:=ho;refine And.intro (by decide +kernel) (And.intro rfl ?_);refine Qaf h (fun hb h=>?_) (fun hb h=>?_)
  ·refine view (Qaw _ _) rfl ?_;refine Qaf h (fun hb h=>?_) (fun hb h=>?_)
   ·refine Qcv (l:=h0_0) (c:=Qad) (c' := Qad) h (fun _=>rfl) (fun _=>rfl) (by decide) (fun x2 hi h=>?_);refine JP1.a h ?_;exact Le.tz 1 0 rfl rfl rfl
   ·refine JP1.a h ?_;exact Le.tz 1 0 rfl rfl rfl
  ·refine bF ?_;refine JP1.a h ?_;exact Le.tz 1 0 rfl rfl rfl
 ·have h:=hk;refine Exists.intro _ (And.intro (Le.refl _ _ _) ?_);exact Qbd (t:=Qds) (ss:=fun o=>⟨[[.p (.sl false (h0_0.map Qad)),.p (iV h0_1),.p (bV h0_2)]],[]⟩) h ⟨[],rfl,.refl _,.refl _,rfl⟩
def Qbw (p1:(List UInt8)) (h0_0:(List Qaa)) (h0_1:Int) (h0_2:Bool):Option (Bool) :=
 ( Qap 2 h0_0 h0_1 h0_2>>=fun x2 =>
  if x2 then
   if(decide ((wr (h0_1+1))<(h0_0.length:Int))) then
    idx h0_0 (wr (h0_1+1))>>=fun x3 =>
    if(x3.Kind==4) then
     idx h0_0 (wr (h0_1+1))>>=fun x4 =>
     some (x4.Text==p1)
    else
     some false
   else
    some false
  else
   some false:Option (Bool))>>=fun o1 =>
 some o1
theorem Qe8:∀ (p1:(List UInt8)) (h0_0:(List Qaa)) (h0_1:Int) (h0_2:Bool) (o:Bool),Qbw p1 h0_0 h0_1 h0_2=some o→CallOK Tryz.prog 44 [.ptr 0 0,.p (sV p1)] ⟨[[.p (.sl false (h0_0.map Qad)),.p (iV h0_1),.p (bV h0_2)]],[]⟩ (Qm2 o) ⟨[[.p (.sl false (h0_0.map Qad)),.p (iV h0_1),.p (bV h0_2)]],[]⟩:=by
 intro p1 h0_0 h0_1 h0_2 o h;unfold Qbw at h;refine CallOK.ofB mixed tbOk Qt9 Tryz.func44 rfl (by kernel_rfl) (Nat.le_of_ble_eq_true rfl) rfl rfl rfl ?_;refine Qag h (fun o1 ho hk=>?_);refine Exists.intro (JP1 _ _ o1 .normal (Qqw h0_0 h0_1 h0_2)) (And.intro ?_ (Qa5 ?_))
 ·have h:=ho;refine And.intro (by decide +kernel) (And.intro rfl ?_);refine Qu2 (fun x2=>(Qds x2).ren [0] []) h (fun x2 hy=>(Qas 2 h0_0 h0_1 h0_2 x2 hy).fd rfl rfl [0] rfl rfl) (fun x2 hy h=>?_);refine Qaf h (fun hb h=>?_) (fun hb h=>?_)
  ·refine view (Qaw _ _) rfl ?_;refine Qaf h (fun hb h=>?_) (fun hb h=>?_)
   ·refine Qcv (l:=h0_0) (c:=Qad) (c' := Qad) h (fun _=>rfl) (fun _=>rfl) (by decide) (fun x3 hi h=>?_);refine Qaf h (fun hb h=>?_) (fun hb h=>?_)
    ·refine Qcv (l:=h0_0) (c:=Qad) (c' := Qad) h (fun _=>rfl) (fun _=>rfl) (by decide) (fun x4 hi h=>?_);refine JP1.a h ?_;exact Le.tz 1 0 rfl rfl rfl
    ·refine JP1.a h ?_;exact Le.tz 1 0 rfl rfl rfl
   ·refine bF ?_;refine JP1.a h ?_;exact Le.tz 1 0 rfl rfl rfl
  ·refine bF ?_;refine bF ?_;refine JP1.a h ?_;exact Le.tz 1 0 rfl rfl rfl
 ·have h:=hk;refine Exists.intro _ (And.intro (Le.refl _ _ _) ?_);exact Qbd (t:=Qm2) (ss:=fun o=>⟨[[.p (.sl false (h0_0.map Qad)),.p (iV h0_1),.p (bV h0_2)]],[]⟩) h ⟨[],rfl,.refl _,.refl _,rfl⟩
def Qaj (p1:Bool) (h0_0:(List Qaa)) (h0_1:Int) (h0_2:Bool):Option (Qaa×Int×Bool) :=
 ( if(!p1) then
   some true
  else
   some h0_2:Option (Bool))>>=fun o1 =>
 if o1 then
  some ((Qaa.mk 0 [] 0 0 0),h0_1,true)
 else
  idx h0_0 (wr ((wr (h0_1+1))-1))>>=fun x2 =>
  some (x2,(wr (h0_1+1)),h0_2)
theorem Qal:∀ (p1:Bool) (h0_0:(List Qaa)) (h0_1:Int) (h0_2:Bool) (o:Qaa×Int×Bool),Qaj p1 h0_0 h0_1 h0_2=some o→CallOK Tryz.prog 43 [.ptr 0 0,.p (bV p1)] ⟨[[.p (.sl false (h0_0.map Qad)),.p (iV h0_1),.p (bV h0_2)]],[]⟩ (Qju o) ⟨[[.p (.sl false (h0_0.map Qad)),.p (iV o.2.1),.p (bV o.2.2)]],[]⟩:=by
 intro p1 h0_0 h0_1 h0_2 o h;unfold Qaj at h;refine CallOK.ofB mixed tbOk Qve Tryz.func43 rfl (by kernel_rfl) (Nat.le_of_ble_eq_true rfl) rfl rfl rfl ?_;refine Qag h (fun o1 ho hk=>?_);refine Exists.intro (JP1 _ _ o1 .normal (Qss h0_0 h0_1 h0_2)) (And.intro ?_ (Qa5 ?_))
 ·have h:=ho;refine Qaf h (fun hb h=>?_) (fun hb h=>?_)
  ·refine JP1.a h ?_;exact Le.tz 2 0 rfl rfl rfl
  ·refine JP1.a h ?_;exact Le.tz 2 0 rfl rfl rfl
 ·have h:=hk;refine Qaf h (fun hb h=>?_) (fun hb h=>?_)
  ·refine Exists.intro _ (And.intro (Le.refl _ _ _) ?_);exact Qbd (t:=Qju) (ss:=fun o=>⟨[[.p (.sl false (h0_0.map Qad)),.p (iV o.2.1),.p (bV o.2.2)]],[]⟩) h ⟨[],rfl,.refl _,.refl _,rfl⟩
  ·refine And.intro (by decide +kernel) (And.intro rfl ?_);refine Qcv (l:=h0_0) (c:=Qad) (c' := Qad) h (fun _=>rfl) (fun _=>rfl) (by decide) (fun x2 hi h=>?_);refine Exists.intro _ (And.intro (Le.refl _ _ _) ?_);exact Qbd (t:=Qju) (ss:=fun o=>⟨[[.p (.sl false (h0_0.map Qad)),.p (iV o.2.1),.p (bV o.2.2)]],[]⟩) h ⟨[],rfl,.refl _,.refl _,rfl⟩
instance Q5o:Lean.Order.CCPO ((List Qab)→(List Qab)→(List Qab)→Option ((Int×Bool×Int×(List UInt8)×(List UInt8)×Int×(List Qab)×(List Qab)×(List Qab)))):=inferInstance
instance Q5p:Lean.Order.CCPO ((List UInt8)→(List UInt8)→Int→(List Qab)→(List Qab)→(List Qab)→Option ((Int×Bool×Int×(List UInt8)×(List UInt8)×Int×(List Qab)×(List Qab)×(List Qab)))):=inferInstance
def Qb6 (h0_0:(List Qaa)) (h0_1_:Int) (h0_2_:Bool) (h2_0:Int) (h2_1:(List UInt8)) (h2_2:(List UInt8)) (h2_3:Int) (h2_4:(List Qab)) (h2_5:(List Qab)) (h2_6:(List Qab)):Option ((Int×Bool×Int×(List UInt8)×(List UInt8)×Int×(List Qab)×(List Qab)×(List Qab))) :=
 Qap 7 h0_0 h0_1_ h0_2_>>=fun x3 =>
 if x3 then
  Qaj true h0_0 h0_1_ h0_2_>>=fun x4 =>
  Qap 4 h0_0 x4.2.1 x4.2.2>>=fun x5 =>
  Qaj x5 h0_0 x4.2.1 x4.2.2>>=fun x6 =>
  Qb6 h0_0 x6.2.1 x6.2.2 5 x6.1.Text [] 0 [(Qab.mk h2_0 h2_1 h2_2 h2_3 h2_4 h2_5 h2_6)] [] []
 else
  some (h0_1_,h0_2_,h2_0,h2_1,h2_2,h2_3,h2_4,h2_5,h2_6)
 partial_fixpoint
theorem Q5q:∀ (h0_0:(List Qaa)),(∀ (h0_1_:Int) (h0_2_:Bool) (h2_0:Int) (h2_1:(List UInt8)) (h2_2:(List UInt8)) (h2_3:Int) (h2_4:(List Qab)) (h2_5:(List Qab)) (h2_6:(List Qab)) (o2:(Int×Bool×Int×(List UInt8)×(List UInt8)×Int×(List Qab)×(List Qab)×(List Qab))),Qb6 h0_0 h0_1_ h0_2_ h2_0 h2_1 h2_2 h2_3 h2_4 h2_5 h2_6=some o2→TL (1,0) Tryz.prog 19 Qsp (JP1 (1,0) 19 o2 (.exit 0) (Qkh h0_0)) (Qga h0_0 h0_1_ h0_2_ h2_0 h2_1 h2_2 h2_3 h2_4 h2_5 h2_6)):=by
 intro h0_0;refine Qb6.partial_correctness h0_0 _ ?_;intro Qb6' iQb6 h0_1_ h0_2_ h2_0 h2_1 h2_2 h2_3 h2_4 h2_5 h2_6 o2 h;refine TL.round (Qan mixed tbOk (lv:=Qm3) _ _ _ ?_);refine Qah _ _ h (fun x3 hy=>((Qas 7 h0_0 h0_1_ h0_2_ x3 hy).fr [0] [] rfl rfl rfl)) (fun x3 hy h=>?_);refine Qaf h (fun hb h=>?_) (fun hb h=>?_)
 ·refine Qah _ _ h (fun x4 hy=>((Qal true h0_0 h0_1_ h0_2_ x4 hy).fr [0] [] rfl rfl rfl)) (fun x4 hy h=>?_);refine And.intro (by decide +kernel) (And.intro rfl ?_);refine Qu2 (fun x5=>(Qds x5).ren [0] []) h (fun x5 hy=>(Qas 4 h0_0 x4.2.1 x4.2.2 x5 hy).fd rfl rfl [0] rfl rfl) (fun x5 hy h=>?_);refine Qmy _ _ h (fun x6 hy=>((Qal x5 h0_0 x4.2.1 x4.2.2 x6 hy).fg [0] [] rfl rfl rfl (Nat.le_of_ble_eq_true rfl))) (fun x6 hy h=>?_);refine TL.le (τ := Qga h0_0 x6.2.1 x6.2.2 5 x6.1.Text [] 0 [(Qab.mk h2_0 h2_1 h2_2 h2_3 h2_4 h2_5 h2_6)] [] []) ?_ ((iQb6 x6.2.1 x6.2.2 5 x6.1.Text [] 0 [(Qab.mk h2_0 h2_1 h2_2 h2_3 h2_4 h2_5 h2_6)] [] [] _ h));exact Le.tow 3 0 rfl (.cons rfl (.refl _) (.cons rfl (.refl _) (.cons rfl (.refl _) (.nil)))) (.cons (.refl _) (.cons (.refl _) (.cons (.cons (.refl _) (.cons (.refl _) (.cons (.refl _) (.cons (.refl _) (.cons (.p (.no (.cons (.ceq (Qai _) (.refl _)) (.nil)))) (.cons (.p (.not)) (.cons (.p (.not)) (.nil)))))))) (.nil)))) rfl
 ·exact JP1.a h (Le.tz 3 0 rfl rfl rfl)
def Qcz (h0_0:(List Qaa)) (h0_1:Int) (h0_2:Bool):Option ((List UInt8)×Int×Bool) :=
 ( Qap 4 h0_0 h0_1 h0_2>>=fun x2 =>
  if x2 then
   idx h0_0 h0_1>>=fun x3 =>
   Qlh x3.Text>>=fun x4 =>
   Qaj x4 h0_0 h0_1 h0_2>>=fun x5 =>
   some (x5.1.Text,x5.2.1,x5.2.2)
  else
   Qaj false h0_0 h0_1 h0_2>>=fun x6 =>
   some (x6.1.Text,x6.2.1,x6.2.2):Option (((List UInt8)×Int×Bool)))>>=fun o1 =>
 some (o1.1,o1.2.1,o1.2.2)
theorem Qi4:∀ (h0_0:(List Qaa)) (h0_1:Int) (h0_2:Bool) (o:(List UInt8)×Int×Bool),Qcz h0_0 h0_1 h0_2=some o→CallOK Tryz.prog 70 [.ptr 0 0] ⟨[[.p (.sl false (h0_0.map Qad)),.p (iV h0_1),.p (bV h0_2)]],[]⟩ (Qn4 o) ⟨[[.p (.sl false (h0_0.map Qad)),.p (iV o.2.1),.p (bV o.2.2)]],[]⟩:=by
 intro h0_0 h0_1 h0_2 o h;unfold Qcz at h;refine CallOK.ofB mixed tbOk Qvd Tryz.func70 rfl (by kernel_rfl) (Nat.le_of_ble_eq_true rfl) rfl rfl rfl ?_;refine Qag h (fun o1 ho hk=>?_);refine Exists.intro (JP1 _ _ o1 .normal (Qsr h0_0)) (And.intro ?_ (Qa5 ?_))
 ·have h:=ho;refine And.intro (by decide +kernel) (And.intro rfl ?_);refine Qu2 (fun x2=>(Qds x2).ren [0] []) h (fun x2 hy=>(Qas 4 h0_0 h0_1 h0_2 x2 hy).fd rfl rfl [0] rfl rfl) (fun x2 hy h=>?_);refine Qaf h (fun hb h=>?_) (fun hb h=>?_)
  ·refine Qcv (l:=h0_0) (c:=Qad) (c' := Qad) h (fun _=>rfl) (fun _=>rfl) (by decide) (fun x3 hi h=>?_);refine Qdc [sV x3.Text] Qh6 h (fun x4 hy=>(Qmh x3.Text x4 hy)) (fun x4 hy h=>?_);refine Qmy _ _ h (fun x5 hy=>((Qal x4 h0_0 h0_1 h0_2 x5 hy).fg [0] [] rfl rfl rfl (Nat.le_of_ble_eq_true rfl))) (fun x5 hy h=>?_);refine JP1.a h ?_;exact Le.tz 1 0 rfl rfl rfl
  ·refine Qmy _ _ h (fun x6 hy=>((Qal false h0_0 h0_1 h0_2 x6 hy).fg [0] [] rfl rfl rfl (Nat.le_of_ble_eq_true rfl))) (fun x6 hy h=>?_);refine JP1.a h ?_;exact Le.tz 1 0 rfl rfl rfl
 ·have h:=hk;refine Exists.intro _ (And.intro (Le.refl _ _ _) ?_);exact Qbd (t:=Qn4) (ss:=fun o=>⟨[[.p (.sl false (h0_0.map Qad)),.p (iV o.2.1),.p (bV o.2.2)]],[]⟩) h ⟨[],rfl,.refl _,.refl _,rfl⟩
def Qbl (p1:(List UInt8)) (h0_0:(List Qaa)) (h0_1:Int) (h0_2:Bool):Option (Bool) :=
 ( Qap 4 h0_0 h0_1 h0_2>>=fun x2 =>
  if x2 then
   idx h0_0 h0_1>>=fun x3 =>
   some (x3.Text==p1)
  else
   some false:Option (Bool))>>=fun o1 =>
 some o1
theorem Qbq:∀ (p1:(List UInt8)) (h0_0:(List Qaa)) (h0_1:Int) (h0_2:Bool) (o:Bool),Qbl p1 h0_0 h0_1 h0_2=some o→CallOK Tryz.prog 66 [.ptr 0 0,.p (sV p1)] ⟨[[.p (.sl false (h0_0.map Qad)),.p (iV h0_1),.p (bV h0_2)]],[]⟩ (Qn5 o) ⟨[[.p (.sl false (h0_0.map Qad)),.p (iV h0_1),.p (bV h0_2)]],[]⟩:=by
 intro p1 h0_0 h0_1 h0_2 o h;unfold Qbl at h;refine CallOK.ofB mixed tbOk Qvf Tryz.func66 rfl (by kernel_rfl) (Nat.le_of_ble_eq_true rfl) rfl rfl rfl ?_;refine Qag h (fun o1 ho hk=>?_);refine Exists.intro (JP1 _ _ o1 .normal (Qst h0_0 h0_1 h0_2)) (And.intro ?_ (Qa5 ?_))
 ·have h:=ho;refine And.intro (by decide +kernel) (And.intro rfl ?_);refine Qu2 (fun x2=>(Qds x2).ren [0] []) h (fun x2 hy=>(Qas 4 h0_0 h0_1 h0_2 x2 hy).fd rfl rfl [0] rfl rfl) (fun x2 hy h=>?_);refine Qaf h (fun hb h=>?_) (fun hb h=>?_)
  ·refine Qcv (l:=h0_0) (c:=Qad) (c' := Qad) h (fun _=>rfl) (fun _=>rfl) (by decide) (fun x3 hi h=>?_);refine JP1.a h ?_;exact Le.tz 1 0 rfl rfl rfl
  ·refine JP1.a h ?_;exact Le.tz 1 0 rfl rfl rfl
 ·have h:=hk;refine Exists.intro _ (And.intro (Le.refl _ _ _) ?_);exact Qbd (t:=Qn5) (ss:=fun o=>⟨[[.p (.sl false (h0_0.map Qad)),.p (iV h0_1),.p (bV h0_2)]],[]⟩) h ⟨[],rfl,.refl _,.refl _,rfl⟩
mutual
def Qay (h0_0:(List Qaa)) (h0_1:Int) (h0_2:Bool):Option (Qab×Int×Bool) :=
 Qdn h0_0 h0_1 h0_2>>=fun x1 =>
 (Qb6 h0_0 x1.2.1 x1.2.2 x1.1.Kind x1.1.Name x1.1.Text x1.1.N x1.1.L x1.1.Then x1.1.Else)>>=fun o2 =>
 some ((Qab.mk o2.2.2.1 o2.2.2.2.1 o2.2.2.2.2.1 o2.2.2.2.2.2.1 o2.2.2.2.2.2.2.1 o2.2.2.2.2.2.2.2.1 o2.2.2.2.2.2.2.2.2),o2.1,o2.2.1)
 partial_fixpoint
def Qdn (h0_0:(List Qaa)) (h0_1:Int) (h0_2:Bool):Option (Qab×Int×Bool) :=
 Qap 5 h0_0 h0_1 h0_2>>=fun x1 =>
 if x1 then
  Qaj true h0_0 h0_1 h0_2>>=fun x2 =>
  some ((Qab.mk 1 [] x2.1.Text 0 [] [] []),x2.2.1,x2.2.2)
 else
  Qap 6 h0_0 h0_1 h0_2>>=fun x3 =>
  if x3 then
   Qaj true h0_0 h0_1 h0_2>>=fun x4 =>
   some ((Qab.mk 2 [] [] x4.1.N [] [] []),x4.2.1,x4.2.2)
  else
   Qbl [116,114,117,101] h0_0 h0_1 h0_2>>=fun x5 =>
   if x5 then
    Qaj true h0_0 h0_1 h0_2>>=fun x6 =>
    some ((Qab.mk 3 [] [] 1 [] [] []),x6.2.1,x6.2.2)
   else
    Qbl [102,97,108,115,101] h0_0 h0_1 h0_2>>=fun x7 =>
    if x7 then
     Qaj true h0_0 h0_1 h0_2>>=fun x8 =>
     some ((Qab.mk 3 [] [] 0 [] [] []),x8.2.1,x8.2.2)
    else
     Qbl [115,101,99,114,101,116] h0_0 h0_1 h0_2>>=fun x9 =>
     if x9 then
      Qaj true h0_0 h0_1 h0_2>>=fun x10 =>
      Qap 8 h0_0 x10.2.1 x10.2.2>>=fun x11 =>
      Qaj x11 h0_0 x10.2.1 x10.2.2>>=fun x12 =>
      ( Qap 5 h0_0 x12.2.1 x12.2.2>>=fun x14 =>
       if x14 then
        idx h0_0 x12.2.1>>=fun x15 =>
        Qj9 x15.Text>>=fun x16 =>
        Qaj x16 h0_0 x12.2.1 x12.2.2>>=fun x17 =>
        some (x17.2.1,x17.2.2,x17.1.Kind,x17.1.Text,x17.1.N,x17.1.From,x17.1.To)
       else
        Qaj false h0_0 x12.2.1 x12.2.2>>=fun x18 =>
        some (x18.2.1,x18.2.2,x18.1.Kind,x18.1.Text,x18.1.N,x18.1.From,x18.1.To):Option ((Int×Bool×Int×(List UInt8)×Int×Int×Int)))>>=fun o13 =>
      Qap 9 h0_0 o13.1 o13.2.1>>=fun x19 =>
      Qaj x19 h0_0 o13.1 o13.2.1>>=fun x20 =>
      some ((Qab.mk 7 o13.2.2.2.1 [] 0 [] [] []),x20.2.1,x20.2.2)
     else
      Qcz h0_0 h0_1 h0_2>>=fun x21 =>
      Qap 8 h0_0 x21.2.1 x21.2.2>>=fun x22 =>
      if(!x22) then
       some ((Qab.mk 4 x21.1 [] 0 [] [] []),x21.2.1,x21.2.2)
      else
       Qaj true h0_0 x21.2.1 x21.2.2>>=fun x23 =>
       Qap 9 h0_0 x23.2.1 x23.2.2>>=fun x24 =>
       if x24 then
        Qaj true h0_0 x23.2.1 x23.2.2>>=fun x25 =>
        some ((Qab.mk 6 x21.1 [] 0 [] [] []),x25.2.1,x25.2.2)
       else
        (Qaq h0_0 x21 0 x23.2.1 x23.2.2 [])>>=fun o26 =>
        Qap 9 h0_0 o26.1 o26.2.1>>=fun x33 =>
        Qaj x33 h0_0 o26.1 o26.2.1>>=fun x34 =>
        some ((Qab.mk 6 x21.1 [] 0 o26.2.2 [] []),x34.2.1,x34.2.2)
 partial_fixpoint
def Qaq (h0_0:(List Qaa)) (x21:(List UInt8)×Int×Bool) (v5:Int) (h0_1_:Int) (h0_2_:Bool) (h2_4:(List Qab)):Option ((Int×Bool×(List Qab))) :=
 ( if(decide (v5<3)) then
   some (!h0_2_)
  else
   some false:Option (Bool))>>=fun o27 =>
 if o27 then
  Qay h0_0 h0_1_ h0_2_>>=fun x28 =>
  appL 120 h2_4 [x28.1]>>=fun x29 =>
  Qap 9 h0_0 x28.2.1 x28.2.2>>=fun x30 =>
  if x30 then
   some (x28.2.1,x28.2.2,x29)
  else
   if(decide (v5<2)) then
    Qap 10 h0_0 x28.2.1 x28.2.2>>=fun x31 =>
    Qaj x31 h0_0 x28.2.1 x28.2.2>>=fun x32 =>
    Qaq h0_0 x21 (wr (v5+1)) x32.2.1 x32.2.2 x29
   else
    Qaq h0_0 x21 (wr (v5+1)) x28.2.1 x28.2.2 x29
 else
  some (h0_1_,h0_2_,h2_4)
 partial_fixpoint
end
theorem Que:∀ (h0_0:(List Qaa)),(∀ (h0_1:Int) (h0_2:Bool) (o:Qab×Int×Bool),Qay h0_0 h0_1 h0_2=some o→CallOK Tryz.prog 67 [.ptr 0 0] ⟨[[.p (.sl false (h0_0.map Qad)),.p (iV h0_1),.p (bV h0_2)]],[]⟩ (Qjt o) ⟨[[.p (.sl false (h0_0.map Qad)),.p (iV o.2.1),.p (bV o.2.2)]],[]⟩)∧(∀ (h0_1:Int) (h0_2:Bool) (o:Qab×Int×Bool),Qdn h0_0 h0_1 h0_2=some o→CallOK Tryz.prog 95 [.ptr 0 0] ⟨[[.p (.sl false (h0_0.map Qad)),.p (iV h0_1),.p (bV h0_2)]],[]⟩ (Qb5 o) ⟨[[.p (.sl false (h0_0.map Qad)),.p (iV o.2.1),.p (bV o.2.2)]],[]⟩)∧(∀ (x21:(List UInt8)×Int×Bool) (v5:Int) (h0_1_:Int) (h0_2_:Bool) (h2_4:(List Qab)) (o26:(Int×Bool×(List Qab))),Qaq h0_0 x21 v5 h0_1_ h0_2_ h2_4=some o26→TL (1,0) Tryz.prog 107 Qq3 (JP1 (1,0) 107 o26 (.exit 0) (Qje h0_0 x21)) (Qdx h0_0 x21 v5 h0_1_ h0_2_ h2_4)):=by
 intro h0_0;refine Qay.mutual_partial_correctness h0_0 _ _ _ ?_ ?_ ?_
 ·intro Qdn' iQdn h0_1 h0_2 o h;refine CallOK.ofB mixed tbOk Qm3 Tryz.func67 rfl (by kernel_rfl) (Nat.le_of_ble_eq_true rfl) rfl rfl rfl ?_;refine Qah _ _ h (fun x1 hy=>((iQdn h0_1 h0_2 x1 hy).fr [0] [] rfl rfl rfl)) (fun x1 hy h=>?_);refine Qag h (fun o2 ho hk=>?_);refine Exists.intro (JP1 _ _ o2 (.exit 0) (Qkh h0_0)) (And.intro (Qnx (τ := Qga h0_0 x1.2.1 x1.2.2 x1.1.Kind x1.1.Name x1.1.Text x1.1.N x1.1.L x1.1.Then x1.1.Else) ?_ (TL.loop (Q5q h0_0 x1.2.1 x1.2.2 x1.1.Kind x1.1.Name x1.1.Text x1.1.N x1.1.L x1.1.Then x1.1.Else o2 ho))) (Qa5 ?_))
  ·exact Le.tz 3 0 rfl rfl rfl
  have h:=hk;refine Exists.intro _ (And.intro (Le.refl _ _ _) ?_);exact Qbd (t:=Qjt) (ss:=fun o=>⟨[[.p (.sl false (h0_0.map Qad)),.p (iV o.2.1),.p (bV o.2.2)]],[]⟩) h ⟨[],rfl,.refl _,.refl _,rfl⟩
 ·intro Qaq' iQaq h0_1 h0_2 o h;refine CallOK.ofB mixed tbOk Ql4 Tryz.func95 rfl (by kernel_rfl) (Nat.le_of_ble_eq_true rfl) rfl rfl rfl ?_;refine Qah _ _ h (fun x1 hy=>((Qas 5 h0_0 h0_1 h0_2 x1 hy).fr [0] [] rfl rfl rfl)) (fun x1 hy h=>?_);refine Qaf h (fun hb h=>?_) (fun hb h=>?_)
  ·refine Qah _ _ h (fun x2 hy=>((Qal true h0_0 h0_1 h0_2 x2 hy).fr [0] [] rfl rfl rfl)) (fun x2 hy h=>?_);refine Exists.intro _ (And.intro (Le.refl _ _ _) ?_);exact Qbd (t:=Qb5) (ss:=fun o=>⟨[[.p (.sl false (h0_0.map Qad)),.p (iV o.2.1),.p (bV o.2.2)]],[]⟩) h ⟨[],rfl,.p (.agg' (.cons (.refl _) (.cons (.refl _) (.cons (.refl _) (.cons (.refl _) (.cons (.not) (.cons (.not) (.cons (.not) (.nil))))))))),.refl _,rfl⟩
  ·refine Qah _ _ h (fun x3 hy=>((Qas 6 h0_0 h0_1 h0_2 x3 hy).fr [0] [] rfl rfl rfl)) (fun x3 hy h=>?_);refine Qaf h (fun hb h=>?_) (fun hb h=>?_)
   ·refine Qah _ _ h (fun x4 hy=>((Qal true h0_0 h0_1 h0_2 x4 hy).fr [0] [] rfl rfl rfl)) (fun x4 hy h=>?_);refine Exists.intro _ (And.intro (Le.refl _ _ _) ?_);exact Qbd (t:=Qb5) (ss:=fun o=>⟨[[.p (.sl false (h0_0.map Qad)),.p (iV o.2.1),.p (bV o.2.2)]],[]⟩) h ⟨[],rfl,.p (.agg' (.cons (.refl _) (.cons (.refl _) (.cons (.refl _) (.cons (.refl _) (.cons (.not) (.cons (.not) (.cons (.not) (.nil))))))))),.refl _,rfl⟩
   ·refine Qah _ _ h (fun x5 hy=>((Qbq [116,114,117,101] h0_0 h0_1 h0_2 x5 hy).fr [0] [] rfl rfl rfl)) (fun x5 hy h=>?_);refine Qaf h (fun hb h=>?_) (fun hb h=>?_)
    ·refine Qah _ _ h (fun x6 hy=>((Qal true h0_0 h0_1 h0_2 x6 hy).fr [0] [] rfl rfl rfl)) (fun x6 hy h=>?_);refine Exists.intro _ (And.intro (Le.refl _ _ _) ?_);exact Qbd (t:=Qb5) (ss:=fun o=>⟨[[.p (.sl false (h0_0.map Qad)),.p (iV o.2.1),.p (bV o.2.2)]],[]⟩) h ⟨[],rfl,.p (.agg' (.cons (.refl _) (.cons (.refl _) (.cons (.refl _) (.cons (.refl _) (.cons (.not) (.cons (.not) (.cons (.not) (.nil))))))))),.refl _,rfl⟩
    ·refine Qah _ _ h (fun x7 hy=>((Qbq [102,97,108,115,101] h0_0 h0_1 h0_2 x7 hy).fr [0] [] rfl rfl rfl)) (fun x7 hy h=>?_);refine Qaf h (fun hb h=>?_) (fun hb h=>?_)
     ·refine Qah _ _ h (fun x8 hy=>((Qal true h0_0 h0_1 h0_2 x8 hy).fr [0] [] rfl rfl rfl)) (fun x8 hy h=>?_);refine Exists.intro _ (And.intro (Le.refl _ _ _) ?_);exact Qbd (t:=Qb5) (ss:=fun o=>⟨[[.p (.sl false (h0_0.map Qad)),.p (iV o.2.1),.p (bV o.2.2)]],[]⟩) h ⟨[],rfl,.p (.agg' (.cons (.refl _) (.cons (.refl _) (.cons (.refl _) (.cons (.refl _) (.cons (.not) (.cons (.not) (.cons (.not) (.nil))))))))),.refl _,rfl⟩
     ·refine Qah _ _ h (fun x9 hy=>((Qbq [115,101,99,114,101,116] h0_0 h0_1 h0_2 x9 hy).fr [0] [] rfl rfl rfl)) (fun x9 hy h=>?_);refine Qaf h (fun hb h=>?_) (fun hb h=>?_)
      ·refine Qah _ _ h (fun x10 hy=>((Qal true h0_0 h0_1 h0_2 x10 hy).fr [0] [] rfl rfl rfl)) (fun x10 hy h=>?_);refine Qah _ _ h (fun x11 hy=>((Qas 8 h0_0 x10.2.1 x10.2.2 x11 hy).fr [0] [] rfl rfl rfl)) (fun x11 hy h=>?_);refine Qah _ _ h (fun x12 hy=>((Qal x11 h0_0 x10.2.1 x10.2.2 x12 hy).fr [0] [] rfl rfl rfl)) (fun x12 hy h=>?_);refine Qag h (fun o13 ho hk=>?_);refine Exists.intro (JP1 _ _ o13 .normal (Qq1 h0_0)) (And.intro ?_ (Qa5 ?_))
       ·have h:=ho;refine And.intro (by decide +kernel) (And.intro rfl ?_);refine Qu2 (fun x14=>(Qds x14).ren [0] []) h (fun x14 hy=>(Qas 5 h0_0 x12.2.1 x12.2.2 x14 hy).fd rfl rfl [0] rfl rfl) (fun x14 hy h=>?_);refine Qaf h (fun hb h=>?_) (fun hb h=>?_)
        ·refine Qcv (l:=h0_0) (c:=Qad) (c' := Qad) h (fun _=>rfl) (fun _=>rfl) (by decide) (fun x15 hi h=>?_);refine Qdc [sV x15.Text] Qgo h (fun x16 hy=>(Qmf x15.Text x16 hy)) (fun x16 hy h=>?_);refine Qmy _ _ h (fun x17 hy=>((Qal x16 h0_0 x12.2.1 x12.2.2 x17 hy).fg [0] [] rfl rfl rfl (Nat.le_of_ble_eq_true rfl))) (fun x17 hy h=>?_);refine JP1.a h ?_;exact Le.tz 3 0 rfl rfl rfl
        ·refine Qmy _ _ h (fun x18 hy=>((Qal false h0_0 x12.2.1 x12.2.2 x18 hy).fg [0] [] rfl rfl rfl (Nat.le_of_ble_eq_true rfl))) (fun x18 hy h=>?_);refine JP1.a h ?_;exact Le.tz 3 0 rfl rfl rfl
       ·have h:=hk;refine Qah _ _ h (fun x19 hy=>((Qas 9 h0_0 o13.1 o13.2.1 x19 hy).fr [0] [] rfl rfl rfl)) (fun x19 hy h=>?_);refine Qah _ _ h (fun x20 hy=>((Qal x19 h0_0 o13.1 o13.2.1 x20 hy).fr [0] [] rfl rfl rfl)) (fun x20 hy h=>?_);refine Exists.intro _ (And.intro (Le.refl _ _ _) ?_);exact Qbd (t:=Qb5) (ss:=fun o=>⟨[[.p (.sl false (h0_0.map Qad)),.p (iV o.2.1),.p (bV o.2.2)]],[]⟩) h ⟨[],rfl,.p (.agg' (.cons (.refl _) (.cons (.refl _) (.cons (.refl _) (.cons (.refl _) (.cons (.not) (.cons (.not) (.cons (.not) (.nil))))))))),.refl _,rfl⟩
      ·refine Qah _ _ h (fun x21 hy=>((Qi4 h0_0 h0_1 h0_2 x21 hy).fr [0] [] rfl rfl rfl)) (fun x21 hy h=>?_);refine Qah _ _ h (fun x22 hy=>((Qas 8 h0_0 x21.2.1 x21.2.2 x22 hy).fr [0] [] rfl rfl rfl)) (fun x22 hy h=>?_);refine Qaf h (fun hb h=>?_) (fun hb h=>?_)
       ·refine Exists.intro _ (And.intro (Le.refl _ _ _) ?_);exact Qbd (t:=Qb5) (ss:=fun o=>⟨[[.p (.sl false (h0_0.map Qad)),.p (iV o.2.1),.p (bV o.2.2)]],[]⟩) h ⟨[],rfl,.p (.agg' (.cons (.refl _) (.cons (.refl _) (.cons (.refl _) (.cons (.refl _) (.cons (.not) (.cons (.not) (.cons (.not) (.nil))))))))),.refl _,rfl⟩
       ·refine Qah _ _ h (fun x23 hy=>((Qal true h0_0 x21.2.1 x21.2.2 x23 hy).fr [0] [] rfl rfl rfl)) (fun x23 hy h=>?_);refine Qah _ _ h (fun x24 hy=>((Qas 9 h0_0 x23.2.1 x23.2.2 x24 hy).fr [0] [] rfl rfl rfl)) (fun x24 hy h=>?_);refine Qaf h (fun hb h=>?_) (fun hb h=>?_)
        ·refine Qah _ _ h (fun x25 hy=>((Qal true h0_0 x23.2.1 x23.2.2 x25 hy).fr [0] [] rfl rfl rfl)) (fun x25 hy h=>?_);refine Exists.intro _ (And.intro (Le.refl _ _ _) ?_);exact Qbd (t:=Qb5) (ss:=fun o=>⟨[[.p (.sl false (h0_0.map Qad)),.p (iV o.2.1),.p (bV o.2.2)]],[]⟩) h ⟨[],rfl,.p (.agg' (.cons (.refl _) (.cons (.refl _) (.cons (.refl _) (.cons (.refl _) (.cons (.not) (.cons (.not) (.cons (.not) (.nil))))))))),.refl _,rfl⟩
        ·refine Qag h (fun o26 ho hk=>?_);refine Exists.intro (JP1 _ _ o26 (.exit 0) (Qje h0_0 x21)) (And.intro (Qnx (τ := Qdx h0_0 x21 0 x23.2.1 x23.2.2 []) ?_ (TL.loop (iQaq x21 0 x23.2.1 x23.2.2 [] o26 ho))) (Qa5 ?_))
         ·exact(Le.ownH 2 4 37 7 rfl rfl Qy5).trans (Le.tz 3 1 rfl rfl rfl)
         have h:=hk;refine Qah _ _ h (fun x33 hy=>((Qas 9 h0_0 o26.1 o26.2.1 x33 hy).fr [0] [] rfl rfl rfl)) (fun x33 hy h=>?_);refine Qah _ _ h (fun x34 hy=>((Qal x33 h0_0 o26.1 o26.2.1 x34 hy).fr [0] [] rfl rfl rfl)) (fun x34 hy h=>?_);refine Exists.intro _ (And.intro (Le.refl _ _ _) ?_);exact Qbd (t:=Qb5) (ss:=fun o=>⟨[[.p (.sl false (h0_0.map Qad)),.p (iV o.2.1),.p (bV o.2.2)]],[]⟩) h ⟨[],rfl,.p (.agg' (.cons (.refl _) (.cons (.refl _) (.cons (.refl _) (.cons (.refl _) (.cons (.refl _) (.cons (.not) (.cons (.not) (.nil))))))))),.refl _,rfl⟩
 ·intro Qay' Qaq' iQay iQaq x21 v5 h0_1_ h0_2_ h2_4 o26 h;refine TL.round (Qan mixed tbOk (lv:=Ql4) _ _ _ ?_);refine Qag h (fun o27 ho hk=>?_);refine Exists.intro (JP1 _ _ o27 .normal (Qq2 h0_0 x21 v5 h0_1_ h0_2_ h2_4)) (And.intro ?_ (Qa5 ?_))
  ·have h:=ho;refine Qaf h (fun hb h=>?_) (fun hb h=>?_)
   ·refine JP1.a h ?_;exact Le.tz 3 1 rfl rfl rfl
   ·refine JP1.a h ?_;exact Le.tz 3 1 rfl rfl rfl
  ·have h:=hk;refine Qaf h (fun hb h=>?_) (fun hb h=>?_)
   ·refine And.intro (by decide +kernel) (And.intro rfl ?_);refine Qmy _ _ h (fun x28 hy=>((iQay h0_1_ h0_2_ x28 hy).fg [0] [] rfl rfl rfl (Nat.le_of_ble_eq_true rfl))) (fun x28 hy h=>?_);refine Qqj (a:=h2_4) (b:=[x28.1]) (c:=Qae) h (.cons (.ceq (Qai _) (.refl _)) (.nil)) (fun x=>by rw[Qai]; rfl) rfl (fun x29 hi h=>?_);refine Qah _ _ h (fun x30 hy=>((Qas 9 h0_0 x28.2.1 x28.2.2 x30 hy).fr [0] [] rfl rfl rfl)) (fun x30 hy h=>?_);refine Qaf h (fun hb h=>?_) (fun hb h=>?_)
    ·exact JP1.a h (Le.tz 3 1 rfl rfl rfl)
    ·refine Qaf h (fun hb h=>?_) (fun hb h=>?_)
     ·refine Qah _ _ h (fun x31 hy=>((Qas 10 h0_0 x28.2.1 x28.2.2 x31 hy).fr [0] [] rfl rfl rfl)) (fun x31 hy h=>?_);refine Qah _ _ h (fun x32 hy=>((Qal x31 h0_0 x28.2.1 x28.2.2 x32 hy).fr [0] [] rfl rfl rfl)) (fun x32 hy h=>?_);refine TL.le (τ := Qdx h0_0 x21 (wr (v5+1)) x32.2.1 x32.2.2 x29) ?_ ((iQaq x21 (wr (v5+1)) x32.2.1 x32.2.2 x29 _ h));exact Le.tz 3 1 rfl rfl rfl
     ·refine TL.le (τ := Qdx h0_0 x21 (wr (v5+1)) x28.2.1 x28.2.2 x29) ?_ ((iQaq x21 (wr (v5+1)) x28.2.1 x28.2.2 x29 _ h));exact Le.tz 3 1 rfl rfl rfl
   ·exact JP1.a h (Le.tz 3 1 rfl rfl rfl)
theorem Qi5:∀ (h0_0:(List Qaa)) (h0_1:Int) (h0_2:Bool) (o:Qab×Int×Bool),Qay h0_0 h0_1 h0_2=some o→CallOK Tryz.prog 67 [.ptr 0 0] ⟨[[.p (.sl false (h0_0.map Qad)),.p (iV h0_1),.p (bV h0_2)]],[]⟩ (Qjt o) ⟨[[.p (.sl false (h0_0.map Qad)),.p (iV o.2.1),.p (bV o.2.2)]],[]⟩:=fun h0_0 h0_1 h0_2=>(Que h0_0).1 h0_1 h0_2
def Qa8 (h0_0:(List Qaa)) (h0_1:Int) (h0_2:Bool):Option (Int×Bool) :=
 Qap 3 h0_0 h0_1 h0_2>>=fun x1 =>
 Qaj x1 h0_0 h0_1 h0_2>>=fun x2 =>
 some (x2.2.1,x2.2.2)
theorem Qe9:∀ (h0_0:(List Qaa)) (h0_1:Int) (h0_2:Bool) (o:Int×Bool),Qa8 h0_0 h0_1 h0_2=some o→CallOK Tryz.prog 68 [.ptr 0 0] ⟨[[.p (.sl false (h0_0.map Qad)),.p (iV h0_1),.p (bV h0_2)]],[]⟩ (Qm4 o) ⟨[[.p (.sl false (h0_0.map Qad)),.p (iV o.1),.p (bV o.2)]],[]⟩:=by
 intro h0_0 h0_1 h0_2 o h;unfold Qa8 at h;refine CallOK.ofB mixed tbOk Qua Tryz.func68 rfl (by kernel_rfl) (Nat.le_of_ble_eq_true rfl) rfl rfl rfl ?_;refine Qah _ _ h (fun x1 hy=>((Qas 3 h0_0 h0_1 h0_2 x1 hy).fr [0] [] rfl rfl rfl)) (fun x1 hy h=>?_);refine Qah _ _ h (fun x2 hy=>((Qal x1 h0_0 h0_1 h0_2 x2 hy).fr [0] [] rfl rfl rfl)) (fun x2 hy h=>?_);refine Exists.intro _ (And.intro (Le.refl _ _ _) ?_);exact Qbd (t:=Qm4) (ss:=fun o=>⟨[[.p (.sl false (h0_0.map Qad)),.p (iV o.1),.p (bV o.2)]],[]⟩) h ⟨[],rfl,.refl _,.refl _,rfl⟩
def Qck (p1:(List UInt8)) (h0_0:(List Qaa)) (h0_1:Int) (h0_2:Bool):Option (Int×Bool) :=
 Qap 2 h0_0 h0_1 h0_2>>=fun x1 =>
 Qaj x1 h0_0 h0_1 h0_2>>=fun x2 =>
 Qbl p1 h0_0 x2.2.1 x2.2.2>>=fun x3 =>
 Qaj x3 h0_0 x2.2.1 x2.2.2>>=fun x4 =>
 Qa8 h0_0 x4.2.1 x4.2.2>>=fun x5 =>
 some (x5.1,x5.2)
theorem Qj2:∀ (p1:(List UInt8)) (h0_0:(List Qaa)) (h0_1:Int) (h0_2:Bool) (o:Int×Bool),Qck p1 h0_0 h0_1 h0_2=some o→CallOK Tryz.prog 69 [.ptr 0 0,.p (sV p1)] ⟨[[.p (.sl false (h0_0.map Qad)),.p (iV h0_1),.p (bV h0_2)]],[]⟩ (Qpp o) ⟨[[.p (.sl false (h0_0.map Qad)),.p (iV o.1),.p (bV o.2)]],[]⟩:=by
 intro p1 h0_0 h0_1 h0_2 o h;unfold Qck at h;refine CallOK.ofB mixed tbOk Qwk Tryz.func69 rfl (by kernel_rfl) (Nat.le_of_ble_eq_true rfl) rfl rfl rfl ?_;refine Qah _ _ h (fun x1 hy=>((Qas 2 h0_0 h0_1 h0_2 x1 hy).fr [0] [] rfl rfl rfl)) (fun x1 hy h=>?_);refine Qah _ _ h (fun x2 hy=>((Qal x1 h0_0 h0_1 h0_2 x2 hy).fr [0] [] rfl rfl rfl)) (fun x2 hy h=>?_);refine Qah _ _ h (fun x3 hy=>((Qbq p1 h0_0 x2.2.1 x2.2.2 x3 hy).fr [0] [] rfl rfl rfl)) (fun x3 hy h=>?_);refine Qah _ _ h (fun x4 hy=>((Qal x3 h0_0 x2.2.1 x2.2.2 x4 hy).fr [0] [] rfl rfl rfl)) (fun x4 hy h=>?_);refine Qah _ _ h (fun x5 hy=>((Qe9 h0_0 x4.2.1 x4.2.2 x5 hy).fr [0] [] rfl rfl rfl)) (fun x5 hy h=>?_);refine Exists.intro _ (And.intro (Le.refl _ _ _) ?_);exact Qbd (t:=Qpp) (ss:=fun o=>⟨[[.p (.sl false (h0_0.map Qad)),.p (iV o.1),.p (bV o.2)]],[]⟩) h ⟨[],rfl,.refl _,.refl _,rfl⟩
mutual
def Qav (p1:Bool) (p2:Bool) (h0_0:(List Qaa)) (h0_1:Int) (h0_2:Bool):Option ((List Qab)×Int×Bool) :=
 (Qa9 p1 p2 h0_0 [] h0_1 h0_2)>>=fun o1 =>
 match o1 with
 | .inl y2 =>
  some (y2.1,y2.2.1,y2.2.2)
 | .inr y3 =>
  some (y3.1,y3.2.1,y3.2.2)
 partial_fixpoint
def Qa9 (p1:Bool) (p2:Bool) (h0_0:(List Qaa)) (v7:(List Qab)) (h0_1_:Int) (h0_2_:Bool):Option (((List Qab)×Int×Bool)⊕((List Qab)×Int×Bool)) :=
 ( if(!h0_2_) then
   some (decide (h0_1_<(h0_0.length:Int)))
  else
   some false:Option (Bool))>>=fun o4 =>
 if o4 then
  Qap 1 h0_0 h0_1_ h0_2_>>=fun x5 =>
  if x5 then
   Qaj true h0_0 h0_1_ h0_2_>>=fun x6 =>
   ( if(decide ((wr ((v7.length:Int)-1)) ≥ 0)) then
     idx v7 (wr ((v7.length:Int)-1))>>=fun x8 =>
     some (x8.Kind==8)
    else
     some false:Option (Bool))>>=fun o7 =>
   if o7 then
    idx v7 (wr ((v7.length:Int)-1))>>=fun x9 =>
    need (x9.Text.length+x6.1.Text.length≤9223372036854775807)>>=fun _ =>
    idx v7 (wr ((v7.length:Int)-1))>>=fun x10 =>
    Qa9 p1 p2 h0_0 (v7.set ((wr ((v7.length:Int)-1)).toNat) (Qab.mk x10.Kind x10.Name (x9.Text++x6.1.Text) x10.N x10.L x10.Then x10.Else)) x6.2.1 x6.2.2
   else
    appL 120 v7 ([(Qab.mk 8 [] x6.1.Text 0 [] [] [])])>>=fun x11 =>
    Qa9 p1 p2 h0_0 x11 x6.2.1 x6.2.2
  else
   ( if p1 then
     Qbw [101,110,100] h0_0 h0_1_ h0_2_>>=fun x13 =>
     if x13 then
      some true
     else
      if p2 then
       Qbw [101,108,115,101] h0_0 h0_1_ h0_2_>>=fun x14 =>
       some x14
      else
       some false
    else
     if p2 then
      Qbw [101,108,115,101] h0_0 h0_1_ h0_2_>>=fun x15 =>
      some x15
     else
      some false:Option (Bool))>>=fun o12 =>
   if o12 then
    some (.inr (v7,h0_1_,h0_2_))
   else
    Qap 2 h0_0 h0_1_ h0_2_>>=fun x16 =>
    Qaj x16 h0_0 h0_1_ h0_2_>>=fun x17 =>
    Qap 3 h0_0 x17.2.1 x17.2.2>>=fun x18 =>
    if x18 then
     Qaj true h0_0 x17.2.1 x17.2.2>>=fun x19 =>
     Qa9 p1 p2 h0_0 v7 x19.2.1 x19.2.2
    else
     Qdb h0_0 x17.2.1 x17.2.2>>=fun x20 =>
     appL 120 v7 [x20.1]>>=fun x21 =>
     Qa9 p1 p2 h0_0 x21 x20.2.1 x20.2.2
 else
  some (.inl (v7,h0_1_,h0_2_))
 partial_fixpoint
def Qdb (h0_0:(List Qaa)) (h0_1:Int) (h0_2:Bool):Option (Qab×Int×Bool) :=
 Qbl [105,102] h0_0 h0_1 h0_2>>=fun x1 =>
 if x1 then
  Qaj true h0_0 h0_1 h0_2>>=fun x2 =>
  Qay h0_0 x2.2.1 x2.2.2>>=fun x3 =>
  Qa8 h0_0 x3.2.1 x3.2.2>>=fun x4 =>
  Qav true true h0_0 x4.1 x4.2>>=fun x5 =>
  ( Qbw [101,108,115,101] h0_0 x5.2.1 x5.2.2>>=fun x7 =>
   if x7 then
    Qck [101,108,115,101] h0_0 x5.2.1 x5.2.2>>=fun x8 =>
    Qav true false h0_0 x8.1 x8.2>>=fun x9 =>
    some (x9.2.1,x9.2.2,x9.1)
   else
    some (x5.2.1,x5.2.2,[]):Option ((Int×Bool×(List Qab))))>>=fun o6 =>
  Qck [101,110,100] h0_0 o6.1 o6.2.1>>=fun x10 =>
  some ((Qab.mk 10 [] [] 0 [x3.1] x5.1 o6.2.2),x10.1,x10.2)
 else
  ( Qbl [101,97,99,104] h0_0 h0_1 h0_2>>=fun x12 =>
   if x12 then
    some true
   else
    Qbl [108,101,116] h0_0 h0_1 h0_2>>=fun x13 =>
    some x13:Option (Bool))>>=fun o11 =>
  if o11 then
   ( Qbl [108,101,116] h0_0 h0_1 h0_2>>=fun x15 =>
    if x15 then
     some 12
    else
     some 11:Option (Int))>>=fun o14 =>
   Qaj true h0_0 h0_1 h0_2>>=fun x16 =>
   Qcz h0_0 x16.2.1 x16.2.2>>=fun x17 =>
   ( if(o14==11) then
     Qbl [105,110] h0_0 x17.2.1 x17.2.2>>=fun x19 =>
     Qaj x19 h0_0 x17.2.1 x17.2.2>>=fun x20 =>
     some (x20.2.1,x20.2.2)
    else
     Qap 11 h0_0 x17.2.1 x17.2.2>>=fun x21 =>
     Qaj x21 h0_0 x17.2.1 x17.2.2>>=fun x22 =>
     some (x22.2.1,x22.2.2):Option ((Int×Bool)))>>=fun o18 =>
   Qay h0_0 o18.1 o18.2>>=fun x23 =>
   Qa8 h0_0 x23.2.1 x23.2.2>>=fun x24 =>
   Qav true false h0_0 x24.1 x24.2>>=fun x25 =>
   Qck [101,110,100] h0_0 x25.2.1 x25.2.2>>=fun x26 =>
   some ((Qab.mk o14 x17.1 [] 0 [x23.1] x25.1 []),x26.1,x26.2)
  else
   ( Qbl [117,115,101] h0_0 h0_1 h0_2>>=fun x28 =>
    if x28 then
     Qaj true h0_0 h0_1 h0_2>>=fun x29 =>
     Qcz h0_0 x29.2.1 x29.2.2>>=fun x30 =>
     some (x30.2.1,x30.2.2,13,x30.1)
    else
     some (h0_1,h0_2,9,[]):Option ((Int×Bool×Int×(List UInt8))))>>=fun o27 =>
   Qay h0_0 o27.1 o27.2.1>>=fun x31 =>
   Qa8 h0_0 x31.2.1 x31.2.2>>=fun x32 =>
   some ((Qab.mk o27.2.2.1 o27.2.2.2 [] 0 [x31.1] [] []),x32.1,x32.2)
 partial_fixpoint
end
theorem Qs3:∀ (h0_0:(List Qaa)),(∀ (p1:Bool) (p2:Bool) (h0_1:Int) (h0_2:Bool) (o:(List Qab)×Int×Bool),Qav p1 p2 h0_0 h0_1 h0_2=some o→CallOK Tryz.prog 21 [.ptr 0 0,.p (bV p1),.p (bV p2)] ⟨[[.p (.sl false (h0_0.map Qad)),.p (iV h0_1),.p (bV h0_2)]],[]⟩ (Qfv o) ⟨[[.p (.sl false (h0_0.map Qad)),.p (iV o.2.1),.p (bV o.2.2)]],[]⟩)∧(∀ (p1:Bool) (p2:Bool) (v7:(List Qab)) (h0_1_:Int) (h0_2_:Bool) (o1:((List Qab)×Int×Bool)⊕((List Qab)×Int×Bool)),Qa9 p1 p2 h0_0 v7 h0_1_ h0_2_=some o1→TL (1,0) Tryz.prog 89 Qq0 (JP2 (1,0) 89 o1 (.exit 0) (Qjc p1 p2 h0_0) .ret (Qjd p1 p2 h0_0)) (Qci p1 p2 h0_0 v7 h0_1_ h0_2_))∧(∀ (h0_1:Int) (h0_2:Bool) (o:Qab×Int×Bool),Qdb h0_0 h0_1 h0_2=some o→CallOK Tryz.prog 45 [.ptr 0 0] ⟨[[.p (.sl false (h0_0.map Qad)),.p (iV h0_1),.p (bV h0_2)]],[]⟩ (Qe1 o) ⟨[[.p (.sl false (h0_0.map Qad)),.p (iV o.2.1),.p (bV o.2.2)]],[]⟩):=by
 intro h0_0;refine Qav.mutual_partial_correctness h0_0 _ _ _ ?_ ?_ ?_
 ·intro Qa9' iQa9 p1 p2 h0_1 h0_2 o h;refine CallOK.ofB mixed tbOk Ql3 Tryz.func21 rfl (by kernel_rfl) (Nat.le_of_ble_eq_true rfl) rfl rfl rfl ?_;refine Qag h (fun o1 ho hk=>?_);refine Exists.intro (JP2 _ _ o1 (.exit 0) (Qjc p1 p2 h0_0) .ret (Qjd p1 p2 h0_0)) (And.intro (Qnx (τ := Qci p1 p2 h0_0 [] h0_1 h0_2) ?_ (TL.loop (iQa9 p1 p2 [] h0_1 h0_2 o1 ho))) (Qlx (fun y2 hy=>?_) (fun y3 hy=>?_)))
  ·exact Le.trans (τ := ⟨[(0,.ptr 0 0),(1,.p (bV p1)),(2,.p (bV p2)),(7,.p (.sl true []))],⟨[[.p (.sl false (h0_0.map Qad)),.p (iV h0_1),.p (bV h0_2)]],[]⟩⟩) (Le.tz 1 0 rfl rfl rfl) ((Le.xnil (.s 7) 37 7 rfl).trans (Le.tz 1 1 rfl rfl rfl))
  ·have h:=(by rw[hy] at hk; exact hk);refine Exists.intro _ (And.intro (Le.frzv (.s 7) 0 1 rfl rfl rfl rfl) ?_);refine Exists.intro _ (And.intro (Le.refl _ _ _) ?_);exact Qbd (t:=Qfv) (ss:=fun o=>⟨[[.p (.sl false (h0_0.map Qad)),.p (iV o.2.1),.p (bV o.2.2)]],[]⟩) h ⟨[],rfl,.refl _,.refl _,rfl⟩
  ·have h:=(by rw[hy] at hk; exact hk);refine Exists.intro _ (And.intro (Le.refl _ _ _) ?_);exact Qbd (t:=Qfv) (ss:=fun o=>⟨[[.p (.sl false (h0_0.map Qad)),.p (iV o.2.1),.p (bV o.2.2)]],[]⟩) h ⟨[],rfl,.refl _,.refl _,rfl⟩
 ·intro Qa9' Qdb' iQa9 iQdb p1 p2 v7 h0_1_ h0_2_ o1 h;refine TL.round (Qan mixed tbOk (lv:=Ql3) _ _ _ ?_);refine Qag h (fun o4 ho hk=>?_);refine Exists.intro (JP1 _ _ o4 .normal (Qqx p1 p2 h0_0 v7 h0_1_ h0_2_)) (And.intro ?_ (Qa5 ?_))
  ·have h:=ho;refine And.intro (by decide +kernel) (And.intro rfl ?_);refine Qaf h (fun hb h=>?_) (fun hb h=>?_)
   ·refine view (Qaw _ _) rfl ?_;refine JP1.a h ?_;exact Le.tz 1 1 rfl rfl rfl
   ·refine JP1.a h ?_;exact Le.tz 1 1 rfl rfl rfl
  ·have h:=hk;refine Qaf h (fun hb h=>?_) (fun hb h=>?_)
   ·refine Qah _ _ h (fun x5 hy=>((Qas 1 h0_0 h0_1_ h0_2_ x5 hy).fr [0] [] rfl rfl rfl)) (fun x5 hy h=>?_);refine Qaf h (fun hb h=>?_) (fun hb h=>?_)
    ·refine Qah _ _ h (fun x6 hy=>((Qal true h0_0 h0_1_ h0_2_ x6 hy).fr [0] [] rfl rfl rfl)) (fun x6 hy h=>?_);refine And.intro rfl (Exists.intro _ (And.intro (List.length_map _) ?_));refine Qag h (fun o7 ho hk=>?_);refine Exists.intro (JP1 _ _ o7 .normal (Qqy p1 p2 h0_0 v7 x6)) (And.intro ?_ (Qa5 ?_))
     ·have h:=ho;refine Qaf h (fun hb h=>?_) (fun hb h=>?_)
      ·refine Qwf (l:=v7) (c:=Qae) (c' := Qa1) h rfl Qai (fun _=>rfl) (by decide) (fun x8 hi h=>?_);refine And.intro rfl ?_;refine And.intro rfl (And.intro (Nat.le_of_ble_eq_true rfl) ?_);refine JP1.a h ?_;exact Le.tz 1 1 rfl rfl rfl
      ·refine JP1.a h ?_;exact Le.tz 1 1 rfl rfl rfl
     ·have h:=hk;refine Qaf h (fun hb h=>?_) (fun hb h=>?_)
      ·refine Qwf (l:=v7) (c:=Qae) (c' := Qa1) h rfl Qai (fun _=>rfl) (by decide) (fun x9 hi h=>?_);refine And.intro rfl ?_;refine And.intro rfl (And.intro (Nat.le_of_ble_eq_true rfl) ?_);refine Qbb h (fun h=>?_);refine Qwf (l:=v7) (c:=Qae) (c' := Qa1) h rfl Qai (fun _=>rfl) (by decide) (fun x10 hi h=>?_);refine And.intro rfl ?_;refine And.intro rfl (And.intro (Nat.le_of_ble_eq_true rfl) (And.intro rfl (And.intro rfl (Exists.intro ((v7.set ((wr ((v7.length:Int)-1)).toNat) (Qab.mk x10.Kind x10.Name (x9.Text++x6.1.Text) x10.N x10.L x10.Then x10.Else)).map Qae) (And.intro (Qajd (.ceq (Qai _) (.refl _))) ?_)))));refine TL.le (τ := Qci p1 p2 h0_0 (v7.set ((wr ((v7.length:Int)-1)).toNat) (Qab.mk x10.Kind x10.Name (x9.Text++x6.1.Text) x10.N x10.L x10.Then x10.Else)) x6.2.1 x6.2.2) ?_ ((iQa9 p1 p2 (v7.set ((wr ((v7.length:Int)-1)).toNat) (Qab.mk x10.Kind x10.Name (x9.Text++x6.1.Text) x10.N x10.L x10.Then x10.Else)) x6.2.1 x6.2.2 _ h));exact Le.trans (τ := ⟨[(0,.ptr 0 0),(1,.p (bV p1)),(2,.p (bV p2)),(7,.x 0 2 (.sl 37 7 ((v7.set ((wr ((v7.length:Int)-1)).toNat) (Qab.mk x10.Kind x10.Name (x9.Text++x6.1.Text) x10.N x10.L x10.Then x10.Else)).map Qae)))],⟨[[.p (.sl false (h0_0.map Qad)),.p (iV x6.2.1),.p (bV x6.2.2)]],[2]⟩⟩) (Le.tz 1 1 rfl rfl rfl) ((Le.ver (.s 7) 0 2 1 rfl rfl rfl rfl).trans (Le.tz 1 1 rfl rfl rfl))
      ·refine Q3c (a:=v7) (b:=[(Qab.mk 8 [] x6.1.Text 0 [] [] [])]) (c:=Qae) h (.cons (.ceq (Qai _) (.cons (.refl _) (.cons (.refl _) (.cons (.refl _) (.cons (.refl _) (.cons (.not) (.cons (.not) (.cons (.not) (.nil))))))))) (.nil)) (fun x=>by rw[Qai]; rfl) rfl (fun x11 hi h=>?_);refine TL.le (τ := Qci p1 p2 h0_0 x11 x6.2.1 x6.2.2) ?_ ((iQa9 p1 p2 x11 x6.2.1 x6.2.2 _ h));exact Le.trans (τ := ⟨[(0,.ptr 0 0),(1,.p (bV p1)),(2,.p (bV p2)),(7,.x 0 2 (.sl 37 7 (x11.map Qae)))],⟨[[.p (.sl false (h0_0.map Qad)),.p (iV x6.2.1),.p (bV x6.2.2)]],[2]⟩⟩) (Le.tz 1 1 rfl rfl rfl) ((Le.ver (.s 7) 0 2 1 rfl rfl rfl rfl).trans (Le.tz 1 1 rfl rfl rfl))
    ·refine Qag h (fun o12 ho hk=>?_);refine Exists.intro (JP1 _ _ o12 .normal (Qqz p1 p2 h0_0 v7 h0_1_ h0_2_)) (And.intro ?_ (Qa5 ?_))
     ·have h:=ho;refine Qaf h (fun hb h=>?_) (fun hb h=>?_)
      ·refine Qah _ _ h (fun x13 hy=>((Qe8 [101,110,100] h0_0 h0_1_ h0_2_ x13 hy).fr [0] [] rfl rfl rfl)) (fun x13 hy h=>?_);refine Qaf h (fun hb h=>?_) (fun hb h=>?_)
       ·refine JP1.a h ?_;exact Le.tz 1 1 rfl rfl rfl
       ·refine Qaf h (fun hb h=>?_) (fun hb h=>?_)
        ·refine Qah _ _ h (fun x14 hy=>((Qe8 [101,108,115,101] h0_0 h0_1_ h0_2_ x14 hy).fr [0] [] rfl rfl rfl)) (fun x14 hy h=>?_);refine JP1.a h ?_;exact Le.tz 1 1 rfl rfl rfl
        ·refine JP1.a h ?_;exact Le.tz 1 1 rfl rfl rfl
      ·refine bF ?_;refine Qaf h (fun hb h=>?_) (fun hb h=>?_)
       ·refine Qah _ _ h (fun x15 hy=>((Qe8 [101,108,115,101] h0_0 h0_1_ h0_2_ x15 hy).fr [0] [] rfl rfl rfl)) (fun x15 hy h=>?_);refine JP1.a h ?_;exact Le.tz 1 1 rfl rfl rfl
       ·refine JP1.a h ?_;exact Le.tz 1 1 rfl rfl rfl
     ·have h:=hk;refine Qaf h (fun hb h=>?_) (fun hb h=>?_)
      ·refine Exists.intro _ (And.intro (Le.frzv (.s 7) 0 1 rfl rfl rfl rfl) ?_);exact JP2.b h (Le.tz 1 1 rfl rfl rfl)
      ·refine Qah _ _ h (fun x16 hy=>((Qas 2 h0_0 h0_1_ h0_2_ x16 hy).fr [0] [] rfl rfl rfl)) (fun x16 hy h=>?_);refine Qah _ _ h (fun x17 hy=>((Qal x16 h0_0 h0_1_ h0_2_ x17 hy).fr [0] [] rfl rfl rfl)) (fun x17 hy h=>?_);refine Qah _ _ h (fun x18 hy=>((Qas 3 h0_0 x17.2.1 x17.2.2 x18 hy).fr [0] [] rfl rfl rfl)) (fun x18 hy h=>?_);refine Qaf h (fun hb h=>?_) (fun hb h=>?_)
       ·refine Qah _ _ h (fun x19 hy=>((Qal true h0_0 x17.2.1 x17.2.2 x19 hy).fr [0] [] rfl rfl rfl)) (fun x19 hy h=>?_);refine TL.le (τ := Qci p1 p2 h0_0 v7 x19.2.1 x19.2.2) ?_ ((iQa9 p1 p2 v7 x19.2.1 x19.2.2 _ h));exact Le.tz 1 1 rfl rfl rfl
       ·refine Qah _ _ h (fun x20 hy=>((iQdb x17.2.1 x17.2.2 x20 hy).fr [0] [] rfl rfl rfl)) (fun x20 hy h=>?_);refine Q3c (a:=v7) (b:=[x20.1]) (c:=Qae) h (.cons (.ceq (Qai _) (.refl _)) (.nil)) (fun x=>by rw[Qai]; rfl) rfl (fun x21 hi h=>?_);refine TL.le (τ := Qci p1 p2 h0_0 x21 x20.2.1 x20.2.2) ?_ ((iQa9 p1 p2 x21 x20.2.1 x20.2.2 _ h));exact Le.trans (τ := ⟨[(0,.ptr 0 0),(1,.p (bV p1)),(2,.p (bV p2)),(7,.x 0 2 (.sl 37 7 (x21.map Qae)))],⟨[[.p (.sl false (h0_0.map Qad)),.p (iV x20.2.1),.p (bV x20.2.2)]],[2]⟩⟩) (Le.tz 1 1 rfl rfl rfl) ((Le.ver (.s 7) 0 2 1 rfl rfl rfl rfl).trans (Le.tz 1 1 rfl rfl rfl))
   ·exact JP2.a h (Le.tz 1 1 rfl rfl rfl)
 ·intro Qav' iQav h0_1 h0_2 o h;refine CallOK.ofB mixed tbOk Qsq Tryz.func45 rfl (by kernel_rfl) (Nat.le_of_ble_eq_true rfl) rfl rfl rfl ?_;refine Qah _ _ h (fun x1 hy=>((Qbq [105,102] h0_0 h0_1 h0_2 x1 hy).fr [0] [] rfl rfl rfl)) (fun x1 hy h=>?_);refine Qaf h (fun hb h=>?_) (fun hb h=>?_)
  ·refine Qah _ _ h (fun x2 hy=>((Qal true h0_0 h0_1 h0_2 x2 hy).fr [0] [] rfl rfl rfl)) (fun x2 hy h=>?_);refine Qah _ _ h (fun x3 hy=>((Qi5 h0_0 x2.2.1 x2.2.2 x3 hy).fr [0] [] rfl rfl rfl)) (fun x3 hy h=>?_);refine Qah _ _ h (fun x4 hy=>((Qe9 h0_0 x3.2.1 x3.2.2 x4 hy).fr [0] [] rfl rfl rfl)) (fun x4 hy h=>?_);refine Qah _ _ h (fun x5 hy=>((iQav true true x4.1 x4.2 x5 hy).fr [0] [] rfl rfl rfl)) (fun x5 hy h=>?_);refine Qag h (fun o6 ho hk=>?_);refine Exists.intro (JP1 _ _ o6 .normal (Qpx h0_0 x3 x5)) (And.intro ?_ (Qa5 ?_))
   ·have h:=ho;refine Qah _ _ h (fun x7 hy=>((Qe8 [101,108,115,101] h0_0 x5.2.1 x5.2.2 x7 hy).fr [0] [] rfl rfl rfl)) (fun x7 hy h=>?_);refine Qaf h (fun hb h=>?_) (fun hb h=>?_)
    ·refine Qah _ _ h (fun x8 hy=>((Qj2 [101,108,115,101] h0_0 x5.2.1 x5.2.2 x8 hy).fr [0] [] rfl rfl rfl)) (fun x8 hy h=>?_);refine Qah _ _ h (fun x9 hy=>((iQav true false x8.1 x8.2 x9 hy).fr [0] [] rfl rfl rfl)) (fun x9 hy h=>?_);refine JP1.a h ?_;exact Le.tow 3 0 rfl (.cons rfl (.refl _) (.cons rfl (.refl _) (.cons rfl (.refl _) (.nil)))) (.cons (.refl _) (.cons (.refl _) (.cons (.cons (.refl _) (.cons (.refl _) (.cons (.refl _) (.cons (.refl _) (.cons (.p (.sl' (fun h=>h) (.cons (.ceq (Qai _) (.refl _)) (.nil)))) (.cons (.refl _) (.cons (.refl _) (.nil)))))))) (.nil)))) rfl
    ·refine JP1.a h ?_;exact Le.tow 3 0 rfl (.cons rfl (.refl _) (.cons rfl (.refl _) (.cons rfl (.refl _) (.nil)))) (.cons (.refl _) (.cons (.refl _) (.cons (.cons (.refl _) (.cons (.refl _) (.cons (.refl _) (.cons (.refl _) (.cons (.p (.sl' (fun h=>h) (.cons (.ceq (Qai _) (.refl _)) (.nil)))) (.cons (.refl _) (.cons (.p (.not)) (.nil)))))))) (.nil)))) rfl
   ·have h:=hk;refine Qah _ _ h (fun x10 hy=>((Qj2 [101,110,100] h0_0 o6.1 o6.2.1 x10 hy).fr [0] [] rfl rfl rfl)) (fun x10 hy h=>?_);refine Exists.intro _ (And.intro (Le.refl _ _ _) ?_);exact Qbd (t:=Qe1) (ss:=fun o=>⟨[[.p (.sl false (h0_0.map Qad)),.p (iV o.2.1),.p (bV o.2.2)]],[]⟩) h ⟨[],rfl,.p (.agg' (.cons (.refl _) (.cons (.refl _) (.cons (.refl _) (.cons (.refl _) (.cons (.not) (.cons (.refl _) (.cons (.refl _) (.nil))))))))),.refl _,rfl⟩
  ·refine Qag h (fun o11 ho hk=>?_);refine Exists.intro (JP1 _ _ o11 .normal (Qpy h0_0 h0_1 h0_2)) (And.intro ?_ (Qa5 ?_))
   ·have h:=ho;refine Qah _ _ h (fun x12 hy=>((Qbq [101,97,99,104] h0_0 h0_1 h0_2 x12 hy).fr [0] [] rfl rfl rfl)) (fun x12 hy h=>?_);refine Qaf h (fun hb h=>?_) (fun hb h=>?_)
    ·refine JP1.a h ?_;exact Le.tz 2 0 rfl rfl rfl
    ·refine Qah _ _ h (fun x13 hy=>((Qbq [108,101,116] h0_0 h0_1 h0_2 x13 hy).fr [0] [] rfl rfl rfl)) (fun x13 hy h=>?_);refine JP1.a h ?_;exact Le.tz 2 0 rfl rfl rfl
   ·have h:=hk;refine Qaf h (fun hb h=>?_) (fun hb h=>?_)
    ·refine Qag h (fun o14 ho hk=>?_);refine Exists.intro (JP1 _ _ o14 .normal (Qpz h0_0 h0_1 h0_2)) (And.intro ?_ (Qa5 ?_))
     ·have h:=ho;refine Qah _ _ h (fun x15 hy=>((Qbq [108,101,116] h0_0 h0_1 h0_2 x15 hy).fr [0] [] rfl rfl rfl)) (fun x15 hy h=>?_);refine Qaf h (fun hb h=>?_) (fun hb h=>?_)
      ·refine JP1.a h ?_;exact Le.tz 3 0 rfl rfl rfl
      ·refine JP1.a h ?_;exact Le.tz 3 0 rfl rfl rfl
     ·have h:=hk;refine Qah _ _ h (fun x16 hy=>((Qal true h0_0 h0_1 h0_2 x16 hy).fr [0] [] rfl rfl rfl)) (fun x16 hy h=>?_);refine Qah _ _ h (fun x17 hy=>((Qi4 h0_0 x16.2.1 x16.2.2 x17 hy).fr [0] [] rfl rfl rfl)) (fun x17 hy h=>?_);refine Qag h (fun o18 ho hk=>?_);refine Exists.intro (JP1 _ _ o18 .normal (Qp0 h0_0 o14 x17)) (And.intro ?_ (Qa5 ?_))
      ·have h:=ho;refine Qaf h (fun hb h=>?_) (fun hb h=>?_)
       ·refine Qah _ _ h (fun x19 hy=>((Qbq [105,110] h0_0 x17.2.1 x17.2.2 x19 hy).fr [0] [] rfl rfl rfl)) (fun x19 hy h=>?_);refine Qah _ _ h (fun x20 hy=>((Qal x19 h0_0 x17.2.1 x17.2.2 x20 hy).fr [0] [] rfl rfl rfl)) (fun x20 hy h=>?_);refine JP1.a h ?_;exact Le.tz 3 0 rfl rfl rfl
       ·refine Qah _ _ h (fun x21 hy=>((Qas 11 h0_0 x17.2.1 x17.2.2 x21 hy).fr [0] [] rfl rfl rfl)) (fun x21 hy h=>?_);refine Qah _ _ h (fun x22 hy=>((Qal x21 h0_0 x17.2.1 x17.2.2 x22 hy).fr [0] [] rfl rfl rfl)) (fun x22 hy h=>?_);refine JP1.a h ?_;exact Le.tz 3 0 rfl rfl rfl
      ·have h:=hk;refine Qah _ _ h (fun x23 hy=>((Qi5 h0_0 o18.1 o18.2 x23 hy).fr [0] [] rfl rfl rfl)) (fun x23 hy h=>?_);refine Qah _ _ h (fun x24 hy=>((Qe9 h0_0 x23.2.1 x23.2.2 x24 hy).fr [0] [] rfl rfl rfl)) (fun x24 hy h=>?_);refine Qah _ _ h (fun x25 hy=>((iQav true false x24.1 x24.2 x25 hy).fr [0] [] rfl rfl rfl)) (fun x25 hy h=>?_);refine Qah _ _ h (fun x26 hy=>((Qj2 [101,110,100] h0_0 x25.2.1 x25.2.2 x26 hy).fr [0] [] rfl rfl rfl)) (fun x26 hy h=>?_);refine Exists.intro _ (And.intro (Le.refl _ _ _) ?_);exact Qbd (t:=Qe1) (ss:=fun o=>⟨[[.p (.sl false (h0_0.map Qad)),.p (iV o.2.1),.p (bV o.2.2)]],[]⟩) h ⟨[],rfl,.p (.agg' (.cons (.refl _) (.cons (.refl _) (.cons (.refl _) (.cons (.refl _) (.cons (.no (.cons (.ceq (Qai _) (.refl _)) (.nil))) (.cons (.refl _) (.cons (.not) (.nil))))))))),.refl _,rfl⟩
    ·refine Qag h (fun o27 ho hk=>?_);refine Exists.intro (JP1 _ _ o27 .normal (Qp1 h0_0)) (And.intro ?_ (Qa5 ?_))
     ·have h:=ho;refine Qah _ _ h (fun x28 hy=>((Qbq [117,115,101] h0_0 h0_1 h0_2 x28 hy).fr [0] [] rfl rfl rfl)) (fun x28 hy h=>?_);refine Qaf h (fun hb h=>?_) (fun hb h=>?_)
      ·refine Qah _ _ h (fun x29 hy=>((Qal true h0_0 h0_1 h0_2 x29 hy).fr [0] [] rfl rfl rfl)) (fun x29 hy h=>?_);refine Qah _ _ h (fun x30 hy=>((Qi4 h0_0 x29.2.1 x29.2.2 x30 hy).fr [0] [] rfl rfl rfl)) (fun x30 hy h=>?_);refine JP1.a h ?_;exact Le.tz 3 0 rfl rfl rfl
      ·refine JP1.a h ?_;exact Le.tz 3 0 rfl rfl rfl
     ·have h:=hk;refine Qah _ _ h (fun x31 hy=>((Qi5 h0_0 o27.1 o27.2.1 x31 hy).fr [0] [] rfl rfl rfl)) (fun x31 hy h=>?_);refine Qah _ _ h (fun x32 hy=>((Qe9 h0_0 x31.2.1 x31.2.2 x32 hy).fr [0] [] rfl rfl rfl)) (fun x32 hy h=>?_);refine Exists.intro _ (And.intro (Le.refl _ _ _) ?_);exact Qbd (t:=Qe1) (ss:=fun o=>⟨[[.p (.sl false (h0_0.map Qad)),.p (iV o.2.1),.p (bV o.2.2)]],[]⟩) h ⟨[],rfl,.p (.agg' (.cons (.refl _) (.cons (.refl _) (.cons (.refl _) (.cons (.refl _) (.cons (.no (.cons (.ceq (Qai _) (.refl _)) (.nil))) (.cons (.not) (.cons (.not) (.nil))))))))),.refl _,rfl⟩
theorem Quf:∀ (p1:Bool) (p2:Bool) (h0_0:(List Qaa)) (h0_1:Int) (h0_2:Bool) (o:(List Qab)×Int×Bool),Qav p1 p2 h0_0 h0_1 h0_2=some o→CallOK Tryz.prog 21 [.ptr 0 0,.p (bV p1),.p (bV p2)] ⟨[[.p (.sl false (h0_0.map Qad)),.p (iV h0_1),.p (bV h0_2)]],[]⟩ (Qfv o) ⟨[[.p (.sl false (h0_0.map Qad)),.p (iV o.2.1),.p (bV o.2.2)]],[]⟩:=fun p1 p2 h0_0 h0_1 h0_2=>(Qs3 h0_0).1 p1 p2 h0_1 h0_2
def Qrg (p0:(List UInt8)):Option ((List Qab)×Int×Int) :=
 Qoa p0>>=fun x1 =>
 if(x1.2.2 != 0) then
  some ([],x1.2.1,x1.2.2)
 else
  Qav false false x1.1 0 false>>=fun x2 =>
  if x2.2.2 then
   if(decide (x2.2.1<(x1.1.length:Int))) then
    idx x1.1 x2.2.1>>=fun x3 =>
    some ([],x3.From,7)
   else
    some ([],(p0.length:Int),7)
  else
   Qfi x2.1>>=fun x4 =>
   if(decide (x4>1024)) then
    some ([],0,5)
   else
    Qhb x2.1>>=fun x5 =>
    if(decide (x5>12)) then
     some ([],0,8)
    else
     some (x2.1,0,0)
theorem Q7x:∀ (p0:(List UInt8)) (o:(List Qab)×Int×Int),Qrg p0=some o→PCall Tryz.prog 8 [sV p0] (Qf9 o):=by
 intro p0 o h;unfold Qrg at h;refine PCall.ofB mixed tbOk Q7h Tryz.func8 rfl (by kernel_rfl) (Nat.le_of_ble_eq_true rfl) ?_;refine Qak [sV p0] Qkf h (fun x1 hy=>(Q4u p0 x1 hy)) (fun x1 hy h=>?_);refine Qaf h (fun hb h=>?_) (fun hb h=>?_)
 ·refine Qao (t:=Qf9) h ?_;exact .tup (xs:=[.sl true [],iV x1.2.1,iV x1.2.2]) (ys:=[.sl false [],iV x1.2.1,iV x1.2.2]) (.cons (.not) (.cons (.refl _) (.cons (.refl _) (.nil))))
 ·refine Qah _ _ h (fun x2 hy=>((Quf false false x1.1 0 false x2 hy).fr [0] [] rfl rfl rfl)) (fun x2 hy h=>?_);refine Qaf h (fun hb h=>?_) (fun hb h=>?_)
  ·refine view (Qaw _ _) rfl ?_;refine Qaf h (fun hb h=>?_) (fun hb h=>?_)
   ·refine And.intro (by decide +kernel) (And.intro rfl ?_);refine Qcv (l:=x1.1) (c:=Qad) (c' := Qad) h (fun _=>rfl) (fun _=>rfl) (by decide) (fun x3 hi h=>?_);refine Qao (t:=Qf9) h ?_;exact .tup (xs:=[.sl true [],iV x3.From,iV 7]) (ys:=[.sl false [],iV x3.From,iV 7]) (.cons (.not) (.cons (.refl _) (.cons (.refl _) (.nil))))
   ·refine vrfl ?_;refine Qao (t:=Qf9) h ?_;exact .tup (xs:=[.sl true [],iV (p0.length:Int),iV 7]) (ys:=[.sl false [],iV (p0.length:Int),iV 7]) (.cons (.not) (.cons (.refl _) (.cons (.refl _) (.nil))))
  ·refine Qak [.sl false (x2.1.map Qae)] Qf6 h (fun x4 hy=>(Qxg x2.1 x4 hy)) (fun x4 hy h=>?_);refine Qaf h (fun hb h=>?_) (fun hb h=>?_)
   ·refine Qao (t:=Qf9) h ?_;exact .tup (xs:=[.sl true [],iV 0,iV 5]) (ys:=[.sl false [],iV 0,iV 5]) (.cons (.not) (.cons (.refl _) (.cons (.refl _) (.nil))))
   ·refine Qak [.sl false (x2.1.map Qae)] Qh5 h (fun x5 hy=>(Qz7 x2.1 x5 hy)) (fun x5 hy h=>?_);refine Qaf h (fun hb h=>?_) (fun hb h=>?_)
    ·refine Qao (t:=Qf9) h ?_;exact .tup (xs:=[.sl true [],iV 0,iV 8]) (ys:=[.sl false [],iV 0,iV 8]) (.cons (.not) (.cons (.refl _) (.cons (.refl _) (.nil))))
    ·refine Qao (t:=Qf9) h ?_;exact .refl _
def Qcg (p0:(List UInt8)) (p1:(List UInt8)):Option (Bool) :=
 ( if(decide ((p0.length:Int) ≥ (p1.length:Int))) then
   cutL p0 0 (p1.length:Int)>>=fun x2 =>
   some (x2==p1)
  else
   some false:Option (Bool))>>=fun o1 =>
 some o1
theorem Qi6:∀ (p0:(List UInt8)) (p1:(List UInt8)) (o:Bool),Qcg p0 p1=some o→PCall Tryz.prog 83 [sV p0,sV p1] (Qc3 o):=by
 intro p0 p1 o h;unfold Qcg at h;refine PCall.ofB mixed tbOk Qip Tryz.func83 rfl (by kernel_rfl) (Nat.le_of_ble_eq_true rfl) ?_;refine Qag h (fun o1 ho hk=>?_);refine Exists.intro (JP1 _ _ o1 .normal (Qhk )) (And.intro ?_ (Qa5 ?_))
 ·have h:=ho;refine vrfl ?_;refine vrfl ?_;refine Qaf h (fun hb h=>?_) (fun hb h=>?_)
  ·refine vrfl ?_;refine Qel none (some (p1.length:Int)) h (fun x2 hi h=>?_);refine JP1.a h ?_;exact Le.tz 0 0 rfl rfl rfl
  ·refine JP1.a h ?_;exact Le.tz 0 0 rfl rfl rfl
 ·have h:=hk;refine Qao (t:=Qc3) h ?_;exact .refl _
def Qc5 (p0:(List UInt8)) (p1:(List UInt8)):Option (Int) :=
 need (p0.length<4294967281)>>=fun _ =>
 some (Lib.index p0 p1)
theorem Qk3:∀ (p0:(List UInt8)) (p1:(List UInt8)) (o:Int),Qc5 p0 p1=some o→PCall Tryz.prog 48 [sV p0,sV p1] (Qfw o):=by
 intro p0 p1 o h;unfold Qc5 at h;obtain⟨h1,h⟩:=Qly h;cases h;exact Qah3 _ _ h1
def Qhd (p0:(List UInt8)) (p1:(List UInt8)):Option ((List UInt8)) :=
 need (p1.length<4294967281)>>=fun _ =>
 need (p1.all (fun b=>decide (b.toNat<128))=true)>>=fun _ =>
 some (Lib.trimLeftS p0 p1)
theorem Qug:∀ (p0:(List UInt8)) (p1:(List UInt8)) (o:(List UInt8)),Qhd p0 p1=some o→PCall Tryz.prog 49 [sV p0,sV p1] (Qm5 o):=by
 intro p0 p1 o h;unfold Qhd at h;obtain⟨h1,h⟩:=Qly h;obtain⟨h2,h⟩:=Qly h;cases h;exact Q9k _ _ h1 h2
def Qc0 (h0_0:(List UInt8)) (h0_1:Int) (h0_2:(List Qaa)):Option (Int) :=
 cutL h0_0 h0_1 (h0_0.length:Int)>>=fun x1 =>
 Qhd x1 [32,9,10,13]>>=fun x2 =>
 some (wr ((h0_0.length:Int)-(x2.length:Int)))
theorem Qi7:∀ (h0_0:(List UInt8)) (h0_1:Int) (h0_2:(List Qaa)) (o:Int),Qc0 h0_0 h0_1 h0_2=some o→CallOK Tryz.prog 28 [.ptr 0 0] ⟨[[.p (sV h0_0),.p (iV h0_1),.own 0 59 5 (h0_2.map Qad)]],[(h0_2.map Qad).length]⟩ (Qjf o) ⟨[[.p (sV h0_0),.p (iV o),.own 0 59 5 (h0_2.map Qad)]],[(h0_2.map Qad).length]⟩:=by
 intro h0_0 h0_1 h0_2 o h;unfold Qc0 at h;refine CallOK.ofB mixed tbOk Qoy Tryz.func28 rfl (by kernel_rfl) (Nat.le_of_ble_eq_true rfl) rfl rfl rfl ?_;refine And.intro (by decide +kernel) (And.intro rfl ?_);refine vrfl ?_;refine Qel (some h0_1) none h (fun x1 hi h=>?_);refine Qdc [sV x1,sV [32,9,10,13]] Qm5 h (fun x2 hy=>(Qug x1 [32,9,10,13] x2 hy)) (fun x2 hy h=>?_);refine vrfl ?_;refine Exists.intro _ (And.intro (Le.refl _ _ _) ?_);exact Qbd (t:=Qjf) (ss:=fun o=>⟨[[.p (sV h0_0),.p (iV o),.own 0 59 5 (h0_2.map Qad)]],[(h0_2.map Qad).length]⟩) h ⟨[0],rfl,.refl _,.refl _,rfl⟩
def Qa3 (p1:Int) (p2:(List UInt8)) (p3:Int) (p4:Int) (h0_0:(List UInt8)) (h0_1:Int) (h0_2:(List Qaa)):Option (Int×(List Qaa)) :=
 appL 48 h0_2 [(Qaa.mk p1 p2 p3 h0_1 (wr (h0_1+p4)))]>>=fun x1 =>
 some ((wr (h0_1+p4)),x1)
theorem Qcd:∀ (p1:Int) (p2:(List UInt8)) (p3:Int) (p4:Int) (h0_0:(List UInt8)) (h0_1:Int) (h0_2:(List Qaa)) (o:Int×(List Qaa)),Qa3 p1 p2 p3 p4 h0_0 h0_1 h0_2=some o→CallOK Tryz.prog 27 [.ptr 0 0,.p (iV p1),.p (sV p2),.p (iV p3),.p (iV p4)] ⟨[[.p (sV h0_0),.p (iV h0_1),.own 0 59 5 (h0_2.map Qad)]],[(h0_2.map Qad).length]⟩ (Ql5 o) ⟨[[.p (sV h0_0),.p (iV o.1),.own 0 59 5 (o.2.map Qad)]],[(o.2.map Qad).length]⟩:=by
 intro p1 p2 p3 p4 h0_0 h0_1 h0_2 o h;unfold Qa3 at h;refine CallOK.ofB mixed tbOk Qsu Tryz.func27 rfl (by kernel_rfl) (Nat.le_of_ble_eq_true rfl) rfl rfl rfl ?_;refine And.intro (by decide +kernel) (And.intro rfl ?_);refine Qqj (a:=h0_2) (b:=[(Qaa.mk p1 p2 p3 h0_1 (wr (h0_1+p4)))]) (c:=Qad) h (.refl _) (fun _=>rfl) rfl (fun x1 hi h=>?_);refine Exists.intro _ (And.intro (Le.refl _ _ _) ?_);exact Qbd (t:=Ql5) (ss:=fun o=>⟨[[.p (sV h0_0),.p (iV o.1),.own 0 59 5 (o.2.map Qad)]],[(o.2.map Qad).length]⟩) h ⟨[0],rfl,.refl _,.refl _,rfl⟩
def Qko (p0:Int):Option (Bool) :=
 ( if(decide (p0 ≥ 48)) then
   some (decide (p0≤57))
  else
   some false:Option (Bool))>>=fun o1 =>
 some o1
theorem Qm8:∀ (p0:Int) (o:Bool),Qko p0=some o→PCall Tryz.prog 52 [nV .u8 p0] (Qjv o):=by
 intro p0 o h;unfold Qko at h;refine PCall.ofB mixed tbOk Q7i Tryz.func52 rfl (by kernel_rfl) (Nat.le_of_ble_eq_true rfl) ?_;refine Qag h (fun o1 ho hk=>?_);refine Exists.intro (JP1 _ _ o1 .normal (Q1k )) (And.intro ?_ (Qa5 ?_))
 ·have h:=ho;refine Qaf h (fun hb h=>?_) (fun hb h=>?_)
  ·refine JP1.a h ?_;exact Le.tz 0 0 rfl rfl rfl
  ·refine JP1.a h ?_;exact Le.tz 0 0 rfl rfl rfl
 ·have h:=hk;refine Qao (t:=Qjv) h ?_;exact .refl _
def Qj3 (p0:Int):Option (Bool) :=
 ( if(decide (p0 ≥ 97)) then
   if(decide (p0≤122)) then
    some true
   else
    Qko p0>>=fun x2 =>
    if x2 then
     some true
    else
     some (p0==95)
  else
   Qko p0>>=fun x3 =>
   if x3 then
    some true
   else
    some (p0==95):Option (Bool))>>=fun o1 =>
 some o1
theorem Qo8:∀ (p0:Int) (o:Bool),Qj3 p0=some o→PCall Tryz.prog 54 [nV .u8 p0] (Qki o):=by
 intro p0 o h;unfold Qj3 at h;refine PCall.ofB mixed tbOk Q4i Tryz.func54 rfl (by kernel_rfl) (Nat.le_of_ble_eq_true rfl) ?_;refine Qag h (fun o1 ho hk=>?_);refine Exists.intro (JP1 _ _ o1 .normal (Qzz )) (And.intro ?_ (Qa5 ?_))
 ·have h:=ho;refine Qaf h (fun hb h=>?_) (fun hb h=>?_)
  ·refine Qaf h (fun hb h=>?_) (fun hb h=>?_)
   ·refine bT ?_;refine JP1.a h ?_;exact Le.tz 0 0 rfl rfl rfl
   ·refine Qak [nV .u8 p0] Qjv h (fun x2 hy=>(Qm8 p0 x2 hy)) (fun x2 hy h=>?_);refine Qaf h (fun hb h=>?_) (fun hb h=>?_)
    ·refine JP1.a h ?_;exact Le.tz 0 0 rfl rfl rfl
    ·refine JP1.a h ?_;exact Le.tz 0 0 rfl rfl rfl
  ·refine bF ?_;refine Qak [nV .u8 p0] Qjv h (fun x3 hy=>(Qm8 p0 x3 hy)) (fun x3 hy h=>?_);refine Qaf h (fun hb h=>?_) (fun hb h=>?_)
   ·refine JP1.a h ?_;exact Le.tz 0 0 rfl rfl rfl
   ·refine JP1.a h ?_;exact Le.tz 0 0 rfl rfl rfl
 ·have h:=hk;refine Qao (t:=Qki) h ?_;exact .refl _
def Qbe (h0_0:(List UInt8)) (h0_1:Int) (h0_2:(List Qaa)) (v7:Int):Option (Int) :=
 ( if(decide (v7<(h0_0.length:Int))) then
   idx h0_0 v7>>=fun x3 =>
   Qko (x3.toNat:Int)>>=fun x4 =>
   some x4
  else
   some false:Option (Bool))>>=fun o2 =>
 if o2 then
  Qbe h0_0 h0_1 h0_2 (wr (v7+1))
 else
  some v7
 partial_fixpoint
theorem Qv0:∀ (h0_0:(List UInt8)) (h0_1:Int) (h0_2:(List Qaa)),(∀ (v7:Int) (o1:Int),Qbe h0_0 h0_1 h0_2 v7=some o1→TL (1,1) Tryz.prog 38 Qkk (JP1 (1,1) 38 o1 (.exit 0) (Qeo h0_0 h0_1 h0_2)) (Qc9 h0_0 h0_1 h0_2 v7)):=by
 intro h0_0 h0_1 h0_2;refine Qbe.partial_correctness h0_0 h0_1 h0_2 _ ?_;intro Qbe' iQbe v7 o1 h;refine TL.round (Qan mixed tbOk (lv:=Qfy) _ _ _ ?_);refine Qag h (fun o2 ho hk=>?_);refine Exists.intro (JP1 _ _ o2 .normal (Qkj h0_0 h0_1 h0_2 v7)) (And.intro ?_ (Qa5 ?_))
 ·have h:=ho;refine vrfl ?_;refine Qaf h (fun hb h=>?_) (fun hb h=>?_)
  ·refine Qcn h (fun x3 hi h=>?_);refine Qak [nV .u8 (x3.toNat:Int)] Qjv h (fun x4 hy=>(Qm8 (x3.toNat:Int) x4 hy)) (fun x4 hy h=>?_);refine JP1.a h ?_;exact Le.tz 1 1 rfl rfl rfl
  ·refine JP1.a h ?_;exact Le.tz 1 1 rfl rfl rfl
 ·have h:=hk;refine Qaf h (fun hb h=>?_) (fun hb h=>?_)
  ·refine TL.le (τ := Qc9 h0_0 h0_1 h0_2 (wr (v7+1))) ?_ ((iQbe (wr (v7+1)) _ h));exact Le.tz 1 1 rfl rfl rfl
  ·exact JP1.a h (Le.tz 1 1 rfl rfl rfl)
def Qdd (p1:Int) (h0_0:(List UInt8)) (h0_1:Int) (h0_2:(List Qaa)):Option ((List UInt8)) :=
 (Qbe h0_0 h0_1 h0_2 p1)>>=fun o1 =>
 cutL h0_0 h0_1 o1>>=fun x5 =>
 some x5
theorem Qli:∀ (p1:Int) (h0_0:(List UInt8)) (h0_1:Int) (h0_2:(List Qaa)) (o:(List UInt8)),Qdd p1 h0_0 h0_1 h0_2=some o→CallOK Tryz.prog 89 [.ptr 0 0,.p (iV p1),.fn (.func 52) [] []] ⟨[[.p (sV h0_0),.p (iV h0_1),.own 0 59 5 (h0_2.map Qad)]],[(h0_2.map Qad).length]⟩ (Qgb o) ⟨[[.p (sV h0_0),.p (iV h0_1),.own 0 59 5 (h0_2.map Qad)]],[(h0_2.map Qad).length]⟩:=by
 intro p1 h0_0 h0_1 h0_2 o h;unfold Qdd at h;refine CallOK.ofB mixed tbOk Qfy Tryz.func89 rfl (by kernel_rfl) (Nat.le_of_ble_eq_true rfl) rfl rfl rfl ?_;refine Qag h (fun o1 ho hk=>?_);refine Exists.intro (JP1 _ _ o1 (.exit 0) (Qeo h0_0 h0_1 h0_2)) (And.intro (Qnx (τ := Qc9 h0_0 h0_1 h0_2 p1) ?_ (TL.loop (Qv0 h0_0 h0_1 h0_2 p1 o1 ho))) (Qa5 ?_))
 ·exact Le.tz 1 1 rfl rfl rfl
 have h:=hk;refine And.intro (by decide +kernel) (And.intro rfl ?_);refine Qel (some h0_1) (some o1) h (fun x5 hi h=>?_);refine Exists.intro _ (And.intro (Le.refl _ _ _) ?_);exact Qbd (t:=Qgb) (ss:=fun o=>⟨[[.p (sV h0_0),.p (iV h0_1),.own 0 59 5 (h0_2.map Qad)]],[(h0_2.map Qad).length]⟩) h ⟨[0],rfl,.refl _,.refl _,rfl⟩
def Qm9 (p0:(List UInt8)):Option (Int×Bool) :=
 need (p0.length≤9223372036854775807)>>=fun _ =>
 some (numP p0)
theorem Qz9:∀ (p0:(List UInt8)) (o:Int×Bool),Qm9 p0=some o→PCall Tryz.prog 90 [sV p0] (Qtr o):=by
 intro p0 o h;unfold Qm9 at h;obtain⟨h1,h⟩:=Qly h;cases h;exact Qafe _ h1
def Qd7 (h0_0:(List UInt8)) (h0_1:Int) (h0_2:(List Qaa)):Option (Bool×Int×(List Qaa)) :=
 Qdd (wr (h0_1+1)) h0_0 h0_1 h0_2>>=fun x1 =>
 Qm9 x1>>=fun x2 =>
 if x2.2 then
  Qa3 6 [] x2.1 (x1.length:Int) h0_0 h0_1 h0_2>>=fun x3 =>
  some (x2.2,x3.1,x3.2)
 else
  some (x2.2,h0_1,h0_2)
theorem Qrh:∀ (h0_0:(List UInt8)) (h0_1:Int) (h0_2:(List Qaa)) (o:Bool×Int×(List Qaa)),Qd7 h0_0 h0_1 h0_2=some o→CallOK Tryz.prog 53 [.ptr 0 0] ⟨[[.p (sV h0_0),.p (iV h0_1),.own 0 59 5 (h0_2.map Qad)]],[(h0_2.map Qad).length]⟩ (Qgv o) ⟨[[.p (sV h0_0),.p (iV o.2.1),.own 0 59 5 (o.2.2.map Qad)]],[(o.2.2.map Qad).length]⟩:=by
 intro h0_0 h0_1 h0_2 o h;unfold Qd7 at h;refine CallOK.ofB mixed tbOk Qq5 Tryz.func53 rfl (by kernel_rfl) (Nat.le_of_ble_eq_true rfl) rfl rfl rfl ?_;refine Qah _ _ h (fun x1 hy=>((Qli (wr (h0_1+1)) h0_0 h0_1 h0_2 x1 hy).fr [0] [0] rfl rfl rfl)) (fun x1 hy h=>?_);refine Qak [sV x1] Qtr h (fun x2 hy=>(Qz9 x1 x2 hy)) (fun x2 hy h=>?_);refine Qaf h (fun hb h=>?_) (fun hb h=>?_)
 ·refine vrfl ?_;refine Qah _ _ h (fun x3 hy=>((Qcd 6 [] x2.1 (x1.length:Int) h0_0 h0_1 h0_2 x3 hy).fr [0] [0] rfl rfl rfl)) (fun x3 hy h=>?_);refine Exists.intro _ (And.intro (Le.refl _ _ _) ?_);exact Qbd (t:=Qgv) (ss:=fun o=>⟨[[.p (sV h0_0),.p (iV o.2.1),.own 0 59 5 (o.2.2.map Qad)]],[(o.2.2.map Qad).length]⟩) h ⟨[0],rfl,.refl _,.refl _,rfl⟩
 ·refine Exists.intro _ (And.intro (Le.refl _ _ _) ?_);exact Qbd (t:=Qgv) (ss:=fun o=>⟨[[.p (sV h0_0),.p (iV o.2.1),.own 0 59 5 (o.2.2.map Qad)]],[(o.2.2.map Qad).length]⟩) h ⟨[0],rfl,.refl _,.refl _,rfl⟩
def Qbt (h0_0:(List UInt8)) (h0_1:Int) (h0_2:(List Qaa)) (v13:Int):Option (Unit⊕(Int×(List Qaa))) :=
 if(decide (v13<5)) then
  idx ([(Qkv.mk 46 7),(Qkv.mk 40 8),(Qkv.mk 41 9),(Qkv.mk 44 10),(Qkv.mk 61 11)]:List Qkv) v13>>=fun x4 =>
  idx h0_0 h0_1>>=fun x5 =>
  if((x5.toNat:Int)==x4.c_) then
   Qa3 x4.k_ [] 0 1 h0_0 h0_1 h0_2>>=fun x6 =>
   some (.inr (x6.1,x6.2))
  else
   Qbt h0_0 h0_1 h0_2 (wr (v13+1))
 else
  some (.inl ())
 partial_fixpoint
theorem Q4z:∀ (h0_0:(List UInt8)) (h0_1:Int) (h0_2:(List Qaa)),(∀ (v13:Int) (o1:Unit⊕(Int×(List Qaa))),Qbt h0_0 h0_1 h0_2 v13=some o1→TL (1,1) Tryz.prog 33 Qq6 (JP2 (1,1) 33 o1 (.exit 0) (Qjg h0_0 h0_1 h0_2) .ret (Qjh h0_0 h0_1 h0_2)) (Qft h0_0 h0_1 h0_2 v13)):=by
 intro h0_0 h0_1 h0_2;refine Qbt.partial_correctness h0_0 h0_1 h0_2 _ ?_;intro Qbt' iQbt v13 o1 h;refine TL.round (Qan mixed tbOk (lv:=Ql6) _ _ _ ?_);refine Qaf h (fun hb h=>?_) (fun hb h=>?_)
 ·refine Qah2 (l:=([(Qkv.mk 46 7),(Qkv.mk 40 8),(Qkv.mk 41 9),(Qkv.mk 44 10),(Qkv.mk 61 11)]:List Qkv)) (c:=fun x4=>[nV .u8 x4.c_,iV x4.k_]) h rfl rfl rfl (fun _=>rfl) rfl (fun x4 hi h=>?_);refine And.intro (by decide +kernel) (And.intro rfl ?_);refine Qcn h (fun x5 hi h=>?_);refine Qaf h (fun hb h=>?_) (fun hb h=>?_)
  ·refine Qah _ _ h (fun x6 hy=>((Qcd x4.k_ [] 0 1 h0_0 h0_1 h0_2 x6 hy).fr [0] [0] rfl rfl rfl)) (fun x6 hy h=>?_);exact JP2.b h (Le.tz 2 1 rfl rfl rfl)
  ·refine TL.le (τ := Qft h0_0 h0_1 h0_2 (wr (v13+1))) ?_ ((iQbt (wr (v13+1)) _ h));exact Le.tz 2 1 rfl rfl rfl
 ·exact JP2.a h (Le.tz 2 1 rfl rfl rfl)
def Qfk (h0_0:(List UInt8)) (h0_1:Int) (h0_2:(List Qaa)):Option (Bool×Int×(List Qaa)) :=
 (Qbt h0_0 h0_1 h0_2 0)>>=fun o1 =>
 match o1 with
 | .inl y2 =>
  some (false,h0_1,h0_2)
 | .inr y3 =>
  some (true,y3.1,y3.2)
theorem Quh:∀ (h0_0:(List UInt8)) (h0_1:Int) (h0_2:(List Qaa)) (o:Bool×Int×(List Qaa)),Qfk h0_0 h0_1 h0_2=some o→CallOK Tryz.prog 56 [.ptr 0 0] ⟨[[.p (sV h0_0),.p (iV h0_1),.own 0 59 5 (h0_2.map Qad)]],[(h0_2.map Qad).length]⟩ (Qis o) ⟨[[.p (sV h0_0),.p (iV o.2.1),.own 0 59 5 (o.2.2.map Qad)]],[(o.2.2.map Qad).length]⟩:=by
 intro h0_0 h0_1 h0_2 o h;unfold Qfk at h;refine CallOK.ofB mixed tbOk Ql6 Tryz.func56 rfl (by kernel_rfl) (Nat.le_of_ble_eq_true rfl) rfl rfl rfl ?_;refine Qag h (fun o1 ho hk=>?_);refine Exists.intro (JP2 _ _ o1 (.exit 0) (Qjg h0_0 h0_1 h0_2) .ret (Qjh h0_0 h0_1 h0_2)) (And.intro (Qnx (τ := Qft h0_0 h0_1 h0_2 0) ?_ (TL.loop (Q4z h0_0 h0_1 h0_2 0 o1 ho))) (Qlx (fun y2 hy=>?_) (fun y3 hy=>?_)))
 ·exact Le.tz 2 1 rfl rfl rfl
 ·have h:=(by rw[hy] at hk; exact hk);refine Exists.intro _ (And.intro (Le.refl _ _ _) ?_);exact Qbd (t:=Qis) (ss:=fun o=>⟨[[.p (sV h0_0),.p (iV o.2.1),.own 0 59 5 (o.2.2.map Qad)]],[(o.2.2.map Qad).length]⟩) h ⟨[0],rfl,.refl _,.refl _,rfl⟩
 ·have h:=(by rw[hy] at hk; exact hk);refine Exists.intro _ (And.intro (Le.refl _ _ _) ?_);exact Qbd (t:=Qis) (ss:=fun o=>⟨[[.p (sV h0_0),.p (iV o.2.1),.own 0 59 5 (o.2.2.map Qad)]],[(o.2.2.map Qad).length]⟩) h ⟨[0],rfl,.refl _,.refl _,rfl⟩
def Qmj (p0:Int):Option (Int×Bool) :=
 if(p0==110) then
  some (10,true)
 else
  if(p0==116) then
   some (9,true)
  else
   ( if(p0==34) then
     some true
    else
     some (p0==92):Option (Bool))>>=fun o1 =>
   some (p0,o1)
theorem Q1o:∀ (p0:Int) (o:Int×Bool),Qmj p0=some o→PCall Tryz.prog 85 [nV .u8 p0] (Qir o):=by
 intro p0 o h;unfold Qmj at h;refine PCall.ofB mixed tbOk Q1l Tryz.func85 rfl (by kernel_rfl) (Nat.le_of_ble_eq_true rfl) ?_;refine Qaf h (fun hb h=>?_) (fun hb h=>?_)
 ·refine Qao (t:=Qir) h ?_;exact .refl _
 ·refine Qaf h (fun hb h=>?_) (fun hb h=>?_)
  ·refine Qao (t:=Qir) h ?_;exact .refl _
  ·refine Qag h (fun o1 ho hk=>?_);refine Exists.intro (JP1 _ _ o1 .normal (Qxs p0)) (And.intro ?_ (Qa5 ?_))
   ·have h:=ho;refine Qaf h (fun hb h=>?_) (fun hb h=>?_)
    ·refine JP1.a h ?_;exact Le.tz 0 0 rfl rfl rfl
    ·refine JP1.a h ?_;exact Le.tz 0 0 rfl rfl rfl
   ·have h:=hk;refine Qao (t:=Qir) h ?_;exact .refl _
def Qbo (h0_0:Bool) (h0_1:(List Int)):Option (Bool) :=
 some true
theorem Qew:∀ (h0_0:Bool) (h0_1:(List Int)) (o:Bool),Qbo h0_0 h0_1=some o→CallOK Tryz.prog 109 [.ptr 0 0] ⟨[[.sp Tryz.prog 113 h0_0 0 0,.own 0 5 1 (h0_1.map (cNum .u8))]],[(h0_1.map (cNum .u8)).length]⟩ (Qk0 o) ⟨[[.sp Tryz.prog 113 o 0 0,.own 0 5 1 (h0_1.map (cNum .u8))]],[(h0_1.map (cNum .u8)).length]⟩:=by
 intro h0_0 h0_1 o h;unfold Qbo at h;cases h;exact Q60 [[.sp Tryz.prog 113 h0_0 0 0,.own 0 5 1 (h0_1.map (cNum .u8))]] _ 0 [.sp Tryz.prog 113 h0_0 0 0,.own 0 5 1 (h0_1.map (cNum .u8))] rfl rfl
def Qcb (p1:Int) (h0_0:Bool) (h0_1:(List Int)):Option (Unit×Bool×(List Int)) :=
 Qbo h0_0 h0_1>>=fun x1 =>
 appL 1 h0_1 [p1]>>=fun x2 =>
 some ((),x1,x2)
theorem Qkp:∀ (p1:Int) (h0_0:Bool) (h0_1:(List Int)) (o:Unit×Bool×(List Int)),Qcb p1 h0_0 h0_1=some o→CallOK Tryz.prog 86 [.ptr 0 0,.p (nV .u8 p1)] ⟨[[.sp Tryz.prog 113 h0_0 0 0,.own 0 5 1 (h0_1.map (cNum .u8))]],[(h0_1.map (cNum .u8)).length]⟩ (Qfh o) ⟨[[.sp Tryz.prog 113 o.2.1 0 0,.own 0 5 1 (o.2.2.map (cNum .u8))]],[(o.2.2.map (cNum .u8)).length]⟩:=by
 intro p1 h0_0 h0_1 o h;unfold Qcb at h;refine CallOK.ofB mixed tbOk Qkm Tryz.func86 rfl (by kernel_rfl) (Nat.le_of_ble_eq_true rfl) rfl rfl rfl ?_;refine Qah _ _ h (fun x1 hy=>((Qew h0_0 h0_1 x1 hy).fr [0] [0] rfl rfl rfl)) (fun x1 hy h=>?_);refine Qqj (a:=h0_1) (b:=[p1]) (c:=(cNum .u8)) h (.refl _) (fun _=>rfl) rfl (fun x2 hi h=>?_);refine Exists.intro _ (And.intro (Le.refl _ _ _) ?_);exact Qbd (t:=Qfh) (ss:=fun o=>⟨[[.sp Tryz.prog 113 o.2.1 0 0,.own 0 5 1 (o.2.2.map (cNum .u8))]],[(o.2.2.map (cNum .u8)).length]⟩) h ⟨[0],rfl,.refl _,.refl _,rfl⟩
def Qbx (p1:(List UInt8)) (h0_0:Bool) (h0_1:(List Int)):Option (Int×Unit×Bool×(List Int)) :=
 Qbo h0_0 h0_1>>=fun x1 =>
 appL 1 h0_1 (s2b p1)>>=fun x2 =>
 some ((p1.length:Int),(),x1,x2)
theorem Qjb:∀ (p1:(List UInt8)) (h0_0:Bool) (h0_1:(List Int)) (o:Int×Unit×Bool×(List Int)),Qbx p1 h0_0 h0_1=some o→CallOK Tryz.prog 87 [.ptr 0 0,.p (sV p1)] ⟨[[.sp Tryz.prog 113 h0_0 0 0,.own 0 5 1 (h0_1.map (cNum .u8))]],[(h0_1.map (cNum .u8)).length]⟩ (Qep o) ⟨[[.sp Tryz.prog 113 o.2.2.1 0 0,.own 0 5 1 (o.2.2.2.map (cNum .u8))]],[(o.2.2.2.map (cNum .u8)).length]⟩:=by
 intro p1 h0_0 h0_1 o h;unfold Qbx at h;refine CallOK.ofB mixed tbOk Qja Tryz.func87 rfl (by kernel_rfl) (Nat.le_of_ble_eq_true rfl) rfl rfl rfl ?_;refine Qah _ _ h (fun x1 hy=>((Qew h0_0 h0_1 x1 hy).fr [0] [0] rfl rfl rfl)) (fun x1 hy h=>?_);refine Qahy (a:=h0_1) (b:=p1) h rfl (fun x2 hi h=>?_);refine vrfl ?_;refine Exists.intro _ (And.intro (Le.refl _ _ _) ?_);exact Qbd (t:=Qep) (ss:=fun o=>⟨[[.sp Tryz.prog 113 o.2.2.1 0 0,.own 0 5 1 (o.2.2.2.map (cNum .u8))]],[(o.2.2.2.map (cNum .u8)).length]⟩) h ⟨[0],rfl,.refl _,.refl _,rfl⟩
def Q2c (p0:Int):Option (Bool) :=
 ( if(decide (p0 ≥ 0)) then
   if(decide (p0≤1114111)) then
    if(decide (p0<55296)) then
     some true
    else
     some (decide (p0>57343))
   else
    some false
  else
   some false:Option (Bool))>>=fun o1 =>
 some o1
theorem Qafr:∀ (p0:Int) (o:Bool),Q2c p0=some o→PCall Tryz.prog 108 [nV .i32 p0] (Q4q o):=by
 intro p0 o h;unfold Q2c at h;refine PCall.ofB mixed tbOk Qafi Tryz.func108 rfl (by kernel_rfl) (Nat.le_of_ble_eq_true rfl) ?_;refine Qag h (fun o1 ho hk=>?_);refine Exists.intro (JP1 _ _ o1 .normal (Q90 )) (And.intro ?_ (Qa5 ?_))
 ·have h:=ho;refine Qaf h (fun hb h=>?_) (fun hb h=>?_)
  ·refine Qaf h (fun hb h=>?_) (fun hb h=>?_)
   ·refine Qaf h (fun hb h=>?_) (fun hb h=>?_)
    ·refine JP1.a h ?_;exact Le.tz 0 0 rfl rfl rfl
    ·refine JP1.a h ?_;exact Le.tz 0 0 rfl rfl rfl
   ·refine JP1.a h ?_;exact Le.tz 0 0 rfl rfl rfl
  ·refine bF ?_;refine JP1.a h ?_;exact Le.tz 0 0 rfl rfl rfl
 ·have h:=hk;refine Qao (t:=Q4q) h ?_;exact .refl _
def Qhw (p0:(List UInt8)) (p2:Int) (v1:Int) (v14:Int):Option (Int⊕Unit) :=
 if(decide (v14<p2)) then
  idx p0 v14>>=fun x4 =>
  if((bits .and .u8 (x4.toNat:Int) 192) != 128) then
   some (.inr ())
  else
   idx p0 v14>>=fun x5 =>
   Qhw p0 p2 (bits .or .i32 (IntKind.i32.wrap (v1*2 ^ (min (6:Int).toNat (IntKind.i32.bits)))) (IntKind.i32.wrap (bits .and .u8 (x5.toNat:Int) 63))) (wr (v14+1))
 else
  some (.inl v1)
 partial_fixpoint
theorem Qafs:∀ (p0:(List UInt8)) (p2:Int),(∀ (v1:Int) (v14:Int) (o1:Int⊕Unit),Qhw p0 p2 v1 v14=some o1→TL (0,0) Tryz.prog 32 Q4r (JP2 (0,0) 32 o1 (.exit 0) (Qts p0 p2) .ret (Qtt p0 p2)) (Qnt p0 p2 v1 v14)):=by
 intro p0 p2;refine Qhw.partial_correctness p0 p2 _ ?_;intro Qhw' iQhw v1 v14 o1 h;refine TL.round (Qan mixed tbOk (lv:=Qz3) _ _ _ ?_);refine Qaf h (fun hb h=>?_) (fun hb h=>?_)
 ·refine Qcn h (fun x4 hi h=>?_);refine Qaf h (fun hb h=>?_) (fun hb h=>?_)
  ·exact JP2.b h (Le.tz 0 0 rfl rfl rfl)
  ·refine And.intro (by decide) ?_;refine Qcn h (fun x5 hi h=>?_);refine vrfl ?_;refine TL.le (τ := Qnt p0 p2 (bits .or .i32 (IntKind.i32.wrap (v1*2 ^ (min (6:Int).toNat (IntKind.i32.bits)))) (IntKind.i32.wrap (bits .and .u8 (x5.toNat:Int) 63))) (wr (v14+1))) ?_ ((iQhw (bits .or .i32 (IntKind.i32.wrap (v1*2 ^ (min (6:Int).toNat (IntKind.i32.bits)))) (IntKind.i32.wrap (bits .and .u8 (x5.toNat:Int) 63))) (wr (v14+1)) _ h));exact Le.tz 0 0 rfl rfl rfl
 ·exact JP2.a h (Le.tz 0 0 rfl rfl rfl)
def Qsf (p0:(List UInt8)) (p1:Int) (p2:Int):Option (Int×Bool) :=
 if(decide ((p0.length:Int)<p2)) then
  some (0,false)
 else
  (Qhw p0 p2 p1 0)>>=fun o1 =>
  match o1 with
  | .inl y2 =>
   some (y2,true)
  | .inr y3 =>
   some (0,false)
theorem Q93:∀ (p0:(List UInt8)) (p1:Int) (p2:Int) (o:Int×Bool),Qsf p0 p1 p2=some o→PCall Tryz.prog 107 [sV p0,nV .i32 p1,iV p2] (Qn8 o):=by
 intro p0 p1 p2 o h;unfold Qsf at h;refine PCall.ofB mixed tbOk Qz3 Tryz.func107 rfl (by kernel_rfl) (Nat.le_of_ble_eq_true rfl) ?_;refine vrfl ?_;refine Qaf h (fun hb h=>?_) (fun hb h=>?_)
 ·refine Qao (t:=Qn8) h ?_;exact .refl _
 ·refine Qag h (fun o1 ho hk=>?_);refine Exists.intro (JP2 _ _ o1 (.exit 0) (Qts p0 p2) .ret (Qtt p0 p2)) (And.intro (Qnx (τ := Qnt p0 p2 p1 0) ?_ (TL.loop (Qafs p0 p2 p1 0 o1 ho))) (Qlx (fun y2 hy=>?_) (fun y3 hy=>?_)))
  ·exact Le.tz 0 0 rfl rfl rfl
  ·have h:=(by rw[hy] at hk; exact hk);refine Qao (t:=Qn8) h ?_;exact .refl _
  ·have h:=(by rw[hy] at hk; exact hk);refine Qao (t:=Qn8) h ?_;exact .refl _
def Qvl (p0:(List UInt8)) (p1:Int):Option (Int×Int) :=
 ( if(decide (p1<0)) then
   some true
  else
   some (decide (p1 ≥ (p0.length:Int))):Option (Bool))>>=fun o1 =>
 if o1 then
  some (0,0)
 else
  idx p0 p1>>=fun x2 =>
  ( if(decide ((x2.toNat:Int)<128)) then
    some (.inr (IntKind.i32.wrap (x2.toNat:Int)))
   else
    ( if(decide ((x2.toNat:Int) ≥ 192)) then
      some (decide ((x2.toNat:Int)<224))
     else
      some false:Option (Bool))>>=fun o6 =>
    if o6 then
     some (.inl ((IntKind.i32.wrap (bits .and .u8 (x2.toNat:Int) 31)),128,1))
    else
     ( if(decide ((x2.toNat:Int) ≥ 224)) then
       some (decide ((x2.toNat:Int)<240))
      else
       some false:Option (Bool))>>=fun o7 =>
     if o7 then
      some (.inl ((IntKind.i32.wrap (bits .and .u8 (x2.toNat:Int) 15)),2048,2))
     else
      ( if(decide ((x2.toNat:Int) ≥ 240)) then
        some (decide ((x2.toNat:Int)<248))
       else
        some false:Option (Bool))>>=fun o8 =>
      if o8 then
       some (.inl ((IntKind.i32.wrap (bits .and .u8 (x2.toNat:Int) 7)),65536,3))
      else
       some (.inr 65533):Option ((Int×Int×Int)⊕Int))>>=fun o3 =>
  match o3 with
  | .inl y4 =>
   cutL p0 (wr (p1+1)) (p0.length:Int)>>=fun x9 =>
   Qsf x9 y4.1 y4.2.2>>=fun x10 =>
   ( if(!x10.2) then
     some true
    else
     if(decide (x10.1<y4.2.1)) then
      some true
     else
      Q2c x10.1>>=fun x12 =>
      some (!x12):Option (Bool))>>=fun o11 =>
   if o11 then
    some (65533,1)
   else
    some (x10.1,(wr (y4.2.2+1)))
  | .inr y5 =>
   some (y5,1)
theorem Q94:∀ (p0:(List UInt8)) (p1:Int) (o:Int×Int),Qvl p0 p1=some o→PCall Tryz.prog 84 [sV p0,iV p1] (Qlr o):=by
 intro p0 p1 o h;unfold Qvl at h;refine PCall.ofB mixed tbOk Q9z Tryz.func84 rfl (by kernel_rfl) (Nat.le_of_ble_eq_true rfl) ?_;refine Qag h (fun o1 ho hk=>?_);refine Exists.intro (JP1 _ _ o1 .normal (Q4j p0 p1)) (And.intro ?_ (Qa5 ?_))
 ·have h:=ho;refine Qaf h (fun hb h=>?_) (fun hb h=>?_)
  ·refine JP1.a h ?_;exact Le.tz 0 0 rfl rfl rfl
  ·refine vrfl ?_;refine JP1.a h ?_;exact Le.tz 0 0 rfl rfl rfl
 ·have h:=hk;refine Qaf h (fun hb h=>?_) (fun hb h=>?_)
  ·refine Qao (t:=Qlr) h ?_;exact .refl _
  ·refine Qcn h (fun x2 hi h=>?_);refine Qag h (fun o3 ho hk=>?_);refine Exists.intro (JP2 _ _ o3 .normal (Q4k p0 p1) .ret (Q4l p0 p1)) (And.intro ?_ (Qlx (fun y4 hy=>?_) (fun y5 hy=>?_)))
   ·have h:=ho;refine Qaf h (fun hb h=>?_) (fun hb h=>?_)
    ·refine vrfl ?_;refine JP2.b h ?_;exact Le.tz 0 0 rfl rfl rfl
    ·refine Qag h (fun o6 ho hk=>?_);refine Exists.intro (JP1 _ _ o6 .normal (Q4m p0 p1 x2)) (And.intro ?_ (Qa5 ?_))
     ·have h:=ho;refine Qaf h (fun hb h=>?_) (fun hb h=>?_)
      ·refine JP1.a h ?_;exact Le.tz 0 0 rfl rfl rfl
      ·refine JP1.a h ?_;exact Le.tz 0 0 rfl rfl rfl
     ·have h:=hk;refine Qaf h (fun hb h=>?_) (fun hb h=>?_)
      ·refine vrfl ?_;refine JP2.a h ?_;exact Le.tz 0 0 rfl rfl rfl
      ·refine Qag h (fun o7 ho hk=>?_);refine Exists.intro (JP1 _ _ o7 .normal (Q4n p0 p1 x2)) (And.intro ?_ (Qa5 ?_))
       ·have h:=ho;refine Qaf h (fun hb h=>?_) (fun hb h=>?_)
        ·refine JP1.a h ?_;exact Le.tz 0 0 rfl rfl rfl
        ·refine JP1.a h ?_;exact Le.tz 0 0 rfl rfl rfl
       ·have h:=hk;refine Qaf h (fun hb h=>?_) (fun hb h=>?_)
        ·refine vrfl ?_;refine JP2.a h ?_;exact Le.tz 0 0 rfl rfl rfl
        ·refine Qag h (fun o8 ho hk=>?_);refine Exists.intro (JP1 _ _ o8 .normal (Q4o p0 p1 x2)) (And.intro ?_ (Qa5 ?_))
         ·have h:=ho;refine Qaf h (fun hb h=>?_) (fun hb h=>?_)
          ·refine JP1.a h ?_;exact Le.tz 0 0 rfl rfl rfl
          ·refine JP1.a h ?_;exact Le.tz 0 0 rfl rfl rfl
         ·have h:=hk;refine Qaf h (fun hb h=>?_) (fun hb h=>?_)
          ·refine vrfl ?_;refine JP2.a h ?_;exact Le.tz 0 0 rfl rfl rfl
          ·refine JP2.b h ?_;exact Le.tz 0 0 rfl rfl rfl
   ·have h:=(by rw[hy] at hk; exact hk);refine Qel (some (wr (p1+1))) none h (fun x9 hi h=>?_);refine Qak [sV x9,nV .i32 y4.1,iV y4.2.2] Qn8 h (fun x10 hy=>(Q93 x9 y4.1 y4.2.2 x10 hy)) (fun x10 hy h=>?_);refine Qag h (fun o11 ho hk=>?_);refine Exists.intro (JP1 _ _ o11 .normal (Q4p y4 x10)) (And.intro ?_ (Qa5 ?_))
    ·have h:=ho;refine Qaf h (fun hb h=>?_) (fun hb h=>?_)
     ·refine bT ?_;refine JP1.a h ?_;exact Le.tz 0 0 rfl rfl rfl
     ·refine Qaf h (fun hb h=>?_) (fun hb h=>?_)
      ·refine JP1.a h ?_;exact Le.tz 0 0 rfl rfl rfl
      ·refine Qak [nV .i32 x10.1] Q4q h (fun x12 hy=>(Qafr x10.1 x12 hy)) (fun x12 hy h=>?_);refine JP1.a h ?_;exact Le.tz 0 0 rfl rfl rfl
    ·have h:=hk;refine Qaf h (fun hb h=>?_) (fun hb h=>?_)
     ·refine Qao (t:=Qlr) h ?_;exact .refl _
     ·refine Qao (t:=Qlr) h ?_;exact .refl _
   ·have h:=(by rw[hy] at hk; exact hk);refine Qao (t:=Qlr) h ?_;exact .refl _
def Qbu (h0_0:(List UInt8)) (h0_1:Int) (h0_2:(List Qaa)) (v4:Int) (h1_0:Bool) (h1_1:(List Int)):Option ((Int×Bool×(List Int))⊕(Bool×(List Int))) :=
 ( if(decide (v4<(h0_0.length:Int))) then
   idx h0_0 v4>>=fun x5 =>
   some ((x5.toNat:Int) != 34)
  else
   some false:Option (Bool))>>=fun o4 =>
 if o4 then
  Qvl h0_0 v4>>=fun x6 =>
  if(x6.1==92) then
   if((wr (v4+1))==(h0_0.length:Int)) then
    some (.inr (h1_0,h1_1))
   else
    idx h0_0 (wr (v4+1))>>=fun x7 =>
    Qmj (x7.toNat:Int)>>=fun x8 =>
    if(!x8.2) then
     some (.inr (h1_0,h1_1))
    else
     Qcb x8.1 h1_0 h1_1>>=fun x9 =>
     Qbu h0_0 h0_1 h0_2 (wr (v4+2)) x9.2.1 x9.2.2
  else
   ( if(x6.1==10) then
     some true
    else
     if(x6.1==13) then
      some true
     else
      if(x6.1==65533) then
       some (x6.2==1)
      else
       some false:Option (Bool))>>=fun o10 =>
   if o10 then
    some (.inr (h1_0,h1_1))
   else
    cutL h0_0 v4 (wr (v4+x6.2))>>=fun x11 =>
    Qbx x11 h1_0 h1_1>>=fun x12 =>
    Qbu h0_0 h0_1 h0_2 (wr (v4+x6.2)) x12.2.2.1 x12.2.2.2
 else
  some (.inl (v4,h1_0,h1_1))
 partial_fixpoint
theorem Q40:∀ (h0_0:(List UInt8)) (h0_1:Int) (h0_2:(List Qaa)),(∀ (v4:Int) (h1_0:Bool) (h1_1:(List Int)) (o1:(Int×Bool×(List Int))⊕(Bool×(List Int))),Qbu h0_0 h0_1 h0_2 v4 h1_0 h1_1=some o1→TL (1,1) Tryz.prog 112 Qq9 (JP2 (1,1) 112 o1 (.exit 0) (Qji h0_0 h0_1 h0_2) .ret (Qjj h0_0 h0_1 h0_2)) (Qdy h0_0 h0_1 h0_2 v4 h1_0 h1_1)):=by
 intro h0_0 h0_1 h0_2;refine Qbu.partial_correctness h0_0 h0_1 h0_2 _ ?_;intro Qbu' iQbu v4 h1_0 h1_1 o1 h;refine TL.round (Qan mixed tbOk (lv:=Ql7) _ _ _ ?_);refine Qag h (fun o4 ho hk=>?_);refine Exists.intro (JP1 _ _ o4 .normal (Qq7 h0_0 h0_1 h0_2 v4 h1_0 h1_1)) (And.intro ?_ (Qa5 ?_))
 ·have h:=ho;refine vrfl ?_;refine Qaf h (fun hb h=>?_) (fun hb h=>?_)
  ·refine Qcn h (fun x5 hi h=>?_);refine JP1.a h ?_;exact Le.tz 2 2 rfl rfl rfl
  ·refine JP1.a h ?_;exact Le.tz 2 2 rfl rfl rfl
 ·have h:=hk;refine Qaf h (fun hb h=>?_) (fun hb h=>?_)
  ·refine Qak [sV h0_0,iV v4] Qlr h (fun x6 hy=>(Q94 h0_0 v4 x6 hy)) (fun x6 hy h=>?_);refine Qaf h (fun hb h=>?_) (fun hb h=>?_)
   ·refine vrfl ?_;refine Qaf h (fun hb h=>?_) (fun hb h=>?_)
    ·exact JP2.b h (Le.tz 2 2 rfl rfl rfl)
    ·refine Qcn h (fun x7 hi h=>?_);refine Qak [nV .u8 (x7.toNat:Int)] Qir h (fun x8 hy=>(Q1o (x7.toNat:Int) x8 hy)) (fun x8 hy h=>?_);refine Qaf h (fun hb h=>?_) (fun hb h=>?_)
     ·exact JP2.b h (Le.tz 2 2 rfl rfl rfl)
     ·refine Qah _ _ h (fun x9 hy=>((Qkp x8.1 h1_0 h1_1 x9 hy).fr [1] [1] rfl rfl rfl)) (fun x9 hy h=>?_);refine TL.le (τ := Qdy h0_0 h0_1 h0_2 (wr (v4+2)) x9.2.1 x9.2.2) ?_ ((iQbu (wr (v4+2)) x9.2.1 x9.2.2 _ h));exact Le.tz 2 2 rfl rfl rfl
   ·refine Qag h (fun o10 ho hk=>?_);refine Exists.intro (JP1 _ _ o10 .normal (Qq8 h0_0 h0_1 h0_2 v4 h1_0 h1_1 x6)) (And.intro ?_ (Qa5 ?_))
    ·have h:=ho;refine Qaf h (fun hb h=>?_) (fun hb h=>?_)
     ·refine bT ?_;refine JP1.a h ?_;exact Le.tz 2 2 rfl rfl rfl
     ·refine Qaf h (fun hb h=>?_) (fun hb h=>?_)
      ·refine JP1.a h ?_;exact Le.tz 2 2 rfl rfl rfl
      ·refine Qaf h (fun hb h=>?_) (fun hb h=>?_)
       ·refine JP1.a h ?_;exact Le.tz 2 2 rfl rfl rfl
       ·refine JP1.a h ?_;exact Le.tz 2 2 rfl rfl rfl
    ·have h:=hk;refine Qaf h (fun hb h=>?_) (fun hb h=>?_)
     ·exact JP2.b h (Le.tz 2 2 rfl rfl rfl)
     ·refine Qel (some v4) (some (wr (v4+x6.2))) h (fun x11 hi h=>?_);refine Qah _ _ h (fun x12 hy=>((Qjb x11 h1_0 h1_1 x12 hy).fr [1] [1] rfl rfl rfl)) (fun x12 hy h=>?_);refine TL.le (τ := Qdy h0_0 h0_1 h0_2 (wr (v4+x6.2)) x12.2.2.1 x12.2.2.2) ?_ ((iQbu (wr (v4+x6.2)) x12.2.2.1 x12.2.2.2 _ h));exact Le.tz 2 2 rfl rfl rfl
  ·exact JP2.a h (Le.tz 2 2 rfl rfl rfl)
def Qdl (h0_0:Bool) (h0_1:(List Int)):Option ((List UInt8)) :=
 b2s h0_1
theorem Qmk:∀ (h0_0:Bool) (h0_1:(List Int)) (o:(List UInt8)),Qdl h0_0 h0_1=some o→CallOK Tryz.prog 88 [.ptr 0 0] ⟨[[.sp Tryz.prog 113 h0_0 0 0,.own 0 5 1 (h0_1.map (cNum .u8))]],[(h0_1.map (cNum .u8)).length]⟩ (Qmr o) ⟨[[.sp Tryz.prog 113 h0_0 0 0,.p (.sl false (h0_1.map (cNum .u8)))]],[((h0_1.map (cNum .u8)).length+1)]⟩:=by
 intro h0_0 h0_1 o h;unfold Qdl at h;exact Qxp [[.sp Tryz.prog 113 h0_0 0 0,.own 0 5 1 (h0_1.map (cNum .u8))]] [(h0_1.map (cNum .u8)).length] 0 0 [.sp Tryz.prog 113 h0_0 0 0,.own 0 5 1 (h0_1.map (cNum .u8))] (h0_1.map (cNum .u8)) rfl rfl rfl (Qae5 h)
def Qfl (h0_0:(List UInt8)) (h0_1:Int) (h0_2:(List Qaa)):Option (Bool×Int×(List Qaa)) :=
 (Qbu h0_0 h0_1 h0_2 (wr (h0_1+1)) false [])>>=fun o1 =>
 match o1 with
 | .inl y2 =>
  if(decide (y2.1 ≥ (h0_0.length:Int))) then
   some (false,h0_1,h0_2)
  else
   Qdl y2.2.1 y2.2.2>>=fun x13 =>
   Qa3 5 x13 0 (wr ((wr (y2.1+1))-h0_1)) h0_0 h0_1 h0_2>>=fun x14 =>
   some (true,x14.1,x14.2)
 | .inr y3 =>
  some (false,h0_1,h0_2)
theorem Qui:∀ (h0_0:(List UInt8)) (h0_1:Int) (h0_2:(List Qaa)) (o:Bool×Int×(List Qaa)),Qfl h0_0 h0_1 h0_2=some o→CallOK Tryz.prog 51 [.ptr 0 0] ⟨[[.p (sV h0_0),.p (iV h0_1),.own 0 59 5 (h0_2.map Qad)]],[(h0_2.map Qad).length]⟩ (Qf0 o) ⟨[[.p (sV h0_0),.p (iV o.2.1),.own 0 59 5 (o.2.2.map Qad)]],[(o.2.2.map Qad).length]⟩:=by
 intro h0_0 h0_1 h0_2 o h;unfold Qfl at h;refine CallOK.ofB mixed tbOk Ql7 Tryz.func51 rfl (by kernel_rfl) (Nat.le_of_ble_eq_true rfl) rfl rfl rfl ?_;refine Qag h (fun o1 ho hk=>?_);refine Exists.intro (JP2 _ _ o1 (.exit 0) (Qji h0_0 h0_1 h0_2) .ret (Qjj h0_0 h0_1 h0_2)) (And.intro (Qnx (τ := Qdy h0_0 h0_1 h0_2 (wr (h0_1+1)) false []) ?_ (TL.loop (Q40 h0_0 h0_1 h0_2 (wr (h0_1+1)) false [] o1 ho))) (Qlx (fun y2 hy=>?_) (fun y3 hy=>?_)))
 ·exact(Le.ownH 1 1 5 1 rfl rfl Qy5).trans (Le.tz 2 2 rfl rfl rfl)
 ·have h:=(by rw[hy] at hk; exact hk);refine vrfl ?_;refine Qaf h (fun hb h=>?_) (fun hb h=>?_)
  ·refine Exists.intro _ (And.intro (Le.refl _ _ _) ?_);exact Qbd (t:=Qf0) (ss:=fun o=>⟨[[.p (sV h0_0),.p (iV o.2.1),.own 0 59 5 (o.2.2.map Qad)]],[(o.2.2.map Qad).length]⟩) h ⟨[0],rfl,.refl _,.refl _,rfl⟩
  ·refine And.intro (by decide +kernel) (And.intro rfl ?_);refine Qahz _ _ h (fun x13 hy=>((Qmk y2.2.1 y2.2.2 x13 hy).ff [1] [1] rfl rfl rfl rfl (Nat.le_of_ble_eq_true rfl))) (fun x13 hy h=>?_);refine Qmy _ _ h (fun x14 hy=>((Qcd 5 x13 0 (wr ((wr (y2.1+1))-h0_1)) h0_0 h0_1 h0_2 x14 hy).fg [0] [0] rfl rfl rfl (Nat.le_of_ble_eq_true rfl))) (fun x14 hy h=>?_);refine Exists.intro _ (And.intro (Le.refl _ _ _) ?_);exact Qbd (t:=Qf0) (ss:=fun o=>⟨[[.p (sV h0_0),.p (iV o.2.1),.own 0 59 5 (o.2.2.map Qad)]],[(o.2.2.map Qad).length]⟩) h ⟨[0],rfl,.refl _,.refl _,rfl⟩
 ·have h:=(by rw[hy] at hk; exact hk);refine Exists.intro _ (And.intro (Le.refl _ _ _) ?_);exact Qbd (t:=Qf0) (ss:=fun o=>⟨[[.p (sV h0_0),.p (iV o.2.1),.own 0 59 5 (o.2.2.map Qad)]],[(o.2.2.map Qad).length]⟩) h ⟨[0],rfl,.refl _,.refl _,rfl⟩
def Qhx (p0:(List UInt8)) (v6:Int):Option (Unit⊕Unit) :=
 if(decide (v6<(p0.length:Int))) then
  idx p0 v6>>=fun x4 =>
  Qj3 (x4.toNat:Int)>>=fun x5 =>
  if(!x5) then
   some (.inr ())
  else
   Qhx p0 (wr (v6+1))
 else
  some (.inl ())
 partial_fixpoint
end Go.Proofs.YtagokkpnfceidaaGreatDoor
end
