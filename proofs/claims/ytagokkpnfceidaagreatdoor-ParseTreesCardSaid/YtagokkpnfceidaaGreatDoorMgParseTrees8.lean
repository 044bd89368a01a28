/- The proof's texts, part 8 of 12: the walks by a logic in which data are by value, the plain laws, and at the end the law, for every input. -/
import Derived.Test.YtagokkpnfceidaaGreatDoorMgParseTrees7

noncomputable section
set_option linter.unusedVariables false
set_option linter.unusedSimpArgs false
set_option maxRecDepth 100000
set_option maxHeartbeats 4000000
namespace Go.Proofs.YtagokkpnfceidaaGreatDoor
open Go.RowKit
theorem Qdd:∀ (p0:Qab) (p1:Bool) (p2:Bool) (p3:Bool) (p4:Bool) (p5:Bool) (o:Bool),Qeh p0 p1 p2 p3 p4 p5=some o→PCall Tryz.prog 99 [.agg [iV p0.Kind,sV p0.Name,sV p0.Text,iV p0.N,.sl false (p0.L.map Qae),.sl false (p0.Then.map Qae),.sl false (p0.Else.map Qae)],bV p1,bV p2,bV p3,bV p4,bV p5] (Qdb o):=by
 intro p0 p1 p2 p3 p4 p5 o h;unfold Qeh at h;refine PCall.ofB mixed tbOk Qaa7 Tryz.func99 rfl (by kernel_rfl) (Nat.le_of_ble_eq_true rfl) ?_;refine Qag h (fun o1 ho hk=>?_);refine Exists.intro (JP1 _ _ o1 .normal (Q5i p0)) (And.intro ?_ (Qa7 ?_))
 ·have h:=ho;refine Qaf h (fun hb h=>?_) (fun hb h=>?_)
  ·refine bT ?_;refine Qaf h (fun hb h=>?_) (fun hb h=>?_)
   ·refine bT ?_;refine Qaf h (fun hb h=>?_) (fun hb h=>?_)
    ·refine bT ?_;refine Qaf h (fun hb h=>?_) (fun hb h=>?_)
     ·refine bT ?_;refine Qaf h (fun hb h=>?_) (fun hb h=>?_)
      ·refine bT ?_;refine Qaf h (fun hb h=>?_) (fun hb h=>?_)
       ·refine JP1.a h ?_;exact Le.tz 1 0 rfl rfl rfl
       ·refine view (Qaw _ _) rfl ?_;refine JP1.a h ?_;exact Le.tz 1 0 rfl rfl rfl
      ·refine view (Qaw _ _) rfl ?_;refine Qaf h (fun hb h=>?_) (fun hb h=>?_)
       ·refine Qaf h (fun hb h=>?_) (fun hb h=>?_)
        ·refine JP1.a h ?_;exact Le.tz 1 0 rfl rfl rfl
        ·refine view (Qaw _ _) rfl ?_;refine JP1.a h ?_;exact Le.tz 1 0 rfl rfl rfl
       ·refine JP1.a h ?_;exact Le.tz 1 0 rfl rfl rfl
     ·refine view (Qaw _ _) rfl ?_;refine Qaf h (fun hb h=>?_) (fun hb h=>?_)
      ·refine Qaf h (fun hb h=>?_) (fun hb h=>?_)
       ·refine bT ?_;refine Qaf h (fun hb h=>?_) (fun hb h=>?_)
        ·refine JP1.a h ?_;exact Le.tz 1 0 rfl rfl rfl
        ·refine view (Qaw _ _) rfl ?_;refine JP1.a h ?_;exact Le.tz 1 0 rfl rfl rfl
       ·refine view (Qaw _ _) rfl ?_;refine Qaf h (fun hb h=>?_) (fun hb h=>?_)
        ·refine Qaf h (fun hb h=>?_) (fun hb h=>?_)
         ·refine JP1.a h ?_;exact Le.tz 1 0 rfl rfl rfl
         ·refine view (Qaw _ _) rfl ?_;refine JP1.a h ?_;exact Le.tz 1 0 rfl rfl rfl
        ·refine JP1.a h ?_;exact Le.tz 1 0 rfl rfl rfl
      ·refine bF ?_;refine JP1.a h ?_;exact Le.tz 1 0 rfl rfl rfl
    ·refine Qaf h (fun hb h=>?_) (fun hb h=>?_)
     ·refine Qaf h (fun hb h=>?_) (fun hb h=>?_)
      ·refine bT ?_;refine Qaf h (fun hb h=>?_) (fun hb h=>?_)
       ·refine bT ?_;refine Qaf h (fun hb h=>?_) (fun hb h=>?_)
        ·refine JP1.a h ?_;exact Le.tz 1 0 rfl rfl rfl
        ·refine view (Qaw _ _) rfl ?_;refine JP1.a h ?_;exact Le.tz 1 0 rfl rfl rfl
       ·refine view (Qaw _ _) rfl ?_;refine Qaf h (fun hb h=>?_) (fun hb h=>?_)
        ·refine Qaf h (fun hb h=>?_) (fun hb h=>?_)
         ·refine JP1.a h ?_;exact Le.tz 1 0 rfl rfl rfl
         ·refine view (Qaw _ _) rfl ?_;refine JP1.a h ?_;exact Le.tz 1 0 rfl rfl rfl
        ·refine JP1.a h ?_;exact Le.tz 1 0 rfl rfl rfl
      ·refine view (Qaw _ _) rfl ?_;refine Qaf h (fun hb h=>?_) (fun hb h=>?_)
       ·refine Qaf h (fun hb h=>?_) (fun hb h=>?_)
        ·refine bT ?_;refine Qaf h (fun hb h=>?_) (fun hb h=>?_)
         ·refine JP1.a h ?_;exact Le.tz 1 0 rfl rfl rfl
         ·refine view (Qaw _ _) rfl ?_;refine JP1.a h ?_;exact Le.tz 1 0 rfl rfl rfl
        ·refine view (Qaw _ _) rfl ?_;refine Qaf h (fun hb h=>?_) (fun hb h=>?_)
         ·refine Qaf h (fun hb h=>?_) (fun hb h=>?_)
          ·refine JP1.a h ?_;exact Le.tz 1 0 rfl rfl rfl
          ·refine view (Qaw _ _) rfl ?_;refine JP1.a h ?_;exact Le.tz 1 0 rfl rfl rfl
         ·refine JP1.a h ?_;exact Le.tz 1 0 rfl rfl rfl
       ·refine bF ?_;refine JP1.a h ?_;exact Le.tz 1 0 rfl rfl rfl
     ·refine bF ?_;refine bF ?_;refine JP1.a h ?_;exact Le.tz 1 0 rfl rfl rfl
   ·refine Qaf h (fun hb h=>?_) (fun hb h=>?_)
    ·refine Qaf h (fun hb h=>?_) (fun hb h=>?_)
     ·refine bT ?_;refine Qaf h (fun hb h=>?_) (fun hb h=>?_)
      ·refine bT ?_;refine Qaf h (fun hb h=>?_) (fun hb h=>?_)
       ·refine bT ?_;refine Qaf h (fun hb h=>?_) (fun hb h=>?_)
        ·refine JP1.a h ?_;exact Le.tz 1 0 rfl rfl rfl
        ·refine view (Qaw _ _) rfl ?_;refine JP1.a h ?_;exact Le.tz 1 0 rfl rfl rfl
       ·refine view (Qaw _ _) rfl ?_;refine Qaf h (fun hb h=>?_) (fun hb h=>?_)
        ·refine Qaf h (fun hb h=>?_) (fun hb h=>?_)
         ·refine JP1.a h ?_;exact Le.tz 1 0 rfl rfl rfl
         ·refine view (Qaw _ _) rfl ?_;refine JP1.a h ?_;exact Le.tz 1 0 rfl rfl rfl
        ·refine JP1.a h ?_;exact Le.tz 1 0 rfl rfl rfl
      ·refine view (Qaw _ _) rfl ?_;refine Qaf h (fun hb h=>?_) (fun hb h=>?_)
       ·refine Qaf h (fun hb h=>?_) (fun hb h=>?_)
        ·refine bT ?_;refine Qaf h (fun hb h=>?_) (fun hb h=>?_)
         ·refine JP1.a h ?_;exact Le.tz 1 0 rfl rfl rfl
         ·refine view (Qaw _ _) rfl ?_;refine JP1.a h ?_;exact Le.tz 1 0 rfl rfl rfl
        ·refine view (Qaw _ _) rfl ?_;refine Qaf h (fun hb h=>?_) (fun hb h=>?_)
         ·refine Qaf h (fun hb h=>?_) (fun hb h=>?_)
          ·refine JP1.a h ?_;exact Le.tz 1 0 rfl rfl rfl
          ·refine view (Qaw _ _) rfl ?_;refine JP1.a h ?_;exact Le.tz 1 0 rfl rfl rfl
         ·refine JP1.a h ?_;exact Le.tz 1 0 rfl rfl rfl
       ·refine bF ?_;refine JP1.a h ?_;exact Le.tz 1 0 rfl rfl rfl
     ·refine Qaf h (fun hb h=>?_) (fun hb h=>?_)
      ·refine Qaf h (fun hb h=>?_) (fun hb h=>?_)
       ·refine bT ?_;refine Qaf h (fun hb h=>?_) (fun hb h=>?_)
        ·refine bT ?_;refine Qaf h (fun hb h=>?_) (fun hb h=>?_)
         ·refine JP1.a h ?_;exact Le.tz 1 0 rfl rfl rfl
         ·refine view (Qaw _ _) rfl ?_;refine JP1.a h ?_;exact Le.tz 1 0 rfl rfl rfl
        ·refine view (Qaw _ _) rfl ?_;refine Qaf h (fun hb h=>?_) (fun hb h=>?_)
         ·refine Qaf h (fun hb h=>?_) (fun hb h=>?_)
          ·refine JP1.a h ?_;exact Le.tz 1 0 rfl rfl rfl
          ·refine view (Qaw _ _) rfl ?_;refine JP1.a h ?_;exact Le.tz 1 0 rfl rfl rfl
         ·refine JP1.a h ?_;exact Le.tz 1 0 rfl rfl rfl
       ·refine view (Qaw _ _) rfl ?_;refine Qaf h (fun hb h=>?_) (fun hb h=>?_)
        ·refine Qaf h (fun hb h=>?_) (fun hb h=>?_)
         ·refine bT ?_;refine Qaf h (fun hb h=>?_) (fun hb h=>?_)
          ·refine JP1.a h ?_;exact Le.tz 1 0 rfl rfl rfl
          ·refine view (Qaw _ _) rfl ?_;refine JP1.a h ?_;exact Le.tz 1 0 rfl rfl rfl
         ·refine view (Qaw _ _) rfl ?_;refine Qaf h (fun hb h=>?_) (fun hb h=>?_)
          ·refine Qaf h (fun hb h=>?_) (fun hb h=>?_)
           ·refine JP1.a h ?_;exact Le.tz 1 0 rfl rfl rfl
           ·refine view (Qaw _ _) rfl ?_;refine JP1.a h ?_;exact Le.tz 1 0 rfl rfl rfl
          ·refine JP1.a h ?_;exact Le.tz 1 0 rfl rfl rfl
        ·refine bF ?_;refine JP1.a h ?_;exact Le.tz 1 0 rfl rfl rfl
      ·refine bF ?_;refine bF ?_;refine JP1.a h ?_;exact Le.tz 1 0 rfl rfl rfl
    ·refine bF ?_;refine bF ?_;refine bF ?_;refine JP1.a h ?_;exact Le.tz 1 0 rfl rfl rfl
  ·refine Qaf h (fun hb h=>?_) (fun hb h=>?_)
   ·refine Qaf h (fun hb h=>?_) (fun hb h=>?_)
    ·refine bT ?_;refine Qaf h (fun hb h=>?_) (fun hb h=>?_)
     ·refine bT ?_;refine Qaf h (fun hb h=>?_) (fun hb h=>?_)
      ·refine bT ?_;refine Qaf h (fun hb h=>?_) (fun hb h=>?_)
       ·refine bT ?_;refine Qaf h (fun hb h=>?_) (fun hb h=>?_)
        ·refine JP1.a h ?_;exact Le.tz 1 0 rfl rfl rfl
        ·refine view (Qaw _ _) rfl ?_;refine JP1.a h ?_;exact Le.tz 1 0 rfl rfl rfl
       ·refine view (Qaw _ _) rfl ?_;refine Qaf h (fun hb h=>?_) (fun hb h=>?_)
        ·refine Qaf h (fun hb h=>?_) (fun hb h=>?_)
         ·refine JP1.a h ?_;exact Le.tz 1 0 rfl rfl rfl
         ·refine view (Qaw _ _) rfl ?_;refine JP1.a h ?_;exact Le.tz 1 0 rfl rfl rfl
        ·refine JP1.a h ?_;exact Le.tz 1 0 rfl rfl rfl
      ·refine view (Qaw _ _) rfl ?_;refine Qaf h (fun hb h=>?_) (fun hb h=>?_)
       ·refine Qaf h (fun hb h=>?_) (fun hb h=>?_)
        ·refine bT ?_;refine Qaf h (fun hb h=>?_) (fun hb h=>?_)
         ·refine JP1.a h ?_;exact Le.tz 1 0 rfl rfl rfl
         ·refine view (Qaw _ _) rfl ?_;refine JP1.a h ?_;exact Le.tz 1 0 rfl rfl rfl
        ·refine view (Qaw _ _) rfl ?_;refine Qaf h (fun hb h=>?_) (fun hb h=>?_)
         ·refine Qaf h (fun hb h=>?_) (fun hb h=>?_)
          ·refine JP1.a h ?_;exact Le.tz 1 0 rfl rfl rfl
          ·refine view (Qaw _ _) rfl ?_;refine JP1.a h ?_;exact Le.tz 1 0 rfl rfl rfl
         ·refine JP1.a h ?_;exact Le.tz 1 0 rfl rfl rfl
       ·refine bF ?_;refine JP1.a h ?_;exact Le.tz 1 0 rfl rfl rfl
     ·refine Qaf h (fun hb h=>?_) (fun hb h=>?_)
      ·refine Qaf h (fun hb h=>?_) (fun hb h=>?_)
       ·refine bT ?_;refine Qaf h (fun hb h=>?_) (fun hb h=>?_)
        ·refine bT ?_;refine Qaf h (fun hb h=>?_) (fun hb h=>?_)
         ·refine JP1.a h ?_;exact Le.tz 1 0 rfl rfl rfl
         ·refine view (Qaw _ _) rfl ?_;refine JP1.a h ?_;exact Le.tz 1 0 rfl rfl rfl
        ·refine view (Qaw _ _) rfl ?_;refine Qaf h (fun hb h=>?_) (fun hb h=>?_)
         ·refine Qaf h (fun hb h=>?_) (fun hb h=>?_)
          ·refine JP1.a h ?_;exact Le.tz 1 0 rfl rfl rfl
          ·refine view (Qaw _ _) rfl ?_;refine JP1.a h ?_;exact Le.tz 1 0 rfl rfl rfl
         ·refine JP1.a h ?_;exact Le.tz 1 0 rfl rfl rfl
       ·refine view (Qaw _ _) rfl ?_;refine Qaf h (fun hb h=>?_) (fun hb h=>?_)
        ·refine Qaf h (fun hb h=>?_) (fun hb h=>?_)
         ·refine bT ?_;refine Qaf h (fun hb h=>?_) (fun hb h=>?_)
          ·refine JP1.a h ?_;exact Le.tz 1 0 rfl rfl rfl
          ·refine view (Qaw _ _) rfl ?_;refine JP1.a h ?_;exact Le.tz 1 0 rfl rfl rfl
         ·refine view (Qaw _ _) rfl ?_;refine Qaf h (fun hb h=>?_) (fun hb h=>?_)
          ·refine Qaf h (fun hb h=>?_) (fun hb h=>?_)
           ·refine JP1.a h ?_;exact Le.tz 1 0 rfl rfl rfl
           ·refine view (Qaw _ _) rfl ?_;refine JP1.a h ?_;exact Le.tz 1 0 rfl rfl rfl
          ·refine JP1.a h ?_;exact Le.tz 1 0 rfl rfl rfl
        ·refine bF ?_;refine JP1.a h ?_;exact Le.tz 1 0 rfl rfl rfl
      ·refine bF ?_;refine bF ?_;refine JP1.a h ?_;exact Le.tz 1 0 rfl rfl rfl
    ·refine Qaf h (fun hb h=>?_) (fun hb h=>?_)
     ·refine Qaf h (fun hb h=>?_) (fun hb h=>?_)
      ·refine bT ?_;refine Qaf h (fun hb h=>?_) (fun hb h=>?_)
       ·refine bT ?_;refine Qaf h (fun hb h=>?_) (fun hb h=>?_)
        ·refine bT ?_;refine Qaf h (fun hb h=>?_) (fun hb h=>?_)
         ·refine JP1.a h ?_;exact Le.tz 1 0 rfl rfl rfl
         ·refine view (Qaw _ _) rfl ?_;refine JP1.a h ?_;exact Le.tz 1 0 rfl rfl rfl
        ·refine view (Qaw _ _) rfl ?_;refine Qaf h (fun hb h=>?_) (fun hb h=>?_)
         ·refine Qaf h (fun hb h=>?_) (fun hb h=>?_)
          ·refine JP1.a h ?_;exact Le.tz 1 0 rfl rfl rfl
          ·refine view (Qaw _ _) rfl ?_;refine JP1.a h ?_;exact Le.tz 1 0 rfl rfl rfl
         ·refine JP1.a h ?_;exact Le.tz 1 0 rfl rfl rfl
       ·refine view (Qaw _ _) rfl ?_;refine Qaf h (fun hb h=>?_) (fun hb h=>?_)
        ·refine Qaf h (fun hb h=>?_) (fun hb h=>?_)
         ·refine bT ?_;refine Qaf h (fun hb h=>?_) (fun hb h=>?_)
          ·refine JP1.a h ?_;exact Le.tz 1 0 rfl rfl rfl
          ·refine view (Qaw _ _) rfl ?_;refine JP1.a h ?_;exact Le.tz 1 0 rfl rfl rfl
         ·refine view (Qaw _ _) rfl ?_;refine Qaf h (fun hb h=>?_) (fun hb h=>?_)
          ·refine Qaf h (fun hb h=>?_) (fun hb h=>?_)
           ·refine JP1.a h ?_;exact Le.tz 1 0 rfl rfl rfl
           ·refine view (Qaw _ _) rfl ?_;refine JP1.a h ?_;exact Le.tz 1 0 rfl rfl rfl
          ·refine JP1.a h ?_;exact Le.tz 1 0 rfl rfl rfl
        ·refine bF ?_;refine JP1.a h ?_;exact Le.tz 1 0 rfl rfl rfl
      ·refine Qaf h (fun hb h=>?_) (fun hb h=>?_)
       ·refine Qaf h (fun hb h=>?_) (fun hb h=>?_)
        ·refine bT ?_;refine Qaf h (fun hb h=>?_) (fun hb h=>?_)
         ·refine bT ?_;refine Qaf h (fun hb h=>?_) (fun hb h=>?_)
          ·refine JP1.a h ?_;exact Le.tz 1 0 rfl rfl rfl
          ·refine view (Qaw _ _) rfl ?_;refine JP1.a h ?_;exact Le.tz 1 0 rfl rfl rfl
         ·refine view (Qaw _ _) rfl ?_;refine Qaf h (fun hb h=>?_) (fun hb h=>?_)
          ·refine Qaf h (fun hb h=>?_) (fun hb h=>?_)
           ·refine JP1.a h ?_;exact Le.tz 1 0 rfl rfl rfl
           ·refine view (Qaw _ _) rfl ?_;refine JP1.a h ?_;exact Le.tz 1 0 rfl rfl rfl
          ·refine JP1.a h ?_;exact Le.tz 1 0 rfl rfl rfl
        ·refine view (Qaw _ _) rfl ?_;refine Qaf h (fun hb h=>?_) (fun hb h=>?_)
         ·refine Qaf h (fun hb h=>?_) (fun hb h=>?_)
          ·refine bT ?_;refine Qaf h (fun hb h=>?_) (fun hb h=>?_)
           ·refine JP1.a h ?_;exact Le.tz 1 0 rfl rfl rfl
           ·refine view (Qaw _ _) rfl ?_;refine JP1.a h ?_;exact Le.tz 1 0 rfl rfl rfl
          ·refine view (Qaw _ _) rfl ?_;refine Qaf h (fun hb h=>?_) (fun hb h=>?_)
           ·refine Qaf h (fun hb h=>?_) (fun hb h=>?_)
            ·refine JP1.a h ?_;exact Le.tz 1 0 rfl rfl rfl
            ·refine view (Qaw _ _) rfl ?_;refine JP1.a h ?_;exact Le.tz 1 0 rfl rfl rfl
           ·refine JP1.a h ?_;exact Le.tz 1 0 rfl rfl rfl
         ·refine bF ?_;refine JP1.a h ?_;exact Le.tz 1 0 rfl rfl rfl
       ·refine bF ?_;refine bF ?_;refine JP1.a h ?_;exact Le.tz 1 0 rfl rfl rfl
     ·refine bF ?_;refine bF ?_;refine bF ?_;refine JP1.a h ?_;exact Le.tz 1 0 rfl rfl rfl
   ·refine bF ?_;refine bF ?_;refine bF ?_;refine bF ?_;refine JP1.a h ?_;exact Le.tz 1 0 rfl rfl rfl
 ·have h:=hk;refine Qao (t:=Qdb) h ?_;exact .refl _
mutual
def Qtf (p0:Qab):Option (Bool) :=
 if(p0.Kind==1) then
  Qjm p0.Text>>=fun x1 =>
  ( if x1.2 then
    Qeh p0 false true false false false>>=fun x3 =>
    some x3
   else
    some false:Option (Bool))>>=fun o2 =>
  some o2
 else
  if(p0.Kind==2) then
   Qeh p0 false false true false false>>=fun x4 =>
   some x4
  else
   if(p0.Kind==3) then
    ( if(p0.N==0) then
      Qeh p0 false false true false false>>=fun x6 =>
      some x6
     else
      if(p0.N==1) then
       Qeh p0 false false true false false>>=fun x7 =>
       some x7
      else
       some false:Option (Bool))>>=fun o5 =>
    some o5
   else
    if(p0.Kind==4) then
     ( Qme p0.Name>>=fun x9 =>
      if x9 then
       Qeh p0 true false false false false>>=fun x10 =>
       some x10
      else
       some false:Option (Bool))>>=fun o8 =>
     some o8
    else
     if(p0.Kind==5) then
      ( Qkw p0.Name>>=fun x12 =>
       if x12 then
        if((p0.L.length:Int)==1) then
         Qnf p0.L>>=fun x13 =>
         if x13 then
          Qeh p0 true false false true false>>=fun x14 =>
          some x14
         else
          some false
        else
         some false
       else
        some false:Option (Bool))>>=fun o11 =>
      some o11
     else
      if(p0.Kind==6) then
       ( Qme p0.Name>>=fun x16 =>
        if x16 then
         if(decide ((p0.L.length:Int)≤3)) then
          Qnf p0.L>>=fun x17 =>
          if x17 then
           Qeh p0 true false false true false>>=fun x18 =>
           some x18
          else
           some false
         else
          some false
        else
         some false:Option (Bool))>>=fun o15 =>
       some o15
      else
       if(p0.Kind==7) then
        ( Qkw p0.Name>>=fun x20 =>
         if x20 then
          Qeh p0 true false false false false>>=fun x21 =>
          some x21
         else
          some false:Option (Bool))>>=fun o19 =>
        some o19
       else
        some false
 partial_fixpoint
def Qnf (p0:(List Qab)):Option (Bool) :=
 (Qix p0 0)>>=fun o1 =>
 match o1 with
 | .inl y2 =>
  some true
 | .inr y3 =>
  some false
 partial_fixpoint
def Qix (p0:(List Qab)) (v3:Int):Option (Unit⊕Unit) :=
 if(decide (v3<(p0.length:Int))) then
  idx p0 v3>>=fun x4 =>
  Qtf x4>>=fun x5 =>
  if(!x5) then
   some (.inr ())
  else
   Qix p0 (wr (v3+1))
 else
  some (.inl ())
 partial_fixpoint
end
theorem Q83:(∀ (p0:Qab) (o:Bool),Qtf p0=some o→PCall Tryz.prog 115 [.agg [iV p0.Kind,sV p0.Name,sV p0.Text,iV p0.N,.sl false (p0.L.map Qae),.sl false (p0.Then.map Qae),.sl false (p0.Else.map Qae)]] (Qf5 o))∧(∀ (p0:(List Qab)) (o:Bool),Qnf p0=some o→PCall Tryz.prog 97 [.sl false (p0.map Qae)] (Qh6 o))∧(∀ (p0:(List Qab)) (v3:Int) (o1:Unit⊕Unit),Qix p0 v3=some o1→TL (0,0) Tryz.prog 16 Q2v (JP2 (0,0) 16 o1 (.exit 0) (Qrw p0) .ret (Qrx p0)) (Qm0 p0 v3)):=by
 refine Qtf.mutual_partial_correctness _ _ _ ?_ ?_ ?_
 ·intro Qnf' iQnf p0 o h;refine PCall.ofB mixed tbOk Qaa8 Tryz.func115 rfl (by kernel_rfl) (Nat.le_of_ble_eq_true rfl) ?_;refine Qaf h (fun hb h=>?_) (fun hb h=>?_)
  ·refine Qak [sV p0.Text] Qj9 h (fun x1 hy=>(Qyd p0.Text x1 hy)) (fun x1 hy h=>?_);refine Qag h (fun o2 ho hk=>?_);refine Exists.intro (JP1 _ _ o2 .normal (Q5j p0)) (And.intro ?_ (Qa7 ?_))
   ·have h:=ho;refine Qaf h (fun hb h=>?_) (fun hb h=>?_)
    ·refine Qak [.agg [iV p0.Kind,sV p0.Name,sV p0.Text,iV p0.N,.sl false (p0.L.map Qae),.sl false (p0.Then.map Qae),.sl false (p0.Else.map Qae)],bV false,bV true,bV false,bV false,bV false] Qdb h (fun x3 hy=>(Qdd p0 false true false false false x3 hy)) (fun x3 hy h=>?_);refine JP1.a h ?_;exact Le.tz 1 0 rfl rfl rfl
    ·refine JP1.a h ?_;exact Le.tz 1 0 rfl rfl rfl
   ·have h:=hk;refine Qao (t:=Qf5) h ?_;exact .refl _
  ·refine Qaf h (fun hb h=>?_) (fun hb h=>?_)
   ·refine Qak [.agg [iV p0.Kind,sV p0.Name,sV p0.Text,iV p0.N,.sl false (p0.L.map Qae),.sl false (p0.Then.map Qae),.sl false (p0.Else.map Qae)],bV false,bV false,bV true,bV false,bV false] Qdb h (fun x4 hy=>(Qdd p0 false false true false false x4 hy)) (fun x4 hy h=>?_);refine Qao (t:=Qf5) h ?_;exact .refl _
   ·refine Qaf h (fun hb h=>?_) (fun hb h=>?_)
    ·refine Qag h (fun o5 ho hk=>?_);refine Exists.intro (JP1 _ _ o5 .normal (Q5k p0)) (And.intro ?_ (Qa7 ?_))
     ·have h:=ho;refine Qaf h (fun hb h=>?_) (fun hb h=>?_)
      ·refine bT ?_;refine Qak [.agg [iV p0.Kind,sV p0.Name,sV p0.Text,iV p0.N,.sl false (p0.L.map Qae),.sl false (p0.Then.map Qae),.sl false (p0.Else.map Qae)],bV false,bV false,bV true,bV false,bV false] Qdb h (fun x6 hy=>(Qdd p0 false false true false false x6 hy)) (fun x6 hy h=>?_);refine JP1.a h ?_;exact Le.tz 1 0 rfl rfl rfl
      ·refine Qaf h (fun hb h=>?_) (fun hb h=>?_)
       ·refine Qak [.agg [iV p0.Kind,sV p0.Name,sV p0.Text,iV p0.N,.sl false (p0.L.map Qae),.sl false (p0.Then.map Qae),.sl false (p0.Else.map Qae)],bV false,bV false,bV true,bV false,bV false] Qdb h (fun x7 hy=>(Qdd p0 false false true false false x7 hy)) (fun x7 hy h=>?_);refine JP1.a h ?_;exact Le.tz 1 0 rfl rfl rfl
       ·refine JP1.a h ?_;exact Le.tz 1 0 rfl rfl rfl
     ·have h:=hk;refine Qao (t:=Qf5) h ?_;exact .refl _
    ·refine Qaf h (fun hb h=>?_) (fun hb h=>?_)
     ·refine Qag h (fun o8 ho hk=>?_);refine Exists.intro (JP1 _ _ o8 .normal (Q5l p0)) (And.intro ?_ (Qa7 ?_))
      ·have h:=ho;refine Qak [sV p0.Name] Qio h (fun x9 hy=>(Qne p0.Name x9 hy)) (fun x9 hy h=>?_);refine Qaf h (fun hb h=>?_) (fun hb h=>?_)
       ·refine Qak [.agg [iV p0.Kind,sV p0.Name,sV p0.Text,iV p0.N,.sl false (p0.L.map Qae),.sl false (p0.Then.map Qae),.sl false (p0.Else.map Qae)],bV true,bV false,bV false,bV false,bV false] Qdb h (fun x10 hy=>(Qdd p0 true false false false false x10 hy)) (fun x10 hy h=>?_);refine JP1.a h ?_;exact Le.tz 1 0 rfl rfl rfl
       ·refine JP1.a h ?_;exact Le.tz 1 0 rfl rfl rfl
      ·have h:=hk;refine Qao (t:=Qf5) h ?_;exact .refl _
     ·refine Qaf h (fun hb h=>?_) (fun hb h=>?_)
      ·refine Qag h (fun o11 ho hk=>?_);refine Exists.intro (JP1 _ _ o11 .normal (Q5m p0)) (And.intro ?_ (Qa7 ?_))
       ·have h:=ho;refine Qak [sV p0.Name] Qg9 h (fun x12 hy=>(Qnc p0.Name x12 hy)) (fun x12 hy h=>?_);refine Qaf h (fun hb h=>?_) (fun hb h=>?_)
        ·refine view (Qaw _ _) rfl ?_;refine Qaf h (fun hb h=>?_) (fun hb h=>?_)
         ·refine Qak [.sl false (p0.L.map Qae)] Qh6 h (fun x13 hy=>(iQnf p0.L x13 hy)) (fun x13 hy h=>?_);refine Qaf h (fun hb h=>?_) (fun hb h=>?_)
          ·refine Qak [.agg [iV p0.Kind,sV p0.Name,sV p0.Text,iV p0.N,.sl false (p0.L.map Qae),.sl false (p0.Then.map Qae),.sl false (p0.Else.map Qae)],bV true,bV false,bV false,bV true,bV false] Qdb h (fun x14 hy=>(Qdd p0 true false false true false x14 hy)) (fun x14 hy h=>?_);refine JP1.a h ?_;exact Le.tz 1 0 rfl rfl rfl
          ·refine JP1.a h ?_;exact Le.tz 1 0 rfl rfl rfl
         ·refine bF ?_;refine JP1.a h ?_;exact Le.tz 1 0 rfl rfl rfl
        ·refine bF ?_;refine bF ?_;refine JP1.a h ?_;exact Le.tz 1 0 rfl rfl rfl
       ·have h:=hk;refine Qao (t:=Qf5) h ?_;exact .refl _
      ·refine Qaf h (fun hb h=>?_) (fun hb h=>?_)
       ·refine Qag h (fun o15 ho hk=>?_);refine Exists.intro (JP1 _ _ o15 .normal (Q5n p0)) (And.intro ?_ (Qa7 ?_))
        ·have h:=ho;refine Qak [sV p0.Name] Qio h (fun x16 hy=>(Qne p0.Name x16 hy)) (fun x16 hy h=>?_);refine Qaf h (fun hb h=>?_) (fun hb h=>?_)
         ·refine view (Qaw _ _) rfl ?_;refine Qaf h (fun hb h=>?_) (fun hb h=>?_)
          ·refine Qak [.sl false (p0.L.map Qae)] Qh6 h (fun x17 hy=>(iQnf p0.L x17 hy)) (fun x17 hy h=>?_);refine Qaf h (fun hb h=>?_) (fun hb h=>?_)
           ·refine Qak [.agg [iV p0.Kind,sV p0.Name,sV p0.Text,iV p0.N,.sl false (p0.L.map Qae),.sl false (p0.Then.map Qae),.sl false (p0.Else.map Qae)],bV true,bV false,bV false,bV true,bV false] Qdb h (fun x18 hy=>(Qdd p0 true false false true false x18 hy)) (fun x18 hy h=>?_);refine JP1.a h ?_;exact Le.tz 1 0 rfl rfl rfl
           ·refine JP1.a h ?_;exact Le.tz 1 0 rfl rfl rfl
          ·refine bF ?_;refine JP1.a h ?_;exact Le.tz 1 0 rfl rfl rfl
         ·refine bF ?_;refine bF ?_;refine JP1.a h ?_;exact Le.tz 1 0 rfl rfl rfl
        ·have h:=hk;refine Qao (t:=Qf5) h ?_;exact .refl _
       ·refine Qaf h (fun hb h=>?_) (fun hb h=>?_)
        ·refine Qag h (fun o19 ho hk=>?_);refine Exists.intro (JP1 _ _ o19 .normal (Q5o p0)) (And.intro ?_ (Qa7 ?_))
         ·have h:=ho;refine Qak [sV p0.Name] Qg9 h (fun x20 hy=>(Qnc p0.Name x20 hy)) (fun x20 hy h=>?_);refine Qaf h (fun hb h=>?_) (fun hb h=>?_)
          ·refine Qak [.agg [iV p0.Kind,sV p0.Name,sV p0.Text,iV p0.N,.sl false (p0.L.map Qae),.sl false (p0.Then.map Qae),.sl false (p0.Else.map Qae)],bV true,bV false,bV false,bV false,bV false] Qdb h (fun x21 hy=>(Qdd p0 true false false false false x21 hy)) (fun x21 hy h=>?_);refine JP1.a h ?_;exact Le.tz 1 0 rfl rfl rfl
          ·refine JP1.a h ?_;exact Le.tz 1 0 rfl rfl rfl
         ·have h:=hk;refine Qao (t:=Qf5) h ?_;exact .refl _
        ·refine Qao (t:=Qf5) h ?_;exact .refl _
 ·intro Qix' iQix p0 o h;refine PCall.ofB mixed tbOk Qyc Tryz.func97 rfl (by kernel_rfl) (Nat.le_of_ble_eq_true rfl) ?_;refine Qag h (fun o1 ho hk=>?_);refine Exists.intro (JP2 _ _ o1 (.exit 0) (Qrw p0) .ret (Qrx p0)) (And.intro (Qo0 (τ := Qm0 p0 0) ?_ (TL.loop (iQix p0 0 o1 ho))) (Qmu (fun y2 hy=>?_) (fun y3 hy=>?_)))
  ·exact Le.tz 0 0 rfl rfl rfl
  ·have h:=(by rw[hy] at hk; exact hk);refine Qao (t:=Qh6) h ?_;exact .refl _
  ·have h:=(by rw[hy] at hk; exact hk);refine Qao (t:=Qh6) h ?_;exact .refl _
 ·intro Qtf' Qix' iQtf iQix p0 v3 o1 h;refine TL.round (Qan mixed tbOk (lv:=Qyc) _ _ _ ?_);refine view (Qaw _ _) rfl ?_;refine Qaf h (fun hb h=>?_) (fun hb h=>?_)
  ·refine Qcy (l:=p0) (c:=Qae) (c' := Qa2) h Qai (fun _=>rfl) (by decide) (fun x4 hi h=>?_);refine Qak [.agg [iV x4.Kind,sV x4.Name,sV x4.Text,iV x4.N,.sl false (x4.L.map Qae),.sl false (x4.Then.map Qae),.sl false (x4.Else.map Qae)]] Qf5 h (fun x5 hy=>(iQtf x4 x5 hy)) (fun x5 hy h=>?_);refine Qaf h (fun hb h=>?_) (fun hb h=>?_)
   ·exact JP2.b h (Le.tz 0 0 rfl rfl rfl)
   ·refine TL.le (τ := Qm0 p0 (wr (v3+1))) ?_ ((iQix p0 (wr (v3+1)) _ h));exact Le.tz 0 0 rfl rfl rfl
  ·exact JP2.a h (Le.tz 0 0 rfl rfl rfl)
theorem Q84:∀ (p0:(List Qab)) (o:Bool),Qnf p0=some o→PCall Tryz.prog 97 [.sl false (p0.map Qae)] (Qh6 o):=fun p0=>Q83.2.1 p0
def Qei (p0:(List UInt8)) (p1:(List UInt8)) (v5:Int):Option (Unit⊕Unit) :=
 if(decide (v5<(p0.length:Int))) then
  Qcv p0 p1 v5>>=fun x4 =>
  if x4 then
   some (.inr ())
  else
   Qei p0 p1 (wr (v5+1))
 else
  some (.inl ())
 partial_fixpoint
theorem Qxg:∀ (p0:(List UInt8)) (p1:(List UInt8)),(∀ (v5:Int) (o1:Unit⊕Unit),Qei p0 p1 v5=some o1→TL (0,0) Tryz.prog 16 Qry (JP2 (0,0) 16 o1 (.exit 0) (Qlp p0 p1) .ret (Qlq p0 p1)) (Qhw p0 p1 v5)):=by
 intro p0 p1;refine Qei.partial_correctness p0 p1 _ ?_;intro Qei' iQei v5 o1 h;refine TL.round (Qan mixed tbOk (lv:=Qv1) _ _ _ ?_);refine vrfl ?_;refine Qaf h (fun hb h=>?_) (fun hb h=>?_)
 ·refine Qak [sV p0,sV p1,iV v5] Qim h (fun x4 hy=>(Qmd p0 p1 v5 x4 hy)) (fun x4 hy h=>?_);refine Qaf h (fun hb h=>?_) (fun hb h=>?_)
  ·exact JP2.b h (Le.tz 0 0 rfl rfl rfl)
  ·refine TL.le (τ := Qhw p0 p1 (wr (v5+1))) ?_ ((iQei (wr (v5+1)) _ h));exact Le.tz 0 0 rfl rfl rfl
 ·exact JP2.a h (Le.tz 0 0 rfl rfl rfl)
def Qyx:=fun p0 p1 v5=>(Qxg p0 p1) v5
def Qpe (p0:(List UInt8)) (p1:(List UInt8)):Option (Bool) :=
 (Qei p0 p1 0)>>=fun o1 =>
 match o1 with
 | .inl y2 =>
  some false
 | .inr y3 =>
  some true
theorem Q6e:∀ (p0:(List UInt8)) (p1:(List UInt8)) (o:Bool),Qpe p0 p1=some o→PCall Tryz.prog 98 [sV p0,sV p1] (Qnz o):=by
 intro p0 p1 o h;unfold Qpe at h;refine PCall.ofB mixed tbOk Qv1 Tryz.func98 rfl (by kernel_rfl) (Nat.le_of_ble_eq_true rfl) ?_;refine Qag h (fun o1 ho hk=>?_);refine Exists.intro (JP2 _ _ o1 (.exit 0) (Qlp p0 p1) .ret (Qlq p0 p1)) (And.intro (Qo0 (τ := Qhw p0 p1 0) ?_ (TL.loop (Qyx p0 p1 0 o1 ho))) (Qmu (fun y2 hy=>?_) (fun y3 hy=>?_)))
 ·exact Le.tz 0 0 rfl rfl rfl
 ·have h:=(by rw[hy] at hk; exact hk);refine Qao (t:=Qnz) h ?_;exact .refl _
 ·have h:=(by rw[hy] at hk; exact hk);refine Qao (t:=Qnz) h ?_;exact .refl _
mutual
def Qjn (p0:(List Qab)) (p1:Bool):Option (Bool) :=
 (Qgz p0 p1 0)>>=fun o1 =>
 match o1 with
 | .inl y2 =>
  some true
 | .inr y3 =>
  some false
 partial_fixpoint
def Qgz (p0:(List Qab)) (p1:Bool) (v5:Int):Option (Unit⊕Unit) :=
 if(decide (v5<(p0.length:Int))) then
  idx p0 v5>>=fun x4 =>
  Qwc x4>>=fun x5 =>
  if(!x5) then
   some (.inr ())
  else
   idx p0 v5>>=fun x6 =>
   if(x6.Kind != 8) then
    Qgz p0 p1 (wr (v5+1))
   else
    idx p0 v5>>=fun x7 =>
    ( if(!(v5==(wr ((p0.length:Int)-1)))) then
      idx p0 (wr (v5+1))>>=fun x9 =>
      if(x9.Kind==8) then
       some true
      else
       if(!(v5==(wr ((p0.length:Int)-1)))) then
        idx x7.Text (wr ((x7.Text.length:Int)-1))>>=fun x10 =>
        some ((x10.toNat:Int)==123)
       else
        if p1 then
         idx x7.Text (wr ((x7.Text.length:Int)-1))>>=fun x11 =>
         some ((x11.toNat:Int)==123)
        else
         some false
     else
      if(!(v5==(wr ((p0.length:Int)-1)))) then
       idx x7.Text (wr ((x7.Text.length:Int)-1))>>=fun x12 =>
       some ((x12.toNat:Int)==123)
      else
       if p1 then
        idx x7.Text (wr ((x7.Text.length:Int)-1))>>=fun x13 =>
        some ((x13.toNat:Int)==123)
       else
        some false:Option (Bool))>>=fun o8 =>
    if o8 then
     some (.inr ())
    else
     Qgz p0 p1 (wr (v5+1))
 else
  some (.inl ())
 partial_fixpoint
def Qwc (p0:Qab):Option (Bool) :=
 ( if((p0.L.length:Int)==1) then
   Qnf p0.L>>=fun x2 =>
   some x2
  else
   some false:Option (Bool))>>=fun o1 =>
 if(p0.Kind==8) then
  ( if(!(p0.Text==[])) then
    Qpe p0.Text [123,123]>>=fun x4 =>
    if(!x4) then
     Qeh p0 false true false false false>>=fun x5 =>
     some x5
    else
     some false
   else
    some false:Option (Bool))>>=fun o3 =>
  some o3
 else
  if(p0.Kind==9) then
   ( if o1 then
     Qeh p0 false false false true false>>=fun x7 =>
     some x7
    else
     some false:Option (Bool))>>=fun o6 =>
   some o6
  else
   if(p0.Kind==10) then
    ( if o1 then
      Qjn p0.Then true>>=fun x9 =>
      if x9 then
       Qjn p0.Else true>>=fun x10 =>
       if x10 then
        Qeh p0 false false false true true>>=fun x11 =>
        some x11
       else
        some false
      else
       some false
     else
      some false:Option (Bool))>>=fun o8 =>
    some o8
   else
    ( if(p0.Kind==11) then
      some (p0.Kind==11)
     else
      some (p0.Kind==12):Option (Bool))>>=fun o12 =>
    if o12 then
     ( Qme p0.Name>>=fun x14 =>
      if x14 then
       if o1 then
        Qjn p0.Then true>>=fun x15 =>
        if x15 then
         Qeh p0 true false false true true>>=fun x16 =>
         some x16
        else
         some false
       else
        some false
      else
       some false:Option (Bool))>>=fun o13 =>
     some o13
    else
     if(p0.Kind==13) then
      ( Qme p0.Name>>=fun x18 =>
       if x18 then
        if o1 then
         Qeh p0 true false false true false>>=fun x19 =>
         some x19
        else
         some false
       else
        some false:Option (Bool))>>=fun o17 =>
      some o17
     else
      some false
 partial_fixpoint
end
theorem Q6f:(∀ (p0:(List Qab)) (p1:Bool) (o:Bool),Qjn p0 p1=some o→PCall Tryz.prog 46 [.sl false (p0.map Qae),bV p1] (Qgr o))∧(∀ (p0:(List Qab)) (p1:Bool) (v5:Int) (o1:Unit⊕Unit),Qgz p0 p1 v5=some o1→TL (0,0) Tryz.prog 62 Q2u (JP2 (0,0) 62 o1 (.exit 0) (Qru p0 p1) .ret (Qrv p0 p1)) (Qja p0 p1 v5))∧(∀ (p0:Qab) (o:Bool),Qwc p0=some o→PCall Tryz.prog 71 [.agg [iV p0.Kind,sV p0.Name,sV p0.Text,iV p0.N,.sl false (p0.L.map Qae),.sl false (p0.Then.map Qae),.sl false (p0.Else.map Qae)]] (Qip o)):=by
 refine Qjn.mutual_partial_correctness _ _ _ ?_ ?_ ?_
 ·intro Qgz' iQgz p0 p1 o h;refine PCall.ofB mixed tbOk Qyb Tryz.func46 rfl (by kernel_rfl) (Nat.le_of_ble_eq_true rfl) ?_;refine Qag h (fun o1 ho hk=>?_);refine Exists.intro (JP2 _ _ o1 (.exit 0) (Qru p0 p1) .ret (Qrv p0 p1)) (And.intro (Qo0 (τ := Qja p0 p1 0) ?_ (TL.loop (iQgz p0 p1 0 o1 ho))) (Qmu (fun y2 hy=>?_) (fun y3 hy=>?_)))
  ·exact Le.tz 0 0 rfl rfl rfl
  ·have h:=(by rw[hy] at hk; exact hk);refine Qao (t:=Qgr) h ?_;exact .refl _
  ·have h:=(by rw[hy] at hk; exact hk);refine Qao (t:=Qgr) h ?_;exact .refl _
 ·intro Qgz' Qwc' iQgz iQwc p0 p1 v5 o1 h;refine TL.round (Qan mixed tbOk (lv:=Qyb) _ _ _ ?_);refine view (Qaw _ _) rfl ?_;refine Qaf h (fun hb h=>?_) (fun hb h=>?_)
  ·refine Qcy (l:=p0) (c:=Qae) (c' := Qa2) h Qai (fun _=>rfl) (by decide) (fun x4 hi h=>?_);refine Qak [.agg [iV x4.Kind,sV x4.Name,sV x4.Text,iV x4.N,.sl false (x4.L.map Qae),.sl false (x4.Then.map Qae),.sl false (x4.Else.map Qae)]] Qip h (fun x5 hy=>(iQwc x4 x5 hy)) (fun x5 hy h=>?_);refine Qaf h (fun hb h=>?_) (fun hb h=>?_)
   ·exact JP2.b h (Le.tz 0 0 rfl rfl rfl)
   ·refine Qcy (l:=p0) (c:=Qae) (c' := Qa2) h Qai (fun _=>rfl) (by decide) (fun x6 hi h=>?_);refine Qaf h (fun hb h=>?_) (fun hb h=>?_)
    ·refine TL.le (τ := Qja p0 p1 (wr (v5+1))) ?_ ((iQgz p0 p1 (wr (v5+1)) _ h));exact Le.tz 0 0 rfl rfl rfl
    ·refine Qcy (l:=p0) (c:=Qae) (c' := Qa2) h Qai (fun _=>rfl) (by decide) (fun x7 hi h=>?_);refine view (Qaw _ _) rfl ?_;refine Qag h (fun o8 ho hk=>?_);refine Exists.intro (JP1 _ _ o8 .normal (Q2t p0 p1 v5)) (And.intro ?_ (Qa7 ?_))
     ·have h:=ho;refine Qaf h (fun hb h=>?_) (fun hb h=>?_)
      ·refine Qcy (l:=p0) (c:=Qae) (c' := Qa2) h Qai (fun _=>rfl) (by decide) (fun x9 hi h=>?_);refine Qaf h (fun hb h=>?_) (fun hb h=>?_)
       ·refine JP1.a h ?_;exact Le.tz 0 0 rfl rfl rfl
       ·refine Qaf h (fun hb h=>?_) (fun hb h=>?_)
        ·refine bT ?_;refine vrfl ?_;refine Qcr h (fun x10 hi h=>?_);refine JP1.a h ?_;exact Le.tz 0 0 rfl rfl rfl
        ·refine Qaf h (fun hb h=>?_) (fun hb h=>?_)
         ·refine vrfl ?_;refine Qcr h (fun x11 hi h=>?_);refine JP1.a h ?_;exact Le.tz 0 0 rfl rfl rfl
         ·refine JP1.a h ?_;exact Le.tz 0 0 rfl rfl rfl
      ·refine bF ?_;refine Qaf h (fun hb h=>?_) (fun hb h=>?_)
       ·refine bT ?_;refine vrfl ?_;refine Qcr h (fun x12 hi h=>?_);refine JP1.a h ?_;exact Le.tz 0 0 rfl rfl rfl
       ·refine Qaf h (fun hb h=>?_) (fun hb h=>?_)
        ·refine vrfl ?_;refine Qcr h (fun x13 hi h=>?_);refine JP1.a h ?_;exact Le.tz 0 0 rfl rfl rfl
        ·refine JP1.a h ?_;exact Le.tz 0 0 rfl rfl rfl
     ·have h:=hk;refine Qaf h (fun hb h=>?_) (fun hb h=>?_)
      ·exact JP2.b h (Le.tz 0 0 rfl rfl rfl)
      ·refine TL.le (τ := Qja p0 p1 (wr (v5+1))) ?_ ((iQgz p0 p1 (wr (v5+1)) _ h));exact Le.tz 0 0 rfl rfl rfl
  ·exact JP2.a h (Le.tz 0 0 rfl rfl rfl)
 ·intro Qjn' iQjn p0 o h;refine PCall.ofB mixed tbOk Qaa9 Tryz.func71 rfl (by kernel_rfl) (Nat.le_of_ble_eq_true rfl) ?_;refine Qag h (fun o1 ho hk=>?_);refine Exists.intro (JP1 _ _ o1 .normal (Q5p p0)) (And.intro ?_ (Qa7 ?_))
  ·have h:=ho;refine view (Qaw _ _) rfl ?_;refine Qaf h (fun hb h=>?_) (fun hb h=>?_)
   ·refine Qak [.sl false (p0.L.map Qae)] Qh6 h (fun x2 hy=>(Q84 p0.L x2 hy)) (fun x2 hy h=>?_);refine JP1.a h ?_;exact Le.tz 1 0 rfl rfl rfl
   ·refine JP1.a h ?_;exact Le.tz 1 0 rfl rfl rfl
  ·have h:=hk;refine Qaf h (fun hb h=>?_) (fun hb h=>?_)
   ·refine Qag h (fun o3 ho hk=>?_);refine Exists.intro (JP1 _ _ o3 .normal (Q5q p0)) (And.intro ?_ (Qa7 ?_))
    ·have h:=ho;refine Qaf h (fun hb h=>?_) (fun hb h=>?_)
     ·refine Qak [sV p0.Text,sV [123,123]] Qnz h (fun x4 hy=>(Q6e p0.Text [123,123] x4 hy)) (fun x4 hy h=>?_);refine Qaf h (fun hb h=>?_) (fun hb h=>?_)
      ·refine Qak [.agg [iV p0.Kind,sV p0.Name,sV p0.Text,iV p0.N,.sl false (p0.L.map Qae),.sl false (p0.Then.map Qae),.sl false (p0.Else.map Qae)],bV false,bV true,bV false,bV false,bV false] Qdb h (fun x5 hy=>(Qdd p0 false true false false false x5 hy)) (fun x5 hy h=>?_);refine JP1.a h ?_;exact Le.tz 1 0 rfl rfl rfl
      ·refine JP1.a h ?_;exact Le.tz 1 0 rfl rfl rfl
     ·refine bF ?_;refine JP1.a h ?_;exact Le.tz 1 0 rfl rfl rfl
    ·have h:=hk;refine Qao (t:=Qip) h ?_;exact .refl _
   ·refine Qaf h (fun hb h=>?_) (fun hb h=>?_)
    ·refine Qag h (fun o6 ho hk=>?_);refine Exists.intro (JP1 _ _ o6 .normal (Q5r p0)) (And.intro ?_ (Qa7 ?_))
     ·have h:=ho;refine Qaf h (fun hb h=>?_) (fun hb h=>?_)
      ·refine Qak [.agg [iV p0.Kind,sV p0.Name,sV p0.Text,iV p0.N,.sl false (p0.L.map Qae),.sl false (p0.Then.map Qae),.sl false (p0.Else.map Qae)],bV false,bV false,bV false,bV true,bV false] Qdb h (fun x7 hy=>(Qdd p0 false false false true false x7 hy)) (fun x7 hy h=>?_);refine JP1.a h ?_;exact Le.tz 1 0 rfl rfl rfl
      ·refine JP1.a h ?_;exact Le.tz 1 0 rfl rfl rfl
     ·have h:=hk;refine Qao (t:=Qip) h ?_;exact .refl _
    ·refine Qaf h (fun hb h=>?_) (fun hb h=>?_)
     ·refine Qag h (fun o8 ho hk=>?_);refine Exists.intro (JP1 _ _ o8 .normal (Q5s p0)) (And.intro ?_ (Qa7 ?_))
      ·have h:=ho;refine Qaf h (fun hb h=>?_) (fun hb h=>?_)
       ·refine Qak [.sl false (p0.Then.map Qae),bV true] Qgr h (fun x9 hy=>(iQjn p0.Then true x9 hy)) (fun x9 hy h=>?_);refine Qaf h (fun hb h=>?_) (fun hb h=>?_)
        ·refine Qak [.sl false (p0.Else.map Qae),bV true] Qgr h (fun x10 hy=>(iQjn p0.Else true x10 hy)) (fun x10 hy h=>?_);refine Qaf h (fun hb h=>?_) (fun hb h=>?_)
         ·refine Qak [.agg [iV p0.Kind,sV p0.Name,sV p0.Text,iV p0.N,.sl false (p0.L.map Qae),.sl false (p0.Then.map Qae),.sl false (p0.Else.map Qae)],bV false,bV false,bV false,bV true,bV true] Qdb h (fun x11 hy=>(Qdd p0 false false false true true x11 hy)) (fun x11 hy h=>?_);refine JP1.a h ?_;exact Le.tz 1 0 rfl rfl rfl
         ·refine JP1.a h ?_;exact Le.tz 1 0 rfl rfl rfl
        ·refine bF ?_;refine JP1.a h ?_;exact Le.tz 1 0 rfl rfl rfl
       ·refine bF ?_;refine bF ?_;refine JP1.a h ?_;exact Le.tz 1 0 rfl rfl rfl
      ·have h:=hk;refine Qao (t:=Qip) h ?_;exact .refl _
     ·refine Qag h (fun o12 ho hk=>?_);refine Exists.intro (JP1 _ _ o12 .normal (Q5t p0 o1)) (And.intro ?_ (Qa7 ?_))
      ·have h:=ho;refine Qaf h (fun hb h=>?_) (fun hb h=>?_)
       ·refine JP1.a h ?_;exact Le.tz 1 0 rfl rfl rfl
       ·refine JP1.a h ?_;exact Le.tz 1 0 rfl rfl rfl
      ·have h:=hk;refine Qaf h (fun hb h=>?_) (fun hb h=>?_)
       ·refine Qag h (fun o13 ho hk=>?_);refine Exists.intro (JP1 _ _ o13 .normal (Q5u p0)) (And.intro ?_ (Qa7 ?_))
        ·have h:=ho;refine Qak [sV p0.Name] Qio h (fun x14 hy=>(Qne p0.Name x14 hy)) (fun x14 hy h=>?_);refine Qaf h (fun hb h=>?_) (fun hb h=>?_)
         ·refine Qaf h (fun hb h=>?_) (fun hb h=>?_)
          ·refine Qak [.sl false (p0.Then.map Qae),bV true] Qgr h (fun x15 hy=>(iQjn p0.Then true x15 hy)) (fun x15 hy h=>?_);refine Qaf h (fun hb h=>?_) (fun hb h=>?_)
           ·refine Qak [.agg [iV p0.Kind,sV p0.Name,sV p0.Text,iV p0.N,.sl false (p0.L.map Qae),.sl false (p0.Then.map Qae),.sl false (p0.Else.map Qae)],bV true,bV false,bV false,bV true,bV true] Qdb h (fun x16 hy=>(Qdd p0 true false false true true x16 hy)) (fun x16 hy h=>?_);refine JP1.a h ?_;exact Le.tz 1 0 rfl rfl rfl
           ·refine JP1.a h ?_;exact Le.tz 1 0 rfl rfl rfl
          ·refine bF ?_;refine JP1.a h ?_;exact Le.tz 1 0 rfl rfl rfl
         ·refine bF ?_;refine bF ?_;refine JP1.a h ?_;exact Le.tz 1 0 rfl rfl rfl
        ·have h:=hk;refine Qao (t:=Qip) h ?_;exact .refl _
       ·refine Qaf h (fun hb h=>?_) (fun hb h=>?_)
        ·refine Qag h (fun o17 ho hk=>?_);refine Exists.intro (JP1 _ _ o17 .normal (Q5v p0)) (And.intro ?_ (Qa7 ?_))
         ·have h:=ho;refine Qak [sV p0.Name] Qio h (fun x18 hy=>(Qne p0.Name x18 hy)) (fun x18 hy h=>?_);refine Qaf h (fun hb h=>?_) (fun hb h=>?_)
          ·refine Qaf h (fun hb h=>?_) (fun hb h=>?_)
           ·refine Qak [.agg [iV p0.Kind,sV p0.Name,sV p0.Text,iV p0.N,.sl false (p0.L.map Qae),.sl false (p0.Then.map Qae),.sl false (p0.Else.map Qae)],bV true,bV false,bV false,bV true,bV false] Qdb h (fun x19 hy=>(Qdd p0 true false false true false x19 hy)) (fun x19 hy h=>?_);refine JP1.a h ?_;exact Le.tz 1 0 rfl rfl rfl
           ·refine JP1.a h ?_;exact Le.tz 1 0 rfl rfl rfl
          ·refine bF ?_;refine JP1.a h ?_;exact Le.tz 1 0 rfl rfl rfl
         ·have h:=hk;refine Qao (t:=Qip) h ?_;exact .refl _
        ·refine Qao (t:=Qip) h ?_;exact .refl _
theorem Q85:∀ (p0:(List Qab)) (p1:Bool) (o:Bool),Qjn p0 p1=some o→PCall Tryz.prog 46 [.sl false (p0.map Qae),bV p1] (Qgr o):=fun p0 p1=>Q6f.1 p0 p1
def Q86 (p0:(List Qab)):Option (Bool) :=
 ( Qjn p0 false>>=fun x2 =>
  if x2 then
   Qhy p0>>=fun x3 =>
   if(decide (x3≤12)) then
    Qfy p0>>=fun x4 =>
    some (decide (x4≤1024))
   else
    some false
  else
   some false:Option (Bool))>>=fun o1 =>
 some o1
theorem Qagn:∀ (p0:(List Qab)) (o:Bool),Q86 p0=some o→PCall Tryz.prog 24 [.sl false (p0.map Qae)] (Q5e o):=by
 intro p0 o h;unfold Q86 at h;refine PCall.ofB mixed tbOk Qagk Tryz.func24 rfl (by kernel_rfl) (Nat.le_of_ble_eq_true rfl) ?_;refine Qag h (fun o1 ho hk=>?_);refine Exists.intro (JP1 _ _ o1 .normal (Qaa6 )) (And.intro ?_ (Qa7 ?_))
 ·have h:=ho;refine Qak [.sl false (p0.map Qae),bV false] Qgr h (fun x2 hy=>(Q85 p0 false x2 hy)) (fun x2 hy h=>?_);refine Qaf h (fun hb h=>?_) (fun hb h=>?_)
  ·refine Qak [.sl false (p0.map Qae)] Qin h (fun x3 hy=>(Q1g p0 x3 hy)) (fun x3 hy h=>?_);refine Qaf h (fun hb h=>?_) (fun hb h=>?_)
   ·refine Qak [.sl false (p0.map Qae)] Qgp h (fun x4 hy=>(Qye p0 x4 hy)) (fun x4 hy h=>?_);refine JP1.a h ?_;exact Le.tz 0 0 rfl rfl rfl
   ·refine JP1.a h ?_;exact Le.tz 0 0 rfl rfl rfl
  ·refine bF ?_;refine JP1.a h ?_;exact Le.tz 0 0 rfl rfl rfl
 ·have h:=hk;refine Qao (t:=Q5e) h ?_;exact .refl _
mutual
def Qfz (p0:(List Qab)):Option ((List UInt8)) :=
 (Qcd p0 [] 0)>>=fun o1 =>
 some o1
 partial_fixpoint
def Qcd (p0:(List Qab)) (v3:(List UInt8)) (v4:Int):Option ((List UInt8)) :=
 if(decide (v4<(p0.length:Int))) then
  idx p0 v4>>=fun x2 =>
  if(x2.Kind==8) then
   need (v3.length+x2.Text.length≤9223372036854775807)>>=fun _ =>
   Qcd p0 (v3++x2.Text) (wr (v4+1))
  else
   if(x2.Kind==9) then
    need (v3.length+[123,123,32].length≤9223372036854775807)>>=fun _ =>
    idx x2.L 0>>=fun x3 =>
    Qgk x3>>=fun x4 =>
    need ((v3++[123,123,32]).length+x4.length≤9223372036854775807)>>=fun _ =>
    need (((v3++[123,123,32])++x4).length+[32,125,125].length≤9223372036854775807)>>=fun _ =>
    Qcd p0 (((v3++[123,123,32])++x4)++[32,125,125]) (wr (v4+1))
   else
    if(x2.Kind==13) then
     need (v3.length+[123,123,32,117,115,101,32].length≤9223372036854775807)>>=fun _ =>
     need ((v3++[123,123,32,117,115,101,32]).length+x2.Name.length≤9223372036854775807)>>=fun _ =>
     need (((v3++[123,123,32,117,115,101,32])++x2.Name).length+[32].length≤9223372036854775807)>>=fun _ =>
     idx x2.L 0>>=fun x5 =>
     Qgk x5>>=fun x6 =>
     need ((((v3++[123,123,32,117,115,101,32])++x2.Name)++[32]).length+x6.length≤9223372036854775807)>>=fun _ =>
     need (((((v3++[123,123,32,117,115,101,32])++x2.Name)++[32])++x6).length+[32,125,125].length≤9223372036854775807)>>=fun _ =>
     Qcd p0 (((((v3++[123,123,32,117,115,101,32])++x2.Name)++[32])++x6)++[32,125,125]) (wr (v4+1))
    else
     if(x2.Kind==10) then
      need (v3.length+[123,123,32,105,102,32].length≤9223372036854775807)>>=fun _ =>
      idx x2.L 0>>=fun x7 =>
      Qgk x7>>=fun x8 =>
      need ((v3++[123,123,32,105,102,32]).length+x8.length≤9223372036854775807)>>=fun _ =>
      need (((v3++[123,123,32,105,102,32])++x8).length+[32,125,125].length≤9223372036854775807)>>=fun _ =>
      Qfz x2.Then>>=fun x9 =>
      need ((((v3++[123,123,32,105,102,32])++x8)++[32,125,125]).length+x9.length≤9223372036854775807)>>=fun _ =>
      if(decide ((x2.Else.length:Int)>0)) then
       need (((((v3++[123,123,32,105,102,32])++x8)++[32,125,125])++x9).length+[123,123,32,101,108,115,101,32,125,125].length≤9223372036854775807)>>=fun _ =>
       Qfz x2.Else>>=fun x10 =>
       need ((((((v3++[123,123,32,105,102,32])++x8)++[32,125,125])++x9)++[123,123,32,101,108,115,101,32,125,125]).length+x10.length≤9223372036854775807)>>=fun _ =>
       need (((((((v3++[123,123,32,105,102,32])++x8)++[32,125,125])++x9)++[123,123,32,101,108,115,101,32,125,125])++x10).length+[123,123,32,101,110,100,32,125,125].length≤9223372036854775807)>>=fun _ =>
       Qcd p0 (((((((v3++[123,123,32,105,102,32])++x8)++[32,125,125])++x9)++[123,123,32,101,108,115,101,32,125,125])++x10)++[123,123,32,101,110,100,32,125,125]) (wr (v4+1))
      else
       need (((((v3++[123,123,32,105,102,32])++x8)++[32,125,125])++x9).length+[123,123,32,101,110,100,32,125,125].length≤9223372036854775807)>>=fun _ =>
       Qcd p0 (((((v3++[123,123,32,105,102,32])++x8)++[32,125,125])++x9)++[123,123,32,101,110,100,32,125,125]) (wr (v4+1))
     else
      if(x2.Kind==11) then
       need (v3.length+[123,123,32,101,97,99,104,32].length≤9223372036854775807)>>=fun _ =>
       need ((v3++[123,123,32,101,97,99,104,32]).length+x2.Name.length≤9223372036854775807)>>=fun _ =>
       need (((v3++[123,123,32,101,97,99,104,32])++x2.Name).length+[32,105,110,32].length≤9223372036854775807)>>=fun _ =>
       idx x2.L 0>>=fun x11 =>
       Qgk x11>>=fun x12 =>
       need ((((v3++[123,123,32,101,97,99,104,32])++x2.Name)++[32,105,110,32]).length+x12.length≤9223372036854775807)>>=fun _ =>
       need (((((v3++[123,123,32,101,97,99,104,32])++x2.Name)++[32,105,110,32])++x12).length+[32,125,125].length≤9223372036854775807)>>=fun _ =>
       Qfz x2.Then>>=fun x13 =>
       need ((((((v3++[123,123,32,101,97,99,104,32])++x2.Name)++[32,105,110,32])++x12)++[32,125,125]).length+x13.length≤9223372036854775807)>>=fun _ =>
       need (((((((v3++[123,123,32,101,97,99,104,32])++x2.Name)++[32,105,110,32])++x12)++[32,125,125])++x13).length+[123,123,32,101,110,100,32,125,125].length≤9223372036854775807)>>=fun _ =>
       Qcd p0 (((((((v3++[123,123,32,101,97,99,104,32])++x2.Name)++[32,105,110,32])++x12)++[32,125,125])++x13)++[123,123,32,101,110,100,32,125,125]) (wr (v4+1))
      else
       need (v3.length+[123,123,32,108,101,116,32].length≤9223372036854775807)>>=fun _ =>
       need ((v3++[123,123,32,108,101,116,32]).length+x2.Name.length≤9223372036854775807)>>=fun _ =>
       need (((v3++[123,123,32,108,101,116,32])++x2.Name).length+[32,61,32].length≤9223372036854775807)>>=fun _ =>
       idx x2.L 0>>=fun x14 =>
       Qgk x14>>=fun x15 =>
       need ((((v3++[123,123,32,108,101,116,32])++x2.Name)++[32,61,32]).length+x15.length≤9223372036854775807)>>=fun _ =>
       need (((((v3++[123,123,32,108,101,116,32])++x2.Name)++[32,61,32])++x15).length+[32,125,125].length≤9223372036854775807)>>=fun _ =>
       Qfz x2.Then>>=fun x16 =>
       need ((((((v3++[123,123,32,108,101,116,32])++x2.Name)++[32,61,32])++x15)++[32,125,125]).length+x16.length≤9223372036854775807)>>=fun _ =>
       need (((((((v3++[123,123,32,108,101,116,32])++x2.Name)++[32,61,32])++x15)++[32,125,125])++x16).length+[123,123,32,101,110,100,32,125,125].length≤9223372036854775807)>>=fun _ =>
       Qcd p0 (((((((v3++[123,123,32,108,101,116,32])++x2.Name)++[32,61,32])++x15)++[32,125,125])++x16)++[123,123,32,101,110,100,32,125,125]) (wr (v4+1))
 else
  some v3
 partial_fixpoint
end
theorem Q6g:(∀ (p0:(List Qab)) (o:(List UInt8)),Qfz p0=some o→PCall Tryz.prog 25 [.sl false (p0.map Qae)] (Qgq o))∧(∀ (p0:(List Qab)) (v3:(List UInt8)) (v4:Int) (o1:(List UInt8)),Qcd p0 v3 v4=some o1→TL (0,0) Tryz.prog 116 Q2s (JP1 (0,0) 116 o1 (.exit 0) (Qrt p0)) (Qcz p0 v3 v4)):=by
 refine Qfz.mutual_partial_correctness _ _ ?_ ?_
 ·intro Qcd' iQcd p0 o h;refine PCall.ofB mixed tbOk Qya Tryz.func25 rfl (by kernel_rfl) (Nat.le_of_ble_eq_true rfl) ?_;refine Qag h (fun o1 ho hk=>?_);refine Exists.intro (JP1 _ _ o1 (.exit 0) (Qrt p0)) (And.intro (Qo0 (τ := Qcz p0 [] 0) ?_ (TL.loop (iQcd p0 [] 0 o1 ho))) (Qa7 ?_))
  ·exact Le.tz 0 0 rfl rfl rfl
  have h:=hk;refine Qao (t:=Qgq) h ?_;exact .refl _
 ·intro Qfz' Qcd' iQfz iQcd p0 v3 v4 o1 h;refine TL.round (Qan mixed tbOk (lv:=Qya) _ _ _ ?_);refine view (Qaw _ _) rfl ?_;refine Qaf h (fun hb h=>?_) (fun hb h=>?_)
  ·refine Qcy (l:=p0) (c:=Qae) (c' := Qa2) h Qai (fun _=>rfl) (by decide) (fun x2 hi h=>?_);refine Qaf h (fun hb h=>?_) (fun hb h=>?_)
   ·refine Qbc h (fun h=>?_);refine TL.le (τ := Qcz p0 (v3++x2.Text) (wr (v4+1))) ?_ ((iQcd p0 (v3++x2.Text) (wr (v4+1)) _ h));exact Le.tz 0 0 rfl rfl rfl
   ·refine Qaf h (fun hb h=>?_) (fun hb h=>?_)
    ·refine Qbc h (fun h=>?_);refine Qcy (l:=x2.L) (c:=Qae) (c' := Qa2) h Qai (fun _=>rfl) (by decide) (fun x3 hi h=>?_);refine Qak [.agg [iV x3.Kind,sV x3.Name,sV x3.Text,iV x3.N,.sl false (x3.L.map Qae),.sl false (x3.Then.map Qae),.sl false (x3.Else.map Qae)]] Qcu h (fun x4 hy=>(Qnd x3 x4 hy)) (fun x4 hy h=>?_);refine Qbc h (fun h=>?_);refine Qbc h (fun h=>?_);refine TL.le (τ := Qcz p0 (((v3++[123,123,32])++x4)++[32,125,125]) (wr (v4+1))) ?_ ((iQcd p0 (((v3++[123,123,32])++x4)++[32,125,125]) (wr (v4+1)) _ h));exact Le.tz 0 0 rfl rfl rfl
    ·refine Qaf h (fun hb h=>?_) (fun hb h=>?_)
     ·refine And.intro (by decide +kernel) (And.intro rfl ?_);refine Qbc h (fun h=>?_);refine Qbc h (fun h=>?_);refine Qbc h (fun h=>?_);refine Qcy (l:=x2.L) (c:=Qae) (c' := Qa2) h Qai (fun _=>rfl) (by decide) (fun x5 hi h=>?_);refine Qdf [.agg [iV x5.Kind,sV x5.Name,sV x5.Text,iV x5.N,.sl false (x5.L.map Qae),.sl false (x5.Then.map Qae),.sl false (x5.Else.map Qae)]] Qcu h (fun x6 hy=>(Qnd x5 x6 hy)) (fun x6 hy h=>?_);refine Qbc h (fun h=>?_);refine Qbc h (fun h=>?_);refine TL.le (τ := Qcz p0 (((((v3++[123,123,32,117,115,101,32])++x2.Name)++[32])++x6)++[32,125,125]) (wr (v4+1))) ?_ ((iQcd p0 (((((v3++[123,123,32,117,115,101,32])++x2.Name)++[32])++x6)++[32,125,125]) (wr (v4+1)) _ h));exact Le.tz 0 0 rfl rfl rfl
     ·refine Qaf h (fun hb h=>?_) (fun hb h=>?_)
      ·refine And.intro (by decide +kernel) (And.intro rfl ?_);refine Qbc h (fun h=>?_);refine Qcy (l:=x2.L) (c:=Qae) (c' := Qa2) h Qai (fun _=>rfl) (by decide) (fun x7 hi h=>?_);refine Qdf [.agg [iV x7.Kind,sV x7.Name,sV x7.Text,iV x7.N,.sl false (x7.L.map Qae),.sl false (x7.Then.map Qae),.sl false (x7.Else.map Qae)]] Qcu h (fun x8 hy=>(Qnd x7 x8 hy)) (fun x8 hy h=>?_);refine Qbc h (fun h=>?_);refine Qbc h (fun h=>?_);refine Qdf [.sl false (x2.Then.map Qae)] Qgq h (fun x9 hy=>(iQfz x2.Then x9 hy)) (fun x9 hy h=>?_);refine Qbc h (fun h=>?_);refine view (Qaw _ _) rfl ?_;refine Qaf h (fun hb h=>?_) (fun hb h=>?_)
       ·refine Qbc h (fun h=>?_);refine Qak [.sl false (x2.Else.map Qae)] Qgq h (fun x10 hy=>(iQfz x2.Else x10 hy)) (fun x10 hy h=>?_);refine Qbc h (fun h=>?_);refine Qbc h (fun h=>?_);refine TL.le (τ := Qcz p0 (((((((v3++[123,123,32,105,102,32])++x8)++[32,125,125])++x9)++[123,123,32,101,108,115,101,32,125,125])++x10)++[123,123,32,101,110,100,32,125,125]) (wr (v4+1))) ?_ ((iQcd p0 (((((((v3++[123,123,32,105,102,32])++x8)++[32,125,125])++x9)++[123,123,32,101,108,115,101,32,125,125])++x10)++[123,123,32,101,110,100,32,125,125]) (wr (v4+1)) _ h));exact Le.tz 0 0 rfl rfl rfl
       ·refine Qbc h (fun h=>?_);refine TL.le (τ := Qcz p0 (((((v3++[123,123,32,105,102,32])++x8)++[32,125,125])++x9)++[123,123,32,101,110,100,32,125,125]) (wr (v4+1))) ?_ ((iQcd p0 (((((v3++[123,123,32,105,102,32])++x8)++[32,125,125])++x9)++[123,123,32,101,110,100,32,125,125]) (wr (v4+1)) _ h));exact Le.tz 0 0 rfl rfl rfl
      ·refine Qaf h (fun hb h=>?_) (fun hb h=>?_)
       ·refine And.intro (by decide +kernel) (And.intro rfl ?_);refine Qbc h (fun h=>?_);refine Qbc h (fun h=>?_);refine Qbc h (fun h=>?_);refine Qcy (l:=x2.L) (c:=Qae) (c' := Qa2) h Qai (fun _=>rfl) (by decide) (fun x11 hi h=>?_);refine Qdf [.agg [iV x11.Kind,sV x11.Name,sV x11.Text,iV x11.N,.sl false (x11.L.map Qae),.sl false (x11.Then.map Qae),.sl false (x11.Else.map Qae)]] Qcu h (fun x12 hy=>(Qnd x11 x12 hy)) (fun x12 hy h=>?_);refine Qbc h (fun h=>?_);refine Qbc h (fun h=>?_);refine Qdf [.sl false (x2.Then.map Qae)] Qgq h (fun x13 hy=>(iQfz x2.Then x13 hy)) (fun x13 hy h=>?_);refine Qbc h (fun h=>?_);refine Qbc h (fun h=>?_);refine TL.le (τ := Qcz p0 (((((((v3++[123,123,32,101,97,99,104,32])++x2.Name)++[32,105,110,32])++x12)++[32,125,125])++x13)++[123,123,32,101,110,100,32,125,125]) (wr (v4+1))) ?_ ((iQcd p0 (((((((v3++[123,123,32,101,97,99,104,32])++x2.Name)++[32,105,110,32])++x12)++[32,125,125])++x13)++[123,123,32,101,110,100,32,125,125]) (wr (v4+1)) _ h));exact Le.tz 0 0 rfl rfl rfl
       ·refine And.intro (by decide +kernel) (And.intro rfl ?_);refine Qbc h (fun h=>?_);refine Qbc h (fun h=>?_);refine Qbc h (fun h=>?_);refine Qcy (l:=x2.L) (c:=Qae) (c' := Qa2) h Qai (fun _=>rfl) (by decide) (fun x14 hi h=>?_);refine Qdf [.agg [iV x14.Kind,sV x14.Name,sV x14.Text,iV x14.N,.sl false (x14.L.map Qae),.sl false (x14.Then.map Qae),.sl false (x14.Else.map Qae)]] Qcu h (fun x15 hy=>(Qnd x14 x15 hy)) (fun x15 hy h=>?_);refine Qbc h (fun h=>?_);refine Qbc h (fun h=>?_);refine Qdf [.sl false (x2.Then.map Qae)] Qgq h (fun x16 hy=>(iQfz x2.Then x16 hy)) (fun x16 hy h=>?_);refine Qbc h (fun h=>?_);refine Qbc h (fun h=>?_);refine TL.le (τ := Qcz p0 (((((((v3++[123,123,32,108,101,116,32])++x2.Name)++[32,61,32])++x15)++[32,125,125])++x16)++[123,123,32,101,110,100,32,125,125]) (wr (v4+1))) ?_ ((iQcd p0 (((((((v3++[123,123,32,108,101,116,32])++x2.Name)++[32,61,32])++x15)++[32,125,125])++x16)++[123,123,32,101,110,100,32,125,125]) (wr (v4+1)) _ h));exact Le.tz 0 0 rfl rfl rfl
  ·exact JP1.a h (Le.tz 0 0 rfl rfl rfl)
theorem Q87:∀ (p0:(List Qab)) (o:(List UInt8)),Qfz p0=some o→PCall Tryz.prog 25 [.sl false (p0.map Qae)] (Qgq o):=fun p0=>Q6g.1 p0
def Qpf (p0:(List Qab)):Option ((List UInt8)×Bool) :=
 Q86 p0>>=fun x1 =>
 if(!x1) then
  some ([],false)
 else
  Qfz p0>>=fun x2 =>
  if(decide ((x2.length:Int)>65536)) then
   some ([],false)
  else
   some (x2,true)
theorem Q88:∀ (p0:(List Qab)) (o:(List UInt8)×Bool),Qpf p0=some o→PCall Tryz.prog 11 [.sl false (p0.map Qae)] (Qmz o):=by
 intro p0 o h;unfold Qpf at h;refine PCall.ofB mixed tbOk Q8r Tryz.func11 rfl (by kernel_rfl) (Nat.le_of_ble_eq_true rfl) ?_;refine Qak [.sl false (p0.map Qae)] Q5e h (fun x1 hy=>(Qagn p0 x1 hy)) (fun x1 hy h=>?_);refine Qaf h (fun hb h=>?_) (fun hb h=>?_)
 ·refine Qao (t:=Qmz) h ?_;exact .refl _
 ·refine Qak [.sl false (p0.map Qae)] Qgq h (fun x2 hy=>(Q87 p0 x2 hy)) (fun x2 hy h=>?_);refine vrfl ?_;refine Qaf h (fun hb h=>?_) (fun hb h=>?_)
  ·refine Qao (t:=Qmz) h ?_;exact .refl _
  ·refine Qao (t:=Qmz) h ?_;exact .refl _
mutual
def Qhz (p0:(List Qab)) (p1:(List Qab)):Option (Bool) :=
 if((p0.length:Int) != (p1.length:Int)) then
  some false
 else
  (Qif p0 p1 0)>>=fun o1 =>
  match o1 with
  | .inl y2 =>
   some true
  | .inr y3 =>
   some false
 partial_fixpoint
def Qif (p0:(List Qab)) (p1:(List Qab)) (v5:Int):Option (Unit⊕Unit) :=
 if(decide (v5<(p0.length:Int))) then
  ( idx p0 v5>>=fun x5 =>
   idx p1 v5>>=fun x6 =>
   some (x5.Kind,x5.Name,x5.Text,x5.N,x5.L,x5.Then,x5.Else,x6.Kind,x6.Name,x6.Text,x6.N,x6.L,x6.Then,x6.Else):Option ((Int×(List UInt8)×(List UInt8)×Int×(List Qab)×(List Qab)×(List Qab)×Int×(List UInt8)×(List UInt8)×Int×(List Qab)×(List Qab)×(List Qab))))>>=fun o4 =>
  ( if(o4.1 != o4.2.2.2.2.2.2.2.1) then
    some true
   else
    if(!(o4.2.1==o4.2.2.2.2.2.2.2.2.1)) then
     some true
    else
     if(!(o4.2.2.1==o4.2.2.2.2.2.2.2.2.2.1)) then
      some true
     else
      if(o4.2.2.2.1 != o4.2.2.2.2.2.2.2.2.2.2.1) then
       some true
      else
       Qhz o4.2.2.2.2.1 o4.2.2.2.2.2.2.2.2.2.2.2.1>>=fun x8 =>
       if(!x8) then
        some true
       else
        Qhz o4.2.2.2.2.2.1 o4.2.2.2.2.2.2.2.2.2.2.2.2.1>>=fun x9 =>
        if(!x9) then
         some true
        else
         Qhz o4.2.2.2.2.2.2.1 o4.2.2.2.2.2.2.2.2.2.2.2.2.2>>=fun x10 =>
         some (!x10):Option (Bool))>>=fun o7 =>
  if o7 then
   some (.inr ())
  else
   Qif p0 p1 (wr (v5+1))
 else
  some (.inl ())
 partial_fixpoint
end
theorem Q89:(∀ (p0:(List Qab)) (p1:(List Qab)) (o:Bool),Qhz p0 p1=some o→PCall Tryz.prog 9 [.sl false (p0.map Qae),.sl false (p1.map Qae)] (Qf4 o))∧(∀ (p0:(List Qab)) (p1:(List Qab)) (v5:Int) (o1:Unit⊕Unit),Qif p0 p1 v5=some o1→TL (0,0) Tryz.prog 77 Q5h (JP2 (0,0) 77 o1 (.exit 0) (Quf p0 p1) .ret (Qug p0 p1)) (Qor p0 p1 v5)):=by
 refine Qhz.mutual_partial_correctness _ _ ?_ ?_
 ·intro Qif' iQif p0 p1 o h;refine PCall.ofB mixed tbOk Q0v Tryz.func9 rfl (by kernel_rfl) (Nat.le_of_ble_eq_true rfl) ?_;refine view (Qaw _ _) rfl ?_;refine view (Qaw _ _) rfl ?_;refine Qaf h (fun hb h=>?_) (fun hb h=>?_)
  ·refine Qao (t:=Qf4) h ?_;exact .refl _
  ·refine Qag h (fun o1 ho hk=>?_);refine Exists.intro (JP2 _ _ o1 (.exit 0) (Quf p0 p1) .ret (Qug p0 p1)) (And.intro (Qo0 (τ := Qor p0 p1 0) ?_ (TL.loop (iQif p0 p1 0 o1 ho))) (Qmu (fun y2 hy=>?_) (fun y3 hy=>?_)))
   ·exact Le.tz 0 0 rfl rfl rfl
   ·have h:=(by rw[hy] at hk; exact hk);refine Qao (t:=Qf4) h ?_;exact .refl _
   ·have h:=(by rw[hy] at hk; exact hk);refine Qao (t:=Qf4) h ?_;exact .refl _
 ·intro Qhz' Qif' iQhz iQif p0 p1 v5 o1 h;refine TL.round (Qan mixed tbOk (lv:=Q0v) _ _ _ ?_);refine view (Qaw _ _) rfl ?_;refine Qaf h (fun hb h=>?_) (fun hb h=>?_)
  ·refine Qag h (fun o4 ho hk=>?_);refine Exists.intro (JP1 _ _ o4 .normal (Q5f p0 p1 v5)) (And.intro ?_ (Qa7 ?_))
   ·have h:=ho;refine And.intro (by decide +kernel) (And.intro (by decide +kernel) (And.intro (by decide +kernel) (And.intro rfl ?_)));refine Qcy (l:=p0) (c:=Qae) (c' := Qa2) h Qai (fun _=>rfl) (by decide) (fun x5 hi h=>?_);refine Qcy (l:=p1) (c:=Qae) (c' := Qa2) h Qai (fun _=>rfl) (by decide) (fun x6 hi h=>?_);refine And.intro (Nat.le_of_ble_eq_true rfl) (And.intro ?_ ?_)
    ·refine JP1.a h ?_;exact Le.tz 2 0 rfl rfl rfl
    ·refine JP1.a h ?_;exact Le.trans (τ := ⟨[(0,.p (.sl false (p0.map Qae))),(1,.p (.sl false (p1.map Qae))),(5,.p (iV v5)),(6,.ptr 0 0),(7,.ptr 1 0)],⟨[[.p (iV x5.Kind),.p (sV x5.Name),.p (sV x5.Text),.p (iV x5.N),.p (.sl false (x5.L.map Qae)),.p (.sl false (x5.Then.map Qae)),.p (.sl false (x5.Else.map Qae))],[.p (iV x6.Kind),.p (sV x6.Name),.p (sV x6.Text),.p (iV x6.N),.p (.sl false (x6.L.map Qae)),.p (.sl false (x6.Then.map Qae)),.p (.sl false (x6.Else.map Qae))]],[]⟩⟩) (Le.perm [1,0] rfl rfl rfl) (Le.tz 2 0 rfl rfl rfl)
   ·have h:=hk;refine Qag h (fun o7 ho hk=>?_);refine Exists.intro (JP1 _ _ o7 .normal (Q5g p0 p1 v5 o4)) (And.intro ?_ (Qa7 ?_))
    ·have h:=ho;refine Qaf h (fun hb h=>?_) (fun hb h=>?_)
     ·refine bT ?_;refine bT ?_;refine bT ?_;refine bT ?_;refine bT ?_;refine JP1.a h ?_;exact Le.tz 2 0 rfl rfl rfl
     ·refine Qaf h (fun hb h=>?_) (fun hb h=>?_)
      ·refine bT ?_;refine bT ?_;refine bT ?_;refine bT ?_;refine JP1.a h ?_;exact Le.tz 2 0 rfl rfl rfl
      ·refine Qaf h (fun hb h=>?_) (fun hb h=>?_)
       ·refine bT ?_;refine bT ?_;refine bT ?_;refine JP1.a h ?_;exact Le.tz 2 0 rfl rfl rfl
       ·refine Qaf h (fun hb h=>?_) (fun hb h=>?_)
        ·refine bT ?_;refine bT ?_;refine JP1.a h ?_;exact Le.tz 2 0 rfl rfl rfl
        ·refine Qak [.sl false (o4.2.2.2.2.1.map Qae),.sl false (o4.2.2.2.2.2.2.2.2.2.2.2.1.map Qae)] Qf4 h (fun x8 hy=>(iQhz o4.2.2.2.2.1 o4.2.2.2.2.2.2.2.2.2.2.2.1 x8 hy)) (fun x8 hy h=>?_);refine Qaf h (fun hb h=>?_) (fun hb h=>?_)
         ·refine bT ?_;refine JP1.a h ?_;exact Le.tz 2 0 rfl rfl rfl
         ·refine Qak [.sl false (o4.2.2.2.2.2.1.map Qae),.sl false (o4.2.2.2.2.2.2.2.2.2.2.2.2.1.map Qae)] Qf4 h (fun x9 hy=>(iQhz o4.2.2.2.2.2.1 o4.2.2.2.2.2.2.2.2.2.2.2.2.1 x9 hy)) (fun x9 hy h=>?_);refine Qaf h (fun hb h=>?_) (fun hb h=>?_)
          ·refine JP1.a h ?_;exact Le.tz 2 0 rfl rfl rfl
          ·refine Qak [.sl false (o4.2.2.2.2.2.2.1.map Qae),.sl false (o4.2.2.2.2.2.2.2.2.2.2.2.2.2.map Qae)] Qf4 h (fun x10 hy=>(iQhz o4.2.2.2.2.2.2.1 o4.2.2.2.2.2.2.2.2.2.2.2.2.2 x10 hy)) (fun x10 hy h=>?_);refine JP1.a h ?_;exact Le.tz 2 0 rfl rfl rfl
    ·have h:=hk;refine Qaf h (fun hb h=>?_) (fun hb h=>?_)
     ·exact JP2.b h (Le.tz 0 0 rfl rfl rfl)
     ·refine TL.le (τ := Qor p0 p1 (wr (v5+1))) ?_ ((iQif p0 p1 (wr (v5+1)) _ h));exact Le.tz 0 0 rfl rfl rfl
  ·exact JP2.a h (Le.tz 0 0 rfl rfl rfl)
theorem Q1i:∀ (p0:(List Qab)) (p1:(List Qab)) (o:Bool),Qhz p0 p1=some o→PCall Tryz.prog 9 [.sl false (p0.map Qae),.sl false (p1.map Qae)] (Qf4 o):=fun p0 p1=>Q89.1 p0 p1
def Qap (p1:Int) (h0_0:(List Qaa)) (h0_1:Int) (h0_2:Bool):Option (Bool) :=
 ( if(!h0_2) then
   if(decide (h0_1<(h0_0.length:Int))) then
    idx h0_0 h0_1>>=fun x2 =>
    some (x2.Kind==p1)
   else
    some false
  else
   some false:Option (Bool))>>=fun o1 =>
 some o1
theorem Qas:∀ (p1:Int) (h0_0:(List Qaa)) (h0_1:Int) (h0_2:Bool) (o:Bool),Qap p1 h0_0 h0_1 h0_2=some o→CallOK Tryz.prog 42 [.ptr 0 0,.p (iV p1)] ⟨[[.p (.sl false (h0_0.map Qad)),.p (iV h0_1),.p (bV h0_2)]],[]⟩ (Qdx o) ⟨[[.p (.sl false (h0_0.map Qad)),.p (iV h0_1),.p (bV h0_2)]],[]⟩:=by
 intro p1 h0_0 h0_1 h0_2 o h;unfold Qap at h;refine CallOK.ofB mixed tbOk Qyp Tryz.func42 rfl (by kernel_rfl) (Nat.le_of_ble_eq_true rfl) rfl rfl rfl ?_;refine Qag h (fun o1 ho hk=>?_);refine Exists.intro (JP1 _ _ o1 .normal (Qv2 h0_0 h0_1 h0_2)) (And.intro ?_ (Qa7 ?_))
 ·have h:=ho;refine And.intro (by decide +kernel) (And.intro rfl ?_);refine Qaf h (fun hb h=>?_) (fun hb h=>?_)
  ·refine view (Qaw _ _) rfl ?_;refine Qaf h (fun hb h=>?_) (fun hb h=>?_)
   ·refine Qcy (l:=h0_0) (c:=Qad) (c' := Qad) h (fun _=>rfl) (fun _=>rfl) (by decide) (fun x2 hi h=>?_);refine JP1.a h ?_;exact Le.tz 1 0 rfl rfl rfl
   ·refine JP1.a h ?_;exact Le.tz 1 0 rfl rfl rfl
  ·refine bF ?_;refine JP1.a h ?_;exact Le.tz 1 0 rfl rfl rfl
 ·have h:=hk;refine Exists.intro _ (And.intro (Le.refl _ _ _) ?_);exact Qbe (t:=Qdx) (ss:=fun o=>⟨[[.p (.sl false (h0_0.map Qad)),.p (iV h0_1),.p (bV h0_2)]],[]⟩) h ⟨[],rfl,.refl _,.refl _,rfl⟩
def Qby (p1:(List UInt8)) (h0_0:(List Qaa)) (h0_1:Int) (h0_2:Bool):Option (Bool) :=
 ( Qap 2 h0_0 h0_1 h0_2>>=fun x2 =>
  if x2 then
   if(decide ((wr (h0_1+1))<(h0_0.length:Int))) then
    idx h0_0 (wr (h0_1+1))>>=fun x3 =>
    if(x3.Kind==4) then
     idx h0_0 (wr (h0_1+1))>>=fun x4 =>
     some (x4.Text==p1)
    else
     some false
   else
    some false
  else
   some false:Option (Bool))>>=fun o1 =>
 some o1
theorem Qfq:∀ (p1:(List UInt8)) (h0_0:(List Qaa)) (h0_1:Int) (h0_2:Bool) (o:Bool),Qby p1 h0_0 h0_1 h0_2=some o→CallOK Tryz.prog 44 [.ptr 0 0,.p (sV p1)] ⟨[[.p (.sl false (h0_0.map Qad)),.p (iV h0_1),.p (bV h0_2)]],[]⟩ (Qn0 o) ⟨[[.p (.sl false (h0_0.map Qad)),.p (iV h0_1),.p (bV h0_2)]],[]⟩:=by
 intro p1 h0_0 h0_1 h0_2 o h;unfold Qby at h;refine CallOK.ofB mixed tbOk Qux Tryz.func44 rfl (by kernel_rfl) (Nat.le_of_ble_eq_true rfl) rfl rfl rfl ?_;refine Qag h (fun o1 ho hk=>?_);refine Exists.intro (JP1 _ _ o1 .normal (Qrz h0_0 h0_1 h0_2)) (And.intro ?_ (Qa7 ?_))
 ·have h:=ho;refine And.intro (by decide +kernel) (And.intro rfl ?_);refine Qvq (fun x2=>(Qdx x2).ren [0] []) h (fun x2 hy=>(Qas 2 h0_0 h0_1 h0_2 x2 hy).fd rfl rfl [0] rfl rfl) (fun x2 hy h=>?_);refine Qaf h (fun hb h=>?_) (fun hb h=>?_)
  ·refine view (Qaw _ _) rfl ?_;refine Qaf h (fun hb h=>?_) (fun hb h=>?_)
   ·refine Qcy (l:=h0_0) (c:=Qad) (c' := Qad) h (fun _=>rfl) (fun _=>rfl) (by decide) (fun x3 hi h=>?_);refine Qaf h (fun hb h=>?_) (fun hb h=>?_)
    ·refine Qcy (l:=h0_0) (c:=Qad) (c' := Qad) h (fun _=>rfl) (fun _=>rfl) (by decide) (fun x4 hi h=>?_);refine JP1.a h ?_;exact Le.tz 1 0 rfl rfl rfl
    ·refine JP1.a h ?_;exact Le.tz 1 0 rfl rfl rfl
   ·refine bF ?_;refine JP1.a h ?_;exact Le.tz 1 0 rfl rfl rfl
  ·refine bF ?_;refine bF ?_;refine JP1.a h ?_;exact Le.tz 1 0 rfl rfl rfl
 ·have h:=hk;refine Exists.intro _ (And.intro (Le.refl _ _ _) ?_);exact Qbe (t:=Qn0) (ss:=fun o=>⟨[[.p (.sl false (h0_0.map Qad)),.p (iV h0_1),.p (bV h0_2)]],[]⟩) h ⟨[],rfl,.refl _,.refl _,rfl⟩
def Qaj (p1:Bool) (h0_0:(List Qaa)) (h0_1:Int) (h0_2:Bool):Option (Qaa×Int×Bool) :=
 ( if(!p1) then
   some true
  else
   some h0_2:Option (Bool))>>=fun o1 =>
 if o1 then
  some ((Qaa.mk 0 [] 0 0 0),h0_1,true)
 else
  idx h0_0 (wr ((wr (h0_1+1))-1))>>=fun x2 =>
  some (x2,(wr (h0_1+1)),h0_2)
theorem Qal:∀ (p1:Bool) (h0_0:(List Qaa)) (h0_1:Int) (h0_2:Bool) (o:Qaa×Int×Bool),Qaj p1 h0_0 h0_1 h0_2=some o→CallOK Tryz.prog 43 [.ptr 0 0,.p (bV p1)] ⟨[[.p (.sl false (h0_0.map Qad)),.p (iV h0_1),.p (bV h0_2)]],[]⟩ (Qkd o) ⟨[[.p (.sl false (h0_0.map Qad)),.p (iV o.2.1),.p (bV o.2.2)]],[]⟩:=by
 intro p1 h0_0 h0_1 h0_2 o h;unfold Qaj at h;refine CallOK.ofB mixed tbOk Qv4 Tryz.func43 rfl (by kernel_rfl) (Nat.le_of_ble_eq_true rfl) rfl rfl rfl ?_;refine Qag h (fun o1 ho hk=>?_);refine Exists.intro (JP1 _ _ o1 .normal (Qts h0_0 h0_1 h0_2)) (And.intro ?_ (Qa7 ?_))
 ·have h:=ho;refine Qaf h (fun hb h=>?_) (fun hb h=>?_)
  ·refine JP1.a h ?_;exact Le.tz 2 0 rfl rfl rfl
  ·refine JP1.a h ?_;exact Le.tz 2 0 rfl rfl rfl
 ·have h:=hk;refine Qaf h (fun hb h=>?_) (fun hb h=>?_)
  ·refine Exists.intro _ (And.intro (Le.refl _ _ _) ?_);exact Qbe (t:=Qkd) (ss:=fun o=>⟨[[.p (.sl false (h0_0.map Qad)),.p (iV o.2.1),.p (bV o.2.2)]],[]⟩) h ⟨[],rfl,.refl _,.refl _,rfl⟩
  ·refine And.intro (by decide +kernel) (And.intro rfl ?_);refine Qcy (l:=h0_0) (c:=Qad) (c' := Qad) h (fun _=>rfl) (fun _=>rfl) (by decide) (fun x2 hi h=>?_);refine Exists.intro _ (And.intro (Le.refl _ _ _) ?_);exact Qbe (t:=Qkd) (ss:=fun o=>⟨[[.p (.sl false (h0_0.map Qad)),.p (iV o.2.1),.p (bV o.2.2)]],[]⟩) h ⟨[],rfl,.refl _,.refl _,rfl⟩
instance Q64:Lean.Order.CCPO ((List Qab)→(List Qab)→(List Qab)→Option ((Int×Bool×Int×(List UInt8)×(List UInt8)×Int×(List Qab)×(List Qab)×(List Qab)))):=inferInstance
instance Q65:Lean.Order.CCPO ((List UInt8)→(List UInt8)→Int→(List Qab)→(List Qab)→(List Qab)→Option ((Int×Bool×Int×(List UInt8)×(List UInt8)×Int×(List Qab)×(List Qab)×(List Qab)))):=inferInstance
def Qbs (h0_0:(List Qaa)) (h0_1_:Int) (h0_2_:Bool) (h2_0:Int) (h2_1:(List UInt8)) (h2_2:(List UInt8)) (h2_3:Int) (h2_4:(List Qab)) (h2_5:(List Qab)) (h2_6:(List Qab)):Option ((Int×Bool×Int×(List UInt8)×(List UInt8)×Int×(List Qab)×(List Qab)×(List Qab))) :=
 Qap 7 h0_0 h0_1_ h0_2_>>=fun x3 =>
 if x3 then
  Qaj true h0_0 h0_1_ h0_2_>>=fun x4 =>
  Qap 4 h0_0 x4.2.1 x4.2.2>>=fun x5 =>
  Qaj x5 h0_0 x4.2.1 x4.2.2>>=fun x6 =>
  Qbs h0_0 x6.2.1 x6.2.2 5 x6.1.Text [] 0 [(Qab.mk h2_0 h2_1 h2_2 h2_3 h2_4 h2_5 h2_6)] [] []
 else
  some (h0_1_,h0_2_,h2_0,h2_1,h2_2,h2_3,h2_4,h2_5,h2_6)
 partial_fixpoint
theorem Qq5:∀ (h0_0:(List Qaa)),(∀ (h0_1_:Int) (h0_2_:Bool) (h2_0:Int) (h2_1:(List UInt8)) (h2_2:(List UInt8)) (h2_3:Int) (h2_4:(List Qab)) (h2_5:(List Qab)) (h2_6:(List Qab)) (o2:(Int×Bool×Int×(List UInt8)×(List UInt8)×Int×(List Qab)×(List Qab)×(List Qab))),Qbs h0_0 h0_1_ h0_2_ h2_0 h2_1 h2_2 h2_3 h2_4 h2_5 h2_6=some o2→TL (1,0) Tryz.prog 19 Ql1 (JP1 (1,0) 19 o2 (.exit 0) (Qgt h0_0)) (Qed h0_0 h0_1_ h0_2_ h2_0 h2_1 h2_2 h2_3 h2_4 h2_5 h2_6)):=by
 intro h0_0;refine Qbs.partial_correctness h0_0 _ ?_;intro Qbs' iQbs h0_1_ h0_2_ h2_0 h2_1 h2_2 h2_3 h2_4 h2_5 h2_6 o2 h;refine TL.round (Qan mixed tbOk (lv:=Qn1) _ _ _ ?_);refine Qah _ _ h (fun x3 hy=>((Qas 7 h0_0 h0_1_ h0_2_ x3 hy).fr [0] [] rfl rfl rfl)) (fun x3 hy h=>?_);refine Qaf h (fun hb h=>?_) (fun hb h=>?_)
 ·refine Qah _ _ h (fun x4 hy=>((Qal true h0_0 h0_1_ h0_2_ x4 hy).fr [0] [] rfl rfl rfl)) (fun x4 hy h=>?_);refine And.intro (by decide +kernel) (And.intro rfl ?_);refine Qvq (fun x5=>(Qdx x5).ren [0] []) h (fun x5 hy=>(Qas 4 h0_0 x4.2.1 x4.2.2 x5 hy).fd rfl rfl [0] rfl rfl) (fun x5 hy h=>?_);refine Qnv _ _ h (fun x6 hy=>((Qal x5 h0_0 x4.2.1 x4.2.2 x6 hy).fg [0] [] rfl rfl rfl (Nat.le_of_ble_eq_true rfl))) (fun x6 hy h=>?_);refine TL.le (τ := Qed h0_0 x6.2.1 x6.2.2 5 x6.1.Text [] 0 [(Qab.mk h2_0 h2_1 h2_2 h2_3 h2_4 h2_5 h2_6)] [] []) ?_ ((iQbs x6.2.1 x6.2.2 5 x6.1.Text [] 0 [(Qab.mk h2_0 h2_1 h2_2 h2_3 h2_4 h2_5 h2_6)] [] [] _ h));exact Le.tow 3 0 rfl (.cons rfl (.refl _) (.cons rfl (.refl _) (.cons rfl (.refl _) (.nil)))) (.cons (.refl _) (.cons (.refl _) (.cons (.cons (.refl _) (.cons (.refl _) (.cons (.refl _) (.cons (.refl _) (.cons (.p (.no (.cons (.ceq (Qai _) (.refl _)) (.nil)))) (.cons (.p (.not)) (.cons (.p (.not)) (.nil)))))))) (.nil)))) rfl
 ·exact JP1.a h (Le.tz 3 0 rfl rfl rfl)
def Qsg:=fun h0_0 h0_1_ h0_2_ h2_0 h2_1 h2_2 h2_3 h2_4 h2_5 h2_6=>(Qq5 h0_0) h0_1_ h0_2_ h2_0 h2_1 h2_2 h2_3 h2_4 h2_5 h2_6
def Qc1 (h0_0:(List Qaa)) (h0_1:Int) (h0_2:Bool):Option ((List UInt8)×Int×Bool) :=
 ( Qap 4 h0_0 h0_1 h0_2>>=fun x2 =>
  if x2 then
   idx h0_0 h0_1>>=fun x3 =>
   Qme x3.Text>>=fun x4 =>
   Qaj x4 h0_0 h0_1 h0_2>>=fun x5 =>
   some (x5.1.Text,x5.2.1,x5.2.2)
  else
   Qaj false h0_0 h0_1 h0_2>>=fun x6 =>
   some (x6.1.Text,x6.2.1,x6.2.2):Option (((List UInt8)×Int×Bool)))>>=fun o1 =>
 some (o1.1,o1.2.1,o1.2.2)
theorem Qjo:∀ (h0_0:(List Qaa)) (h0_1:Int) (h0_2:Bool) (o:(List UInt8)×Int×Bool),Qc1 h0_0 h0_1 h0_2=some o→CallOK Tryz.prog 70 [.ptr 0 0] ⟨[[.p (.sl false (h0_0.map Qad)),.p (iV h0_1),.p (bV h0_2)]],[]⟩ (Qo7 o) ⟨[[.p (.sl false (h0_0.map Qad)),.p (iV o.2.1),.p (bV o.2.2)]],[]⟩:=by
 intro h0_0 h0_1 h0_2 o h;unfold Qc1 at h;refine CallOK.ofB mixed tbOk Qv3 Tryz.func70 rfl (by kernel_rfl) (Nat.le_of_ble_eq_true rfl) rfl rfl rfl ?_;refine Qag h (fun o1 ho hk=>?_);refine Exists.intro (JP1 _ _ o1 .normal (Qtr h0_0)) (And.intro ?_ (Qa7 ?_))
 ·have h:=ho;refine And.intro (by decide +kernel) (And.intro rfl ?_);refine Qvq (fun x2=>(Qdx x2).ren [0] []) h (fun x2 hy=>(Qas 4 h0_0 h0_1 h0_2 x2 hy).fd rfl rfl [0] rfl rfl) (fun x2 hy h=>?_);refine Qaf h (fun hb h=>?_) (fun hb h=>?_)
  ·refine Qcy (l:=h0_0) (c:=Qad) (c' := Qad) h (fun _=>rfl) (fun _=>rfl) (by decide) (fun x3 hi h=>?_);refine Qdf [sV x3.Text] Qio h (fun x4 hy=>(Qne x3.Text x4 hy)) (fun x4 hy h=>?_);refine Qnv _ _ h (fun x5 hy=>((Qal x4 h0_0 h0_1 h0_2 x5 hy).fg [0] [] rfl rfl rfl (Nat.le_of_ble_eq_true rfl))) (fun x5 hy h=>?_);refine JP1.a h ?_;exact Le.tz 1 0 rfl rfl rfl
  ·refine Qnv _ _ h (fun x6 hy=>((Qal false h0_0 h0_1 h0_2 x6 hy).fg [0] [] rfl rfl rfl (Nat.le_of_ble_eq_true rfl))) (fun x6 hy h=>?_);refine JP1.a h ?_;exact Le.tz 1 0 rfl rfl rfl
 ·have h:=hk;refine Exists.intro _ (And.intro (Le.refl _ _ _) ?_);exact Qbe (t:=Qo7) (ss:=fun o=>⟨[[.p (.sl false (h0_0.map Qad)),.p (iV o.2.1),.p (bV o.2.2)]],[]⟩) h ⟨[],rfl,.refl _,.refl _,rfl⟩
def Qbl (p1:(List UInt8)) (h0_0:(List Qaa)) (h0_1:Int) (h0_2:Bool):Option (Bool) :=
 ( Qap 4 h0_0 h0_1 h0_2>>=fun x2 =>
  if x2 then
   idx h0_0 h0_1>>=fun x3 =>
   some (x3.Text==p1)
  else
   some false:Option (Bool))>>=fun o1 =>
 some o1
theorem Qbt:∀ (p1:(List UInt8)) (h0_0:(List Qaa)) (h0_1:Int) (h0_2:Bool) (o:Bool),Qbl p1 h0_0 h0_1 h0_2=some o→CallOK Tryz.prog 66 [.ptr 0 0,.p (sV p1)] ⟨[[.p (.sl false (h0_0.map Qad)),.p (iV h0_1),.p (bV h0_2)]],[]⟩ (Qo8 o) ⟨[[.p (.sl false (h0_0.map Qad)),.p (iV h0_1),.p (bV h0_2)]],[]⟩:=by
 intro p1 h0_0 h0_1 h0_2 o h;unfold Qbl at h;refine CallOK.ofB mixed tbOk Qv5 Tryz.func66 rfl (by kernel_rfl) (Nat.le_of_ble_eq_true rfl) rfl rfl rfl ?_;refine Qag h (fun o1 ho hk=>?_);refine Exists.intro (JP1 _ _ o1 .normal (Qtt h0_0 h0_1 h0_2)) (And.intro ?_ (Qa7 ?_))
 ·have h:=ho;refine And.intro (by decide +kernel) (And.intro rfl ?_);refine Qvq (fun x2=>(Qdx x2).ren [0] []) h (fun x2 hy=>(Qas 4 h0_0 h0_1 h0_2 x2 hy).fd rfl rfl [0] rfl rfl) (fun x2 hy h=>?_);refine Qaf h (fun hb h=>?_) (fun hb h=>?_)
  ·refine Qcy (l:=h0_0) (c:=Qad) (c' := Qad) h (fun _=>rfl) (fun _=>rfl) (by decide) (fun x3 hi h=>?_);refine JP1.a h ?_;exact Le.tz 1 0 rfl rfl rfl
  ·refine JP1.a h ?_;exact Le.tz 1 0 rfl rfl rfl
 ·have h:=hk;refine Exists.intro _ (And.intro (Le.refl _ _ _) ?_);exact Qbe (t:=Qo8) (ss:=fun o=>⟨[[.p (.sl false (h0_0.map Qad)),.p (iV h0_1),.p (bV h0_2)]],[]⟩) h ⟨[],rfl,.refl _,.refl _,rfl⟩
mutual
def Qay (h0_0:(List Qaa)) (h0_1:Int) (h0_2:Bool):Option (Qab×Int×Bool) :=
 Qdr h0_0 h0_1 h0_2>>=fun x1 =>
 (Qbs h0_0 x1.2.1 x1.2.2 x1.1.Kind x1.1.Name x1.1.Text x1.1.N x1.1.L x1.1.Then x1.1.Else)>>=fun o2 =>
 some ((Qab.mk o2.2.2.1 o2.2.2.2.1 o2.2.2.2.2.1 o2.2.2.2.2.2.1 o2.2.2.2.2.2.2.1 o2.2.2.2.2.2.2.2.1 o2.2.2.2.2.2.2.2.2),o2.1,o2.2.1)
 partial_fixpoint
def Qdr (h0_0:(List Qaa)) (h0_1:Int) (h0_2:Bool):Option (Qab×Int×Bool) :=
 Qap 5 h0_0 h0_1 h0_2>>=fun x1 =>
 if x1 then
  Qaj true h0_0 h0_1 h0_2>>=fun x2 =>
  some ((Qab.mk 1 [] x2.1.Text 0 [] [] []),x2.2.1,x2.2.2)
 else
  Qap 6 h0_0 h0_1 h0_2>>=fun x3 =>
  if x3 then
   Qaj true h0_0 h0_1 h0_2>>=fun x4 =>
   some ((Qab.mk 2 [] [] x4.1.N [] [] []),x4.2.1,x4.2.2)
  else
   Qbl [116,114,117,101] h0_0 h0_1 h0_2>>=fun x5 =>
   if x5 then
    Qaj true h0_0 h0_1 h0_2>>=fun x6 =>
    some ((Qab.mk 3 [] [] 1 [] [] []),x6.2.1,x6.2.2)
   else
    Qbl [102,97,108,115,101] h0_0 h0_1 h0_2>>=fun x7 =>
    if x7 then
     Qaj true h0_0 h0_1 h0_2>>=fun x8 =>
     some ((Qab.mk 3 [] [] 0 [] [] []),x8.2.1,x8.2.2)
    else
     Qbl [115,101,99,114,101,116] h0_0 h0_1 h0_2>>=fun x9 =>
     if x9 then
      Qaj true h0_0 h0_1 h0_2>>=fun x10 =>
      Qap 8 h0_0 x10.2.1 x10.2.2>>=fun x11 =>
      Qaj x11 h0_0 x10.2.1 x10.2.2>>=fun x12 =>
      ( Qap 5 h0_0 x12.2.1 x12.2.2>>=fun x14 =>
       if x14 then
        idx h0_0 x12.2.1>>=fun x15 =>
        Qkw x15.Text>>=fun x16 =>
        Qaj x16 h0_0 x12.2.1 x12.2.2>>=fun x17 =>
        some (x17.2.1,x17.2.2,x17.1.Kind,x17.1.Text,x17.1.N,x17.1.From,x17.1.To)
       else
        Qaj false h0_0 x12.2.1 x12.2.2>>=fun x18 =>
        some (x18.2.1,x18.2.2,x18.1.Kind,x18.1.Text,x18.1.N,x18.1.From,x18.1.To):Option ((Int×Bool×Int×(List UInt8)×Int×Int×Int)))>>=fun o13 =>
      Qap 9 h0_0 o13.1 o13.2.1>>=fun x19 =>
      Qaj x19 h0_0 o13.1 o13.2.1>>=fun x20 =>
      some ((Qab.mk 7 o13.2.2.2.1 [] 0 [] [] []),x20.2.1,x20.2.2)
     else
      Qc1 h0_0 h0_1 h0_2>>=fun x21 =>
      Qap 8 h0_0 x21.2.1 x21.2.2>>=fun x22 =>
      if(!x22) then
       some ((Qab.mk 4 x21.1 [] 0 [] [] []),x21.2.1,x21.2.2)
      else
       Qaj true h0_0 x21.2.1 x21.2.2>>=fun x23 =>
       Qap 9 h0_0 x23.2.1 x23.2.2>>=fun x24 =>
       if x24 then
        Qaj true h0_0 x23.2.1 x23.2.2>>=fun x25 =>
        some ((Qab.mk 6 x21.1 [] 0 [] [] []),x25.2.1,x25.2.2)
       else
        (Qaq h0_0 x21 0 x23.2.1 x23.2.2 [])>>=fun o26 =>
        Qap 9 h0_0 o26.1 o26.2.1>>=fun x33 =>
        Qaj x33 h0_0 o26.1 o26.2.1>>=fun x34 =>
        some ((Qab.mk 6 x21.1 [] 0 o26.2.2 [] []),x34.2.1,x34.2.2)
 partial_fixpoint
def Qaq (h0_0:(List Qaa)) (x21:(List UInt8)×Int×Bool) (v5:Int) (h0_1_:Int) (h0_2_:Bool) (h2_4:(List Qab)):Option ((Int×Bool×(List Qab))) :=
 ( if(decide (v5<3)) then
   some (!h0_2_)
  else
   some false:Option (Bool))>>=fun o27 =>
 if o27 then
  Qay h0_0 h0_1_ h0_2_>>=fun x28 =>
  appL 120 h2_4 [x28.1]>>=fun x29 =>
  Qap 9 h0_0 x28.2.1 x28.2.2>>=fun x30 =>
  if x30 then
   some (x28.2.1,x28.2.2,x29)
  else
   if(decide (v5<2)) then
    Qap 10 h0_0 x28.2.1 x28.2.2>>=fun x31 =>
    Qaj x31 h0_0 x28.2.1 x28.2.2>>=fun x32 =>
    Qaq h0_0 x21 (wr (v5+1)) x32.2.1 x32.2.2 x29
   else
    Qaq h0_0 x21 (wr (v5+1)) x28.2.1 x28.2.2 x29
 else
  some (h0_1_,h0_2_,h2_4)
 partial_fixpoint
end
theorem Qu2:∀ (h0_0:(List Qaa)),(∀ (h0_1:Int) (h0_2:Bool) (o:Qab×Int×Bool),Qay h0_0 h0_1 h0_2=some o→CallOK Tryz.prog 67 [.ptr 0 0] ⟨[[.p (.sl false (h0_0.map Qad)),.p (iV h0_1),.p (bV h0_2)]],[]⟩ (Qkc o) ⟨[[.p (.sl false (h0_0.map Qad)),.p (iV o.2.1),.p (bV o.2.2)]],[]⟩)∧(∀ (h0_1:Int) (h0_2:Bool) (o:Qab×Int×Bool),Qdr h0_0 h0_1 h0_2=some o→CallOK Tryz.prog 95 [.ptr 0 0] ⟨[[.p (.sl false (h0_0.map Qad)),.p (iV h0_1),.p (bV h0_2)]],[]⟩ (Qb8 o) ⟨[[.p (.sl false (h0_0.map Qad)),.p (iV o.2.1),.p (bV o.2.2)]],[]⟩)∧(∀ (x21:(List UInt8)×Int×Bool) (v5:Int) (h0_1_:Int) (h0_2_:Bool) (h2_4:(List Qab)) (o26:(Int×Bool×(List Qab))),Qaq h0_0 x21 v5 h0_1_ h0_2_ h2_4=some o26→TL (1,0) Tryz.prog 107 Qr6 (JP1 (1,0) 107 o26 (.exit 0) (Qj0 h0_0 x21)) (Qd3 h0_0 x21 v5 h0_1_ h0_2_ h2_4)):=by
 intro h0_0;refine Qay.mutual_partial_correctness h0_0 _ _ _ ?_ ?_ ?_
 ·intro Qdr' iQdr h0_1 h0_2 o h;refine CallOK.ofB mixed tbOk Qn1 Tryz.func67 rfl (by kernel_rfl) (Nat.le_of_ble_eq_true rfl) rfl rfl rfl ?_;refine Qah _ _ h (fun x1 hy=>((iQdr h0_1 h0_2 x1 hy).fr [0] [] rfl rfl rfl)) (fun x1 hy h=>?_);refine Qag h (fun o2 ho hk=>?_);refine Exists.intro (JP1 _ _ o2 (.exit 0) (Qgt h0_0)) (And.intro (Qo0 (τ := Qed h0_0 x1.2.1 x1.2.2 x1.1.Kind x1.1.Name x1.1.Text x1.1.N x1.1.L x1.1.Then x1.1.Else) ?_ (TL.loop (Qsg h0_0 x1.2.1 x1.2.2 x1.1.Kind x1.1.Name x1.1.Text x1.1.N x1.1.L x1.1.Then x1.1.Else o2 ho))) (Qa7 ?_))
  ·exact Le.tz 3 0 rfl rfl rfl
  have h:=hk;refine Exists.intro _ (And.intro (Le.refl _ _ _) ?_);exact Qbe (t:=Qkc) (ss:=fun o=>⟨[[.p (.sl false (h0_0.map Qad)),.p (iV o.2.1),.p (bV o.2.2)]],[]⟩) h ⟨[],rfl,.refl _,.refl _,rfl⟩
 ·intro Qaq' iQaq h0_1 h0_2 o h;refine CallOK.ofB mixed tbOk Qm2 Tryz.func95 rfl (by kernel_rfl) (Nat.le_of_ble_eq_true rfl) rfl rfl rfl ?_;refine Qah _ _ h (fun x1 hy=>((Qas 5 h0_0 h0_1 h0_2 x1 hy).fr [0] [] rfl rfl rfl)) (fun x1 hy h=>?_);refine Qaf h (fun hb h=>?_) (fun hb h=>?_)
  ·refine Qah _ _ h (fun x2 hy=>((Qal true h0_0 h0_1 h0_2 x2 hy).fr [0] [] rfl rfl rfl)) (fun x2 hy h=>?_);refine Exists.intro _ (And.intro (Le.refl _ _ _) ?_);exact Qbe (t:=Qb8) (ss:=fun o=>⟨[[.p (.sl false (h0_0.map Qad)),.p (iV o.2.1),.p (bV o.2.2)]],[]⟩) h ⟨[],rfl,.p (.agg' (.cons (.refl _) (.cons (.refl _) (.cons (.refl _) (.cons (.refl _) (.cons (.not) (.cons (.not) (.cons (.not) (.nil))))))))),.refl _,rfl⟩
  ·refine Qah _ _ h (fun x3 hy=>((Qas 6 h0_0 h0_1 h0_2 x3 hy).fr [0] [] rfl rfl rfl)) (fun x3 hy h=>?_);refine Qaf h (fun hb h=>?_) (fun hb h=>?_)
   ·refine Qah _ _ h (fun x4 hy=>((Qal true h0_0 h0_1 h0_2 x4 hy).fr [0] [] rfl rfl rfl)) (fun x4 hy h=>?_);refine Exists.intro _ (And.intro (Le.refl _ _ _) ?_);exact Qbe (t:=Qb8) (ss:=fun o=>⟨[[.p (.sl false (h0_0.map Qad)),.p (iV o.2.1),.p (bV o.2.2)]],[]⟩) h ⟨[],rfl,.p (.agg' (.cons (.refl _) (.cons (.refl _) (.cons (.refl _) (.cons (.refl _) (.cons (.not) (.cons (.not) (.cons (.not) (.nil))))))))),.refl _,rfl⟩
   ·refine Qah _ _ h (fun x5 hy=>((Qbt [116,114,117,101] h0_0 h0_1 h0_2 x5 hy).fr [0] [] rfl rfl rfl)) (fun x5 hy h=>?_);refine Qaf h (fun hb h=>?_) (fun hb h=>?_)
    ·refine Qah _ _ h (fun x6 hy=>((Qal true h0_0 h0_1 h0_2 x6 hy).fr [0] [] rfl rfl rfl)) (fun x6 hy h=>?_);refine Exists.intro _ (And.intro (Le.refl _ _ _) ?_);exact Qbe (t:=Qb8) (ss:=fun o=>⟨[[.p (.sl false (h0_0.map Qad)),.p (iV o.2.1),.p (bV o.2.2)]],[]⟩) h ⟨[],rfl,.p (.agg' (.cons (.refl _) (.cons (.refl _) (.cons (.refl _) (.cons (.refl _) (.cons (.not) (.cons (.not) (.cons (.not) (.nil))))))))),.refl _,rfl⟩
    ·refine Qah _ _ h (fun x7 hy=>((Qbt [102,97,108,115,101] h0_0 h0_1 h0_2 x7 hy).fr [0] [] rfl rfl rfl)) (fun x7 hy h=>?_);refine Qaf h (fun hb h=>?_) (fun hb h=>?_)
     ·refine Qah _ _ h (fun x8 hy=>((Qal true h0_0 h0_1 h0_2 x8 hy).fr [0] [] rfl rfl rfl)) (fun x8 hy h=>?_);refine Exists.intro _ (And.intro (Le.refl _ _ _) ?_);exact Qbe (t:=Qb8) (ss:=fun o=>⟨[[.p (.sl false (h0_0.map Qad)),.p (iV o.2.1),.p (bV o.2.2)]],[]⟩) h ⟨[],rfl,.p (.agg' (.cons (.refl _) (.cons (.refl _) (.cons (.refl _) (.cons (.refl _) (.cons (.not) (.cons (.not) (.cons (.not) (.nil))))))))),.refl _,rfl⟩
     ·refine Qah _ _ h (fun x9 hy=>((Qbt [115,101,99,114,101,116] h0_0 h0_1 h0_2 x9 hy).fr [0] [] rfl rfl rfl)) (fun x9 hy h=>?_);refine Qaf h (fun hb h=>?_) (fun hb h=>?_)
      ·refine Qah _ _ h (fun x10 hy=>((Qal true h0_0 h0_1 h0_2 x10 hy).fr [0] [] rfl rfl rfl)) (fun x10 hy h=>?_);refine Qah _ _ h (fun x11 hy=>((Qas 8 h0_0 x10.2.1 x10.2.2 x11 hy).fr [0] [] rfl rfl rfl)) (fun x11 hy h=>?_);refine Qah _ _ h (fun x12 hy=>((Qal x11 h0_0 x10.2.1 x10.2.2 x12 hy).fr [0] [] rfl rfl rfl)) (fun x12 hy h=>?_);refine Qag h (fun o13 ho hk=>?_);refine Exists.intro (JP1 _ _ o13 .normal (Qr4 h0_0)) (And.intro ?_ (Qa7 ?_))
       ·have h:=ho;refine And.intro (by decide +kernel) (And.intro rfl ?_);refine Qvq (fun x14=>(Qdx x14).ren [0] []) h (fun x14 hy=>(Qas 5 h0_0 x12.2.1 x12.2.2 x14 hy).fd rfl rfl [0] rfl rfl) (fun x14 hy h=>?_);refine Qaf h (fun hb h=>?_) (fun hb h=>?_)
        ·refine Qcy (l:=h0_0) (c:=Qad) (c' := Qad) h (fun _=>rfl) (fun _=>rfl) (by decide) (fun x15 hi h=>?_);refine Qdf [sV x15.Text] Qg9 h (fun x16 hy=>(Qnc x15.Text x16 hy)) (fun x16 hy h=>?_);refine Qnv _ _ h (fun x17 hy=>((Qal x16 h0_0 x12.2.1 x12.2.2 x17 hy).fg [0] [] rfl rfl rfl (Nat.le_of_ble_eq_true rfl))) (fun x17 hy h=>?_);refine JP1.a h ?_;exact Le.tz 3 0 rfl rfl rfl
        ·refine Qnv _ _ h (fun x18 hy=>((Qal false h0_0 x12.2.1 x12.2.2 x18 hy).fg [0] [] rfl rfl rfl (Nat.le_of_ble_eq_true rfl))) (fun x18 hy h=>?_);refine JP1.a h ?_;exact Le.tz 3 0 rfl rfl rfl
       ·have h:=hk;refine Qah _ _ h (fun x19 hy=>((Qas 9 h0_0 o13.1 o13.2.1 x19 hy).fr [0] [] rfl rfl rfl)) (fun x19 hy h=>?_);refine Qah _ _ h (fun x20 hy=>((Qal x19 h0_0 o13.1 o13.2.1 x20 hy).fr [0] [] rfl rfl rfl)) (fun x20 hy h=>?_);refine Exists.intro _ (And.intro (Le.refl _ _ _) ?_);exact Qbe (t:=Qb8) (ss:=fun o=>⟨[[.p (.sl false (h0_0.map Qad)),.p (iV o.2.1),.p (bV o.2.2)]],[]⟩) h ⟨[],rfl,.p (.agg' (.cons (.refl _) (.cons (.refl _) (.cons (.refl _) (.cons (.refl _) (.cons (.not) (.cons (.not) (.cons (.not) (.nil))))))))),.refl _,rfl⟩
      ·refine Qah _ _ h (fun x21 hy=>((Qjo h0_0 h0_1 h0_2 x21 hy).fr [0] [] rfl rfl rfl)) (fun x21 hy h=>?_);refine Qah _ _ h (fun x22 hy=>((Qas 8 h0_0 x21.2.1 x21.2.2 x22 hy).fr [0] [] rfl rfl rfl)) (fun x22 hy h=>?_);refine Qaf h (fun hb h=>?_) (fun hb h=>?_)
       ·refine Exists.intro _ (And.intro (Le.refl _ _ _) ?_);exact Qbe (t:=Qb8) (ss:=fun o=>⟨[[.p (.sl false (h0_0.map Qad)),.p (iV o.2.1),.p (bV o.2.2)]],[]⟩) h ⟨[],rfl,.p (.agg' (.cons (.refl _) (.cons (.refl _) (.cons (.refl _) (.cons (.refl _) (.cons (.not) (.cons (.not) (.cons (.not) (.nil))))))))),.refl _,rfl⟩
       ·refine Qah _ _ h (fun x23 hy=>((Qal true h0_0 x21.2.1 x21.2.2 x23 hy).fr [0] [] rfl rfl rfl)) (fun x23 hy h=>?_);refine Qah _ _ h (fun x24 hy=>((Qas 9 h0_0 x23.2.1 x23.2.2 x24 hy).fr [0] [] rfl rfl rfl)) (fun x24 hy h=>?_);refine Qaf h (fun hb h=>?_) (fun hb h=>?_)
        ·refine Qah _ _ h (fun x25 hy=>((Qal true h0_0 x23.2.1 x23.2.2 x25 hy).fr [0] [] rfl rfl rfl)) (fun x25 hy h=>?_);refine Exists.intro _ (And.intro (Le.refl _ _ _) ?_);exact Qbe (t:=Qb8) (ss:=fun o=>⟨[[.p (.sl false (h0_0.map Qad)),.p (iV o.2.1),.p (bV o.2.2)]],[]⟩) h ⟨[],rfl,.p (.agg' (.cons (.refl _) (.cons (.refl _) (.cons (.refl _) (.cons (.refl _) (.cons (.not) (.cons (.not) (.cons (.not) (.nil))))))))),.refl _,rfl⟩
        ·refine Qag h (fun o26 ho hk=>?_);refine Exists.intro (JP1 _ _ o26 (.exit 0) (Qj0 h0_0 x21)) (And.intro (Qo0 (τ := Qd3 h0_0 x21 0 x23.2.1 x23.2.2 []) ?_ (TL.loop (iQaq x21 0 x23.2.1 x23.2.2 [] o26 ho))) (Qa7 ?_))
         ·exact(Le.ownH 2 4 37 7 rfl rfl Q0c).trans (Le.tz 3 1 rfl rfl rfl)
         have h:=hk;refine Qah _ _ h (fun x33 hy=>((Qas 9 h0_0 o26.1 o26.2.1 x33 hy).fr [0] [] rfl rfl rfl)) (fun x33 hy h=>?_);refine Qah _ _ h (fun x34 hy=>((Qal x33 h0_0 o26.1 o26.2.1 x34 hy).fr [0] [] rfl rfl rfl)) (fun x34 hy h=>?_);refine Exists.intro _ (And.intro (Le.refl _ _ _) ?_);exact Qbe (t:=Qb8) (ss:=fun o=>⟨[[.p (.sl false (h0_0.map Qad)),.p (iV o.2.1),.p (bV o.2.2)]],[]⟩) h ⟨[],rfl,.p (.agg' (.cons (.refl _) (.cons (.refl _) (.cons (.refl _) (.cons (.refl _) (.cons (.refl _) (.cons (.not) (.cons (.not) (.nil))))))))),.refl _,rfl⟩
 ·intro Qay' Qaq' iQay iQaq x21 v5 h0_1_ h0_2_ h2_4 o26 h;refine TL.round (Qan mixed tbOk (lv:=Qm2) _ _ _ ?_);refine Qag h (fun o27 ho hk=>?_);refine Exists.intro (JP1 _ _ o27 .normal (Qr5 h0_0 x21 v5 h0_1_ h0_2_ h2_4)) (And.intro ?_ (Qa7 ?_))
  ·have h:=ho;refine Qaf h (fun hb h=>?_) (fun hb h=>?_)
   ·refine JP1.a h ?_;exact Le.tz 3 1 rfl rfl rfl
   ·refine JP1.a h ?_;exact Le.tz 3 1 rfl rfl rfl
  ·have h:=hk;refine Qaf h (fun hb h=>?_) (fun hb h=>?_)
   ·refine And.intro (by decide +kernel) (And.intro rfl ?_);refine Qnv _ _ h (fun x28 hy=>((iQay h0_1_ h0_2_ x28 hy).fg [0] [] rfl rfl rfl (Nat.le_of_ble_eq_true rfl))) (fun x28 hy h=>?_);refine Qri (a:=h2_4) (b:=[x28.1]) (c:=Qae) h (.cons (.ceq (Qai _) (.refl _)) (.nil)) (fun x=>by rw[Qai]; rfl) rfl (fun x29 hi h=>?_);refine Qah _ _ h (fun x30 hy=>((Qas 9 h0_0 x28.2.1 x28.2.2 x30 hy).fr [0] [] rfl rfl rfl)) (fun x30 hy h=>?_);refine Qaf h (fun hb h=>?_) (fun hb h=>?_)
    ·exact JP1.a h (Le.tz 3 1 rfl rfl rfl)
    ·refine Qaf h (fun hb h=>?_) (fun hb h=>?_)
     ·refine Qah _ _ h (fun x31 hy=>((Qas 10 h0_0 x28.2.1 x28.2.2 x31 hy).fr [0] [] rfl rfl rfl)) (fun x31 hy h=>?_);refine Qah _ _ h (fun x32 hy=>((Qal x31 h0_0 x28.2.1 x28.2.2 x32 hy).fr [0] [] rfl rfl rfl)) (fun x32 hy h=>?_);refine TL.le (τ := Qd3 h0_0 x21 (wr (v5+1)) x32.2.1 x32.2.2 x29) ?_ ((iQaq x21 (wr (v5+1)) x32.2.1 x32.2.2 x29 _ h));exact Le.tz 3 1 rfl rfl rfl
     ·refine TL.le (τ := Qd3 h0_0 x21 (wr (v5+1)) x28.2.1 x28.2.2 x29) ?_ ((iQaq x21 (wr (v5+1)) x28.2.1 x28.2.2 x29 _ h));exact Le.tz 3 1 rfl rfl rfl
   ·exact JP1.a h (Le.tz 3 1 rfl rfl rfl)
def Qjp:=fun h0_0 h0_1 h0_2=>(Qu2 h0_0).1 h0_1 h0_2
def Qba (h0_0:(List Qaa)) (h0_1:Int) (h0_2:Bool):Option (Int×Bool) :=
 Qap 3 h0_0 h0_1 h0_2>>=fun x1 =>
 Qaj x1 h0_0 h0_1 h0_2>>=fun x2 =>
 some (x2.2.1,x2.2.2)
theorem Qfr:∀ (h0_0:(List Qaa)) (h0_1:Int) (h0_2:Bool) (o:Int×Bool),Qba h0_0 h0_1 h0_2=some o→CallOK Tryz.prog 68 [.ptr 0 0] ⟨[[.p (.sl false (h0_0.map Qad)),.p (iV h0_1),.p (bV h0_2)]],[]⟩ (Qn2 o) ⟨[[.p (.sl false (h0_0.map Qad)),.p (iV o.1),.p (bV o.2)]],[]⟩:=by
 intro h0_0 h0_1 h0_2 o h;unfold Qba at h;refine CallOK.ofB mixed tbOk Quy Tryz.func68 rfl (by kernel_rfl) (Nat.le_of_ble_eq_true rfl) rfl rfl rfl ?_;refine Qah _ _ h (fun x1 hy=>((Qas 3 h0_0 h0_1 h0_2 x1 hy).fr [0] [] rfl rfl rfl)) (fun x1 hy h=>?_);refine Qah _ _ h (fun x2 hy=>((Qal x1 h0_0 h0_1 h0_2 x2 hy).fr [0] [] rfl rfl rfl)) (fun x2 hy h=>?_);refine Exists.intro _ (And.intro (Le.refl _ _ _) ?_);exact Qbe (t:=Qn2) (ss:=fun o=>⟨[[.p (.sl false (h0_0.map Qad)),.p (iV o.1),.p (bV o.2)]],[]⟩) h ⟨[],rfl,.refl _,.refl _,rfl⟩
def Qcn (p1:(List UInt8)) (h0_0:(List Qaa)) (h0_1:Int) (h0_2:Bool):Option (Int×Bool) :=
 Qap 2 h0_0 h0_1 h0_2>>=fun x1 =>
 Qaj x1 h0_0 h0_1 h0_2>>=fun x2 =>
 Qbl p1 h0_0 x2.2.1 x2.2.2>>=fun x3 =>
 Qaj x3 h0_0 x2.2.1 x2.2.2>>=fun x4 =>
 Qba h0_0 x4.2.1 x4.2.2>>=fun x5 =>
 some (x5.1,x5.2)
theorem Qki:∀ (p1:(List UInt8)) (h0_0:(List Qaa)) (h0_1:Int) (h0_2:Bool) (o:Int×Bool),Qcn p1 h0_0 h0_1 h0_2=some o→CallOK Tryz.prog 69 [.ptr 0 0,.p (sV p1)] ⟨[[.p (.sl false (h0_0.map Qad)),.p (iV h0_1),.p (bV h0_2)]],[]⟩ (Qqo o) ⟨[[.p (.sl false (h0_0.map Qad)),.p (iV o.1),.p (bV o.2)]],[]⟩:=by
 intro p1 h0_0 h0_1 h0_2 o h;unfold Qcn at h;refine CallOK.ofB mixed tbOk Qxa Tryz.func69 rfl (by kernel_rfl) (Nat.le_of_ble_eq_true rfl) rfl rfl rfl ?_;refine Qah _ _ h (fun x1 hy=>((Qas 2 h0_0 h0_1 h0_2 x1 hy).fr [0] [] rfl rfl rfl)) (fun x1 hy h=>?_);refine Qah _ _ h (fun x2 hy=>((Qal x1 h0_0 h0_1 h0_2 x2 hy).fr [0] [] rfl rfl rfl)) (fun x2 hy h=>?_);refine Qah _ _ h (fun x3 hy=>((Qbt p1 h0_0 x2.2.1 x2.2.2 x3 hy).fr [0] [] rfl rfl rfl)) (fun x3 hy h=>?_);refine Qah _ _ h (fun x4 hy=>((Qal x3 h0_0 x2.2.1 x2.2.2 x4 hy).fr [0] [] rfl rfl rfl)) (fun x4 hy h=>?_);refine Qah _ _ h (fun x5 hy=>((Qfr h0_0 x4.2.1 x4.2.2 x5 hy).fr [0] [] rfl rfl rfl)) (fun x5 hy h=>?_);refine Exists.intro _ (And.intro (Le.refl _ _ _) ?_);exact Qbe (t:=Qqo) (ss:=fun o=>⟨[[.p (.sl false (h0_0.map Qad)),.p (iV o.1),.p (bV o.2)]],[]⟩) h ⟨[],rfl,.refl _,.refl _,rfl⟩
mutual
def Qav (p1:Bool) (p2:Bool) (h0_0:(List Qaa)) (h0_1:Int) (h0_2:Bool):Option ((List Qab)×Int×Bool) :=
 (Qbb p1 p2 h0_0 [] h0_1 h0_2)>>=fun o1 =>
 match o1 with
 | .inl y2 =>
  some (y2.1,y2.2.1,y2.2.2)
 | .inr y3 =>
  some (y3.1,y3.2.1,y3.2.2)
 partial_fixpoint
def Qbb (p1:Bool) (p2:Bool) (h0_0:(List Qaa)) (v7:(List Qab)) (h0_1_:Int) (h0_2_:Bool):Option (((List Qab)×Int×Bool)⊕((List Qab)×Int×Bool)) :=
 ( if(!h0_2_) then
   some (decide (h0_1_<(h0_0.length:Int)))
  else
   some false:Option (Bool))>>=fun o4 =>
 if o4 then
  Qap 1 h0_0 h0_1_ h0_2_>>=fun x5 =>
  if x5 then
   Qaj true h0_0 h0_1_ h0_2_>>=fun x6 =>
   ( if(decide ((wr ((v7.length:Int)-1)) ≥ 0)) then
     idx v7 (wr ((v7.length:Int)-1))>>=fun x8 =>
     some (x8.Kind==8)
    else
     some false:Option (Bool))>>=fun o7 =>
   if o7 then
    idx v7 (wr ((v7.length:Int)-1))>>=fun x9 =>
    need (x9.Text.length+x6.1.Text.length≤9223372036854775807)>>=fun _ =>
    idx v7 (wr ((v7.length:Int)-1))>>=fun x10 =>
    Qbb p1 p2 h0_0 (v7.set ((wr ((v7.length:Int)-1)).toNat) (Qab.mk x10.Kind x10.Name (x9.Text++x6.1.Text) x10.N x10.L x10.Then x10.Else)) x6.2.1 x6.2.2
   else
    appL 120 v7 ([(Qab.mk 8 [] x6.1.Text 0 [] [] [])])>>=fun x11 =>
    Qbb p1 p2 h0_0 x11 x6.2.1 x6.2.2
  else
   ( if p1 then
     Qby [101,110,100] h0_0 h0_1_ h0_2_>>=fun x13 =>
     if x13 then
      some true
     else
      if p2 then
       Qby [101,108,115,101] h0_0 h0_1_ h0_2_>>=fun x14 =>
       some x14
      else
       some false
    else
     if p2 then
      Qby [101,108,115,101] h0_0 h0_1_ h0_2_>>=fun x15 =>
      some x15
     else
      some false:Option (Bool))>>=fun o12 =>
   if o12 then
    some (.inr (v7,h0_1_,h0_2_))
   else
    Qap 2 h0_0 h0_1_ h0_2_>>=fun x16 =>
    Qaj x16 h0_0 h0_1_ h0_2_>>=fun x17 =>
    Qap 3 h0_0 x17.2.1 x17.2.2>>=fun x18 =>
    if x18 then
     Qaj true h0_0 x17.2.1 x17.2.2>>=fun x19 =>
     Qbb p1 p2 h0_0 v7 x19.2.1 x19.2.2
    else
     Qde h0_0 x17.2.1 x17.2.2>>=fun x20 =>
     appL 120 v7 [x20.1]>>=fun x21 =>
     Qbb p1 p2 h0_0 x21 x20.2.1 x20.2.2
 else
  some (.inl (v7,h0_1_,h0_2_))
 partial_fixpoint
def Qde (h0_0:(List Qaa)) (h0_1:Int) (h0_2:Bool):Option (Qab×Int×Bool) :=
 Qbl [105,102] h0_0 h0_1 h0_2>>=fun x1 =>
 if x1 then
  Qaj true h0_0 h0_1 h0_2>>=fun x2 =>
  Qay h0_0 x2.2.1 x2.2.2>>=fun x3 =>
  Qba h0_0 x3.2.1 x3.2.2>>=fun x4 =>
  Qav true true h0_0 x4.1 x4.2>>=fun x5 =>
  ( Qby [101,108,115,101] h0_0 x5.2.1 x5.2.2>>=fun x7 =>
   if x7 then
    Qcn [101,108,115,101] h0_0 x5.2.1 x5.2.2>>=fun x8 =>
    Qav true false h0_0 x8.1 x8.2>>=fun x9 =>
    some (x9.2.1,x9.2.2,x9.1)
   else
    some (x5.2.1,x5.2.2,[]):Option ((Int×Bool×(List Qab))))>>=fun o6 =>
  Qcn [101,110,100] h0_0 o6.1 o6.2.1>>=fun x10 =>
  some ((Qab.mk 10 [] [] 0 [x3.1] x5.1 o6.2.2),x10.1,x10.2)
 else
  ( Qbl [101,97,99,104] h0_0 h0_1 h0_2>>=fun x12 =>
   if x12 then
    some true
   else
    Qbl [108,101,116] h0_0 h0_1 h0_2>>=fun x13 =>
    some x13:Option (Bool))>>=fun o11 =>
  if o11 then
   ( Qbl [108,101,116] h0_0 h0_1 h0_2>>=fun x15 =>
    if x15 then
     some 12
    else
     some 11:Option (Int))>>=fun o14 =>
   Qaj true h0_0 h0_1 h0_2>>=fun x16 =>
   Qc1 h0_0 x16.2.1 x16.2.2>>=fun x17 =>
   ( if(o14==11) then
     Qbl [105,110] h0_0 x17.2.1 x17.2.2>>=fun x19 =>
     Qaj x19 h0_0 x17.2.1 x17.2.2>>=fun x20 =>
     some (x20.2.1,x20.2.2)
    else
     Qap 11 h0_0 x17.2.1 x17.2.2>>=fun x21 =>
     Qaj x21 h0_0 x17.2.1 x17.2.2>>=fun x22 =>
     some (x22.2.1,x22.2.2):Option ((Int×Bool)))>>=fun o18 =>
   Qay h0_0 o18.1 o18.2>>=fun x23 =>
   Qba h0_0 x23.2.1 x23.2.2>>=fun x24 =>
   Qav true false h0_0 x24.1 x24.2>>=fun x25 =>
   Qcn [101,110,100] h0_0 x25.2.1 x25.2.2>>=fun x26 =>
   some ((Qab.mk o14 x17.1 [] 0 [x23.1] x25.1 []),x26.1,x26.2)
  else
   ( Qbl [117,115,101] h0_0 h0_1 h0_2>>=fun x28 =>
    if x28 then
     Qaj true h0_0 h0_1 h0_2>>=fun x29 =>
     Qc1 h0_0 x29.2.1 x29.2.2>>=fun x30 =>
     some (x30.2.1,x30.2.2,13,x30.1)
    else
     some (h0_1,h0_2,9,[]):Option ((Int×Bool×Int×(List UInt8))))>>=fun o27 =>
   Qay h0_0 o27.1 o27.2.1>>=fun x31 =>
   Qba h0_0 x31.2.1 x31.2.2>>=fun x32 =>
   some ((Qab.mk o27.2.2.1 o27.2.2.2 [] 0 [x31.1] [] []),x32.1,x32.2)
 partial_fixpoint
end
theorem Qt3:∀ (h0_0:(List Qaa)),(∀ (p1:Bool) (p2:Bool) (h0_1:Int) (h0_2:Bool) (o:(List Qab)×Int×Bool),Qav p1 p2 h0_0 h0_1 h0_2=some o→CallOK Tryz.prog 21 [.ptr 0 0,.p (bV p1),.p (bV p2)] ⟨[[.p (.sl false (h0_0.map Qad)),.p (iV h0_1),.p (bV h0_2)]],[]⟩ (Qge o) ⟨[[.p (.sl false (h0_0.map Qad)),.p (iV o.2.1),.p (bV o.2.2)]],[]⟩)∧(∀ (p1:Bool) (p2:Bool) (v7:(List Qab)) (h0_1_:Int) (h0_2_:Bool) (o1:((List Qab)×Int×Bool)⊕((List Qab)×Int×Bool)),Qbb p1 p2 h0_0 v7 h0_1_ h0_2_=some o1→TL (1,0) Tryz.prog 89 Qr3 (JP2 (1,0) 89 o1 (.exit 0) (Qjy p1 p2 h0_0) .ret (Qjz p1 p2 h0_0)) (Qcl p1 p2 h0_0 v7 h0_1_ h0_2_))∧(∀ (h0_1:Int) (h0_2:Bool) (o:Qab×Int×Bool),Qde h0_0 h0_1 h0_2=some o→CallOK Tryz.prog 45 [.ptr 0 0] ⟨[[.p (.sl false (h0_0.map Qad)),.p (iV h0_1),.p (bV h0_2)]],[]⟩ (Qfi o) ⟨[[.p (.sl false (h0_0.map Qad)),.p (iV o.2.1),.p (bV o.2.2)]],[]⟩):=by
 intro h0_0;refine Qav.mutual_partial_correctness h0_0 _ _ _ ?_ ?_ ?_
 ·intro Qbb' iQbb p1 p2 h0_1 h0_2 o h;refine CallOK.ofB mixed tbOk Qm1 Tryz.func21 rfl (by kernel_rfl) (Nat.le_of_ble_eq_true rfl) rfl rfl rfl ?_;refine Qag h (fun o1 ho hk=>?_);refine Exists.intro (JP2 _ _ o1 (.exit 0) (Qjy p1 p2 h0_0) .ret (Qjz p1 p2 h0_0)) (And.intro (Qo0 (τ := Qcl p1 p2 h0_0 [] h0_1 h0_2) ?_ (TL.loop (iQbb p1 p2 [] h0_1 h0_2 o1 ho))) (Qmu (fun y2 hy=>?_) (fun y3 hy=>?_)))
  ·exact Le.trans (τ := ⟨[(0,.ptr 0 0),(1,.p (bV p1)),(2,.p (bV p2)),(7,.p (.sl true []))],⟨[[.p (.sl false (h0_0.map Qad)),.p (iV h0_1),.p (bV h0_2)]],[]⟩⟩) (Le.tz 1 0 rfl rfl rfl) ((Le.xnil (.s 7) 37 7 rfl).trans (Le.tz 1 1 rfl rfl rfl))
  ·have h:=(by rw[hy] at hk; exact hk);refine Exists.intro _ (And.intro (Le.frzv (.s 7) 0 1 rfl rfl rfl rfl) ?_);refine Exists.intro _ (And.intro (Le.refl _ _ _) ?_);exact Qbe (t:=Qge) (ss:=fun o=>⟨[[.p (.sl false (h0_0.map Qad)),.p (iV o.2.1),.p (bV o.2.2)]],[]⟩) h ⟨[],rfl,.refl _,.refl _,rfl⟩
  ·have h:=(by rw[hy] at hk; exact hk);refine Exists.intro _ (And.intro (Le.refl _ _ _) ?_);exact Qbe (t:=Qge) (ss:=fun o=>⟨[[.p (.sl false (h0_0.map Qad)),.p (iV o.2.1),.p (bV o.2.2)]],[]⟩) h ⟨[],rfl,.refl _,.refl _,rfl⟩
 ·intro Qbb' Qde' iQbb iQde p1 p2 v7 h0_1_ h0_2_ o1 h;refine TL.round (Qan mixed tbOk (lv:=Qm1) _ _ _ ?_);refine Qag h (fun o4 ho hk=>?_);refine Exists.intro (JP1 _ _ o4 .normal (Qr0 p1 p2 h0_0 v7 h0_1_ h0_2_)) (And.intro ?_ (Qa7 ?_))
  ·have h:=ho;refine And.intro (by decide +kernel) (And.intro rfl ?_);refine Qaf h (fun hb h=>?_) (fun hb h=>?_)
   ·refine view (Qaw _ _) rfl ?_;refine JP1.a h ?_;exact Le.tz 1 1 rfl rfl rfl
   ·refine JP1.a h ?_;exact Le.tz 1 1 rfl rfl rfl
  ·have h:=hk;refine Qaf h (fun hb h=>?_) (fun hb h=>?_)
   ·refine Qah _ _ h (fun x5 hy=>((Qas 1 h0_0 h0_1_ h0_2_ x5 hy).fr [0] [] rfl rfl rfl)) (fun x5 hy h=>?_);refine Qaf h (fun hb h=>?_) (fun hb h=>?_)
    ·refine Qah _ _ h (fun x6 hy=>((Qal true h0_0 h0_1_ h0_2_ x6 hy).fr [0] [] rfl rfl rfl)) (fun x6 hy h=>?_);refine And.intro rfl (Exists.intro _ (And.intro (List.length_map _) ?_));refine Qag h (fun o7 ho hk=>?_);refine Exists.intro (JP1 _ _ o7 .normal (Qr1 p1 p2 h0_0 v7 x6)) (And.intro ?_ (Qa7 ?_))
     ·have h:=ho;refine Qaf h (fun hb h=>?_) (fun hb h=>?_)
      ·refine Qw5 (l:=v7) (c:=Qae) (c' := Qa2) h rfl Qai (fun _=>rfl) (by decide) (fun x8 hi h=>?_);refine And.intro rfl ?_;refine And.intro rfl (And.intro (Nat.le_of_ble_eq_true rfl) ?_);refine JP1.a h ?_;exact Le.tz 1 1 rfl rfl rfl
      ·refine JP1.a h ?_;exact Le.tz 1 1 rfl rfl rfl
     ·have h:=hk;refine Qaf h (fun hb h=>?_) (fun hb h=>?_)
      ·refine Qw5 (l:=v7) (c:=Qae) (c' := Qa2) h rfl Qai (fun _=>rfl) (by decide) (fun x9 hi h=>?_);refine And.intro rfl ?_;refine And.intro rfl (And.intro (Nat.le_of_ble_eq_true rfl) ?_);refine Qbc h (fun h=>?_);refine Qw5 (l:=v7) (c:=Qae) (c' := Qa2) h rfl Qai (fun _=>rfl) (by decide) (fun x10 hi h=>?_);refine And.intro rfl ?_;refine And.intro rfl (And.intro (Nat.le_of_ble_eq_true rfl) (And.intro rfl (And.intro rfl (Exists.intro ((v7.set ((wr ((v7.length:Int)-1)).toNat) (Qab.mk x10.Kind x10.Name (x9.Text++x6.1.Text) x10.N x10.L x10.Then x10.Else)).map Qae) (And.intro (Qaj4 (.ceq (Qai _) (.refl _))) ?_)))));refine TL.le (τ := Qcl p1 p2 h0_0 (v7.set ((wr ((v7.length:Int)-1)).toNat) (Qab.mk x10.Kind x10.Name (x9.Text++x6.1.Text) x10.N x10.L x10.Then x10.Else)) x6.2.1 x6.2.2) ?_ ((iQbb p1 p2 (v7.set ((wr ((v7.length:Int)-1)).toNat) (Qab.mk x10.Kind x10.Name (x9.Text++x6.1.Text) x10.N x10.L x10.Then x10.Else)) x6.2.1 x6.2.2 _ h));exact Le.trans (τ := ⟨[(0,.ptr 0 0),(1,.p (bV p1)),(2,.p (bV p2)),(7,.x 0 2 (.sl 37 7 ((v7.set ((wr ((v7.length:Int)-1)).toNat) (Qab.mk x10.Kind x10.Name (x9.Text++x6.1.Text) x10.N x10.L x10.Then x10.Else)).map Qae)))],⟨[[.p (.sl false (h0_0.map Qad)),.p (iV x6.2.1),.p (bV x6.2.2)]],[2]⟩⟩) (Le.tz 1 1 rfl rfl rfl) ((Le.ver (.s 7) 0 2 1 rfl rfl rfl rfl).trans (Le.tz 1 1 rfl rfl rfl))
      ·refine Q4y (a:=v7) (b:=[(Qab.mk 8 [] x6.1.Text 0 [] [] [])]) (c:=Qae) h (.cons (.ceq (Qai _) (.cons (.refl _) (.cons (.refl _) (.cons (.refl _) (.cons (.refl _) (.cons (.not) (.cons (.not) (.cons (.not) (.nil))))))))) (.nil)) (fun x=>by rw[Qai]; rfl) rfl (fun x11 hi h=>?_);refine TL.le (τ := Qcl p1 p2 h0_0 x11 x6.2.1 x6.2.2) ?_ ((iQbb p1 p2 x11 x6.2.1 x6.2.2 _ h));exact Le.trans (τ := ⟨[(0,.ptr 0 0),(1,.p (bV p1)),(2,.p (bV p2)),(7,.x 0 2 (.sl 37 7 (x11.map Qae)))],⟨[[.p (.sl false (h0_0.map Qad)),.p (iV x6.2.1),.p (bV x6.2.2)]],[2]⟩⟩) (Le.tz 1 1 rfl rfl rfl) ((Le.ver (.s 7) 0 2 1 rfl rfl rfl rfl).trans (Le.tz 1 1 rfl rfl rfl))
    ·refine Qag h (fun o12 ho hk=>?_);refine Exists.intro (JP1 _ _ o12 .normal (Qr2 p1 p2 h0_0 v7 h0_1_ h0_2_)) (And.intro ?_ (Qa7 ?_))
     ·have h:=ho;refine Qaf h (fun hb h=>?_) (fun hb h=>?_)
      ·refine Qah _ _ h (fun x13 hy=>((Qfq [101,110,100] h0_0 h0_1_ h0_2_ x13 hy).fr [0] [] rfl rfl rfl)) (fun x13 hy h=>?_);refine Qaf h (fun hb h=>?_) (fun hb h=>?_)
       ·refine JP1.a h ?_;exact Le.tz 1 1 rfl rfl rfl
       ·refine Qaf h (fun hb h=>?_) (fun hb h=>?_)
        ·refine Qah _ _ h (fun x14 hy=>((Qfq [101,108,115,101] h0_0 h0_1_ h0_2_ x14 hy).fr [0] [] rfl rfl rfl)) (fun x14 hy h=>?_);refine JP1.a h ?_;exact Le.tz 1 1 rfl rfl rfl
        ·refine JP1.a h ?_;exact Le.tz 1 1 rfl rfl rfl
      ·refine bF ?_;refine Qaf h (fun hb h=>?_) (fun hb h=>?_)
       ·refine Qah _ _ h (fun x15 hy=>((Qfq [101,108,115,101] h0_0 h0_1_ h0_2_ x15 hy).fr [0] [] rfl rfl rfl)) (fun x15 hy h=>?_);refine JP1.a h ?_;exact Le.tz 1 1 rfl rfl rfl
       ·refine JP1.a h ?_;exact Le.tz 1 1 rfl rfl rfl
     ·have h:=hk;refine Qaf h (fun hb h=>?_) (fun hb h=>?_)
      ·refine Exists.intro _ (And.intro (Le.frzv (.s 7) 0 1 rfl rfl rfl rfl) ?_);exact JP2.b h (Le.tz 1 1 rfl rfl rfl)
      ·refine Qah _ _ h (fun x16 hy=>((Qas 2 h0_0 h0_1_ h0_2_ x16 hy).fr [0] [] rfl rfl rfl)) (fun x16 hy h=>?_);refine Qah _ _ h (fun x17 hy=>((Qal x16 h0_0 h0_1_ h0_2_ x17 hy).fr [0] [] rfl rfl rfl)) (fun x17 hy h=>?_);refine Qah _ _ h (fun x18 hy=>((Qas 3 h0_0 x17.2.1 x17.2.2 x18 hy).fr [0] [] rfl rfl rfl)) (fun x18 hy h=>?_);refine Qaf h (fun hb h=>?_) (fun hb h=>?_)
       ·refine Qah _ _ h (fun x19 hy=>((Qal true h0_0 x17.2.1 x17.2.2 x19 hy).fr [0] [] rfl rfl rfl)) (fun x19 hy h=>?_);refine TL.le (τ := Qcl p1 p2 h0_0 v7 x19.2.1 x19.2.2) ?_ ((iQbb p1 p2 v7 x19.2.1 x19.2.2 _ h));exact Le.tz 1 1 rfl rfl rfl
       ·refine Qah _ _ h (fun x20 hy=>((iQde x17.2.1 x17.2.2 x20 hy).fr [0] [] rfl rfl rfl)) (fun x20 hy h=>?_);refine Q4y (a:=v7) (b:=[x20.1]) (c:=Qae) h (.cons (.ceq (Qai _) (.refl _)) (.nil)) (fun x=>by rw[Qai]; rfl) rfl (fun x21 hi h=>?_);refine TL.le (τ := Qcl p1 p2 h0_0 x21 x20.2.1 x20.2.2) ?_ ((iQbb p1 p2 x21 x20.2.1 x20.2.2 _ h));exact Le.trans (τ := ⟨[(0,.ptr 0 0),(1,.p (bV p1)),(2,.p (bV p2)),(7,.x 0 2 (.sl 37 7 (x21.map Qae)))],⟨[[.p (.sl false (h0_0.map Qad)),.p (iV x20.2.1),.p (bV x20.2.2)]],[2]⟩⟩) (Le.tz 1 1 rfl rfl rfl) ((Le.ver (.s 7) 0 2 1 rfl rfl rfl rfl).trans (Le.tz 1 1 rfl rfl rfl))
   ·exact JP2.a h (Le.tz 1 1 rfl rfl rfl)
 ·intro Qav' iQav h0_1 h0_2 o h;refine CallOK.ofB mixed tbOk Qtq Tryz.func45 rfl (by kernel_rfl) (Nat.le_of_ble_eq_true rfl) rfl rfl rfl ?_;refine Qah _ _ h (fun x1 hy=>((Qbt [105,102] h0_0 h0_1 h0_2 x1 hy).fr [0] [] rfl rfl rfl)) (fun x1 hy h=>?_);refine Qaf h (fun hb h=>?_) (fun hb h=>?_)
  ·refine Qah _ _ h (fun x2 hy=>((Qal true h0_0 h0_1 h0_2 x2 hy).fr [0] [] rfl rfl rfl)) (fun x2 hy h=>?_);refine Qah _ _ h (fun x3 hy=>((Qjp h0_0 x2.2.1 x2.2.2 x3 hy).fr [0] [] rfl rfl rfl)) (fun x3 hy h=>?_);refine Qah _ _ h (fun x4 hy=>((Qfr h0_0 x3.2.1 x3.2.2 x4 hy).fr [0] [] rfl rfl rfl)) (fun x4 hy h=>?_);refine Qah _ _ h (fun x5 hy=>((iQav true true x4.1 x4.2 x5 hy).fr [0] [] rfl rfl rfl)) (fun x5 hy h=>?_);refine Qag h (fun o6 ho hk=>?_);refine Exists.intro (JP1 _ _ o6 .normal (Qqu h0_0 x3 x5)) (And.intro ?_ (Qa7 ?_))
   ·have h:=ho;refine Qah _ _ h (fun x7 hy=>((Qfq [101,108,115,101] h0_0 x5.2.1 x5.2.2 x7 hy).fr [0] [] rfl rfl rfl)) (fun x7 hy h=>?_);refine Qaf h (fun hb h=>?_) (fun hb h=>?_)
    ·refine Qah _ _ h (fun x8 hy=>((Qki [101,108,115,101] h0_0 x5.2.1 x5.2.2 x8 hy).fr [0] [] rfl rfl rfl)) (fun x8 hy h=>?_);refine Qah _ _ h (fun x9 hy=>((iQav true false x8.1 x8.2 x9 hy).fr [0] [] rfl rfl rfl)) (fun x9 hy h=>?_);refine JP1.a h ?_;exact Le.tow 3 0 rfl (.cons rfl (.refl _) (.cons rfl (.refl _) (.cons rfl (.refl _) (.nil)))) (.cons (.refl _) (.cons (.refl _) (.cons (.cons (.refl _) (.cons (.refl _) (.cons (.refl _) (.cons (.refl _) (.cons (.p (.sl' (fun h=>h) (.cons (.ceq (Qai _) (.refl _)) (.nil)))) (.cons (.refl _) (.cons (.refl _) (.nil)))))))) (.nil)))) rfl
    ·refine JP1.a h ?_;exact Le.tow 3 0 rfl (.cons rfl (.refl _) (.cons rfl (.refl _) (.cons rfl (.refl _) (.nil)))) (.cons (.refl _) (.cons (.refl _) (.cons (.cons (.refl _) (.cons (.refl _) (.cons (.refl _) (.cons (.refl _) (.cons (.p (.sl' (fun h=>h) (.cons (.ceq (Qai _) (.refl _)) (.nil)))) (.cons (.refl _) (.cons (.p (.not)) (.nil)))))))) (.nil)))) rfl
   ·have h:=hk;refine Qah _ _ h (fun x10 hy=>((Qki [101,110,100] h0_0 o6.1 o6.2.1 x10 hy).fr [0] [] rfl rfl rfl)) (fun x10 hy h=>?_);refine Exists.intro _ (And.intro (Le.refl _ _ _) ?_);exact Qbe (t:=Qfi) (ss:=fun o=>⟨[[.p (.sl false (h0_0.map Qad)),.p (iV o.2.1),.p (bV o.2.2)]],[]⟩) h ⟨[],rfl,.p (.agg' (.cons (.refl _) (.cons (.refl _) (.cons (.refl _) (.cons (.refl _) (.cons (.not) (.cons (.refl _) (.cons (.refl _) (.nil))))))))),.refl _,rfl⟩
  ·refine Qag h (fun o11 ho hk=>?_);refine Exists.intro (JP1 _ _ o11 .normal (Qqv h0_0 h0_1 h0_2)) (And.intro ?_ (Qa7 ?_))
   ·have h:=ho;refine Qah _ _ h (fun x12 hy=>((Qbt [101,97,99,104] h0_0 h0_1 h0_2 x12 hy).fr [0] [] rfl rfl rfl)) (fun x12 hy h=>?_);refine Qaf h (fun hb h=>?_) (fun hb h=>?_)
    ·refine JP1.a h ?_;exact Le.tz 2 0 rfl rfl rfl
    ·refine Qah _ _ h (fun x13 hy=>((Qbt [108,101,116] h0_0 h0_1 h0_2 x13 hy).fr [0] [] rfl rfl rfl)) (fun x13 hy h=>?_);refine JP1.a h ?_;exact Le.tz 2 0 rfl rfl rfl
   ·have h:=hk;refine Qaf h (fun hb h=>?_) (fun hb h=>?_)
    ·refine Qag h (fun o14 ho hk=>?_);refine Exists.intro (JP1 _ _ o14 .normal (Qqw h0_0 h0_1 h0_2)) (And.intro ?_ (Qa7 ?_))
     ·have h:=ho;refine Qah _ _ h (fun x15 hy=>((Qbt [108,101,116] h0_0 h0_1 h0_2 x15 hy).fr [0] [] rfl rfl rfl)) (fun x15 hy h=>?_);refine Qaf h (fun hb h=>?_) (fun hb h=>?_)
      ·refine JP1.a h ?_;exact Le.tz 3 0 rfl rfl rfl
      ·refine JP1.a h ?_;exact Le.tz 3 0 rfl rfl rfl
     ·have h:=hk;refine Qah _ _ h (fun x16 hy=>((Qal true h0_0 h0_1 h0_2 x16 hy).fr [0] [] rfl rfl rfl)) (fun x16 hy h=>?_);refine Qah _ _ h (fun x17 hy=>((Qjo h0_0 x16.2.1 x16.2.2 x17 hy).fr [0] [] rfl rfl rfl)) (fun x17 hy h=>?_);refine Qag h (fun o18 ho hk=>?_);refine Exists.intro (JP1 _ _ o18 .normal (Qqx h0_0 o14 x17)) (And.intro ?_ (Qa7 ?_))
      ·have h:=ho;refine Qaf h (fun hb h=>?_) (fun hb h=>?_)
       ·refine Qah _ _ h (fun x19 hy=>((Qbt [105,110] h0_0 x17.2.1 x17.2.2 x19 hy).fr [0] [] rfl rfl rfl)) (fun x19 hy h=>?_);refine Qah _ _ h (fun x20 hy=>((Qal x19 h0_0 x17.2.1 x17.2.2 x20 hy).fr [0] [] rfl rfl rfl)) (fun x20 hy h=>?_);refine JP1.a h ?_;exact Le.tz 3 0 rfl rfl rfl
       ·refine Qah _ _ h (fun x21 hy=>((Qas 11 h0_0 x17.2.1 x17.2.2 x21 hy).fr [0] [] rfl rfl rfl)) (fun x21 hy h=>?_);refine Qah _ _ h (fun x22 hy=>((Qal x21 h0_0 x17.2.1 x17.2.2 x22 hy).fr [0] [] rfl rfl rfl)) (fun x22 hy h=>?_);refine JP1.a h ?_;exact Le.tz 3 0 rfl rfl rfl
      ·have h:=hk;refine Qah _ _ h (fun x23 hy=>((Qjp h0_0 o18.1 o18.2 x23 hy).fr [0] [] rfl rfl rfl)) (fun x23 hy h=>?_);refine Qah _ _ h (fun x24 hy=>((Qfr h0_0 x23.2.1 x23.2.2 x24 hy).fr [0] [] rfl rfl rfl)) (fun x24 hy h=>?_);refine Qah _ _ h (fun x25 hy=>((iQav true false x24.1 x24.2 x25 hy).fr [0] [] rfl rfl rfl)) (fun x25 hy h=>?_);refine Qah _ _ h (fun x26 hy=>((Qki [101,110,100] h0_0 x25.2.1 x25.2.2 x26 hy).fr [0] [] rfl rfl rfl)) (fun x26 hy h=>?_);refine Exists.intro _ (And.intro (Le.refl _ _ _) ?_);exact Qbe (t:=Qfi) (ss:=fun o=>⟨[[.p (.sl false (h0_0.map Qad)),.p (iV o.2.1),.p (bV o.2.2)]],[]⟩) h ⟨[],rfl,.p (.agg' (.cons (.refl _) (.cons (.refl _) (.cons (.refl _) (.cons (.refl _) (.cons (.no (.cons (.ceq (Qai _) (.refl _)) (.nil))) (.cons (.refl _) (.cons (.not) (.nil))))))))),.refl _,rfl⟩
    ·refine Qag h (fun o27 ho hk=>?_);refine Exists.intro (JP1 _ _ o27 .normal (Qqy h0_0)) (And.intro ?_ (Qa7 ?_))
     ·have h:=ho;refine Qah _ _ h (fun x28 hy=>((Qbt [117,115,101] h0_0 h0_1 h0_2 x28 hy).fr [0] [] rfl rfl rfl)) (fun x28 hy h=>?_);refine Qaf h (fun hb h=>?_) (fun hb h=>?_)
      ·refine Qah _ _ h (fun x29 hy=>((Qal true h0_0 h0_1 h0_2 x29 hy).fr [0] [] rfl rfl rfl)) (fun x29 hy h=>?_);refine Qah _ _ h (fun x30 hy=>((Qjo h0_0 x29.2.1 x29.2.2 x30 hy).fr [0] [] rfl rfl rfl)) (fun x30 hy h=>?_);refine JP1.a h ?_;exact Le.tz 3 0 rfl rfl rfl
      ·refine JP1.a h ?_;exact Le.tz 3 0 rfl rfl rfl
     ·have h:=hk;refine Qah _ _ h (fun x31 hy=>((Qjp h0_0 o27.1 o27.2.1 x31 hy).fr [0] [] rfl rfl rfl)) (fun x31 hy h=>?_);refine Qah _ _ h (fun x32 hy=>((Qfr h0_0 x31.2.1 x31.2.2 x32 hy).fr [0] [] rfl rfl rfl)) (fun x32 hy h=>?_);refine Exists.intro _ (And.intro (Le.refl _ _ _) ?_);exact Qbe (t:=Qfi) (ss:=fun o=>⟨[[.p (.sl false (h0_0.map Qad)),.p (iV o.2.1),.p (bV o.2.2)]],[]⟩) h ⟨[],rfl,.p (.agg' (.cons (.refl _) (.cons (.refl _) (.cons (.refl _) (.cons (.refl _) (.cons (.no (.cons (.ceq (Qai _) (.refl _)) (.nil))) (.cons (.not) (.cons (.not) (.nil))))))))),.refl _,rfl⟩
def Qu3:=fun p1 p2 h0_0 h0_1 h0_2=>(Qt3 h0_0).1 p1 p2 h0_1 h0_2
def Qsh (p0:(List UInt8)):Option ((List Qab)×Int×Int) :=
 Qpd p0>>=fun x1 =>
 if(x1.2.2 != 0) then
  some ([],x1.2.1,x1.2.2)
 else
  Qav false false x1.1 0 false>>=fun x2 =>
  if x2.2.2 then
   if(decide (x2.2.1<(x1.1.length:Int))) then
    idx x1.1 x2.2.1>>=fun x3 =>
    some ([],x3.From,7)
   else
    some ([],(p0.length:Int),7)
  else
   Qfy x2.1>>=fun x4 =>
   if(decide (x4>1024)) then
    some ([],0,5)
   else
    Qhy x2.1>>=fun x5 =>
    if(decide (x5>12)) then
     some ([],0,8)
    else
     some (x2.1,0,0)
theorem Q9a:∀ (p0:(List UInt8)) (o:(List Qab)×Int×Int),Qsh p0=some o→PCall Tryz.prog 8 [sV p0] (Qgs o):=by
 intro p0 o h;unfold Qsh at h;refine PCall.ofB mixed tbOk Q8t Tryz.func8 rfl (by kernel_rfl) (Nat.le_of_ble_eq_true rfl) ?_;refine Qak [sV p0] Qk2 h (fun x1 hy=>(Q6c p0 x1 hy)) (fun x1 hy h=>?_);refine Qaf h (fun hb h=>?_) (fun hb h=>?_)
 ·refine Qao (t:=Qgs) h ?_;exact .tup (xs:=[.sl true [],iV x1.2.1,iV x1.2.2]) (ys:=[.sl false [],iV x1.2.1,iV x1.2.2]) (.cons (.not) (.cons (.refl _) (.cons (.refl _) (.nil))))
 ·refine Qah _ _ h (fun x2 hy=>((Qu3 false false x1.1 0 false x2 hy).fr [0] [] rfl rfl rfl)) (fun x2 hy h=>?_);refine Qaf h (fun hb h=>?_) (fun hb h=>?_)
  ·refine view (Qaw _ _) rfl ?_;refine Qaf h (fun hb h=>?_) (fun hb h=>?_)
   ·refine And.intro (by decide +kernel) (And.intro rfl ?_);refine Qcy (l:=x1.1) (c:=Qad) (c' := Qad) h (fun _=>rfl) (fun _=>rfl) (by decide) (fun x3 hi h=>?_);refine Qao (t:=Qgs) h ?_;exact .tup (xs:=[.sl true [],iV x3.From,iV 7]) (ys:=[.sl false [],iV x3.From,iV 7]) (.cons (.not) (.cons (.refl _) (.cons (.refl _) (.nil))))
   ·refine vrfl ?_;refine Qao (t:=Qgs) h ?_;exact .tup (xs:=[.sl true [],iV (p0.length:Int),iV 7]) (ys:=[.sl false [],iV (p0.length:Int),iV 7]) (.cons (.not) (.cons (.refl _) (.cons (.refl _) (.nil))))
  ·refine Qak [.sl false (x2.1.map Qae)] Qgp h (fun x4 hy=>(Qye x2.1 x4 hy)) (fun x4 hy h=>?_);refine Qaf h (fun hb h=>?_) (fun hb h=>?_)
   ·refine Qao (t:=Qgs) h ?_;exact .tup (xs:=[.sl true [],iV 0,iV 5]) (ys:=[.sl false [],iV 0,iV 5]) (.cons (.not) (.cons (.refl _) (.cons (.refl _) (.nil))))
   ·refine Qak [.sl false (x2.1.map Qae)] Qin h (fun x5 hy=>(Q1g x2.1 x5 hy)) (fun x5 hy h=>?_);refine Qaf h (fun hb h=>?_) (fun hb h=>?_)
    ·refine Qao (t:=Qgs) h ?_;exact .tup (xs:=[.sl true [],iV 0,iV 8]) (ys:=[.sl false [],iV 0,iV 8]) (.cons (.not) (.cons (.refl _) (.cons (.refl _) (.nil))))
    ·refine Qao (t:=Qgs) h ?_;exact .refl _
def Qcj (p0:(List UInt8)) (p1:(List UInt8)):Option (Bool) :=
 ( if(decide ((p0.length:Int) ≥ (p1.length:Int))) then
   cutL p0 0 (p1.length:Int)>>=fun x2 =>
   some (x2==p1)
  else
   some false:Option (Bool))>>=fun o1 =>
 some o1
theorem Qjq:∀ (p0:(List UInt8)) (p1:(List UInt8)) (o:Bool),Qcj p0 p1=some o→PCall Tryz.prog 83 [sV p0,sV p1] (Qc5 o):=by
 intro p0 p1 o h;unfold Qcj at h;refine PCall.ofB mixed tbOk Qjb Tryz.func83 rfl (by kernel_rfl) (Nat.le_of_ble_eq_true rfl) ?_;refine Qag h (fun o1 ho hk=>?_);refine Exists.intro (JP1 _ _ o1 .normal (Qh7 )) (And.intro ?_ (Qa7 ?_))
 ·have h:=ho;refine vrfl ?_;refine vrfl ?_;refine Qaf h (fun hb h=>?_) (fun hb h=>?_)
  ·refine vrfl ?_;refine Qex none (some (p1.length:Int)) h (fun x2 hi h=>?_);refine JP1.a h ?_;exact Le.tz 0 0 rfl rfl rfl
  ·refine JP1.a h ?_;exact Le.tz 0 0 rfl rfl rfl
 ·have h:=hk;refine Qao (t:=Qc5) h ?_;exact .refl _
def Qc7 (p0:(List UInt8)) (p1:(List UInt8)):Option (Int) :=
 need (p0.length<4294967281)>>=fun _ =>
 some (Lib.index p0 p1)
theorem Qlw:∀ (p0:(List UInt8)) (p1:(List UInt8)) (o:Int),Qc7 p0 p1=some o→PCall Tryz.prog 48 [sV p0,sV p1] (Qgf o):=by
 intro p0 p1 o h;unfold Qc7 at h;obtain⟨h1,h⟩:=Qmv h;cases h;exact Qaiv _ _ h1
def Qh0 (p0:(List UInt8)) (p1:(List UInt8)):Option ((List UInt8)) :=
 need (p1.length<4294967281)>>=fun _ =>
 need (p1.all (fun b=>decide (b.toNat<128))=true)>>=fun _ =>
 some (Lib.trimLeftS p0 p1)
theorem Qu4:∀ (p0:(List UInt8)) (p1:(List UInt8)) (o:(List UInt8)),Qh0 p0 p1=some o→PCall Tryz.prog 49 [sV p0,sV p1] (Qn3 o):=by
 intro p0 p1 o h;unfold Qh0 at h;obtain⟨h1,h⟩:=Qmv h;obtain⟨h2,h⟩:=Qmv h;cases h;exact Qaax _ _ h1 h2
def Qc2 (h0_0:(List UInt8)) (h0_1:Int) (h0_2:(List Qaa)):Option (Int) :=
 cutL h0_0 h0_1 (h0_0.length:Int)>>=fun x1 =>
 Qh0 x1 [32,9,10,13]>>=fun x2 =>
 some (wr ((h0_0.length:Int)-(x2.length:Int)))
theorem Qjr:∀ (h0_0:(List UInt8)) (h0_1:Int) (h0_2:(List Qaa)) (o:Int),Qc2 h0_0 h0_1 h0_2=some o→CallOK Tryz.prog 28 [.ptr 0 0] ⟨[[.p (sV h0_0),.p (iV h0_1),.own 0 59 5 (h0_2.map Qad)]],[(h0_2.map Qad).length]⟩ (Qj1 o) ⟨[[.p (sV h0_0),.p (iV o),.own 0 59 5 (h0_2.map Qad)]],[(h0_2.map Qad).length]⟩:=by
 intro h0_0 h0_1 h0_2 o h;unfold Qc2 at h;refine CallOK.ofB mixed tbOk Qp3 Tryz.func28 rfl (by kernel_rfl) (Nat.le_of_ble_eq_true rfl) rfl rfl rfl ?_;refine And.intro (by decide +kernel) (And.intro rfl ?_);refine vrfl ?_;refine Qex (some h0_1) none h (fun x1 hi h=>?_);refine Qdf [sV x1,sV [32,9,10,13]] Qn3 h (fun x2 hy=>(Qu4 x1 [32,9,10,13] x2 hy)) (fun x2 hy h=>?_);refine vrfl ?_;refine Exists.intro _ (And.intro (Le.refl _ _ _) ?_);exact Qbe (t:=Qj1) (ss:=fun o=>⟨[[.p (sV h0_0),.p (iV o),.own 0 59 5 (h0_2.map Qad)]],[(h0_2.map Qad).length]⟩) h ⟨[0],rfl,.refl _,.refl _,rfl⟩
def Qa5 (p1:Int) (p2:(List UInt8)) (p3:Int) (p4:Int) (h0_0:(List UInt8)) (h0_1:Int) (h0_2:(List Qaa)):Option (Int×(List Qaa)) :=
 appL 48 h0_2 [(Qaa.mk p1 p2 p3 h0_1 (wr (h0_1+p4)))]>>=fun x1 =>
 some ((wr (h0_1+p4)),x1)
theorem Qch:∀ (p1:Int) (p2:(List UInt8)) (p3:Int) (p4:Int) (h0_0:(List UInt8)) (h0_1:Int) (h0_2:(List Qaa)) (o:Int×(List Qaa)),Qa5 p1 p2 p3 p4 h0_0 h0_1 h0_2=some o→CallOK Tryz.prog 27 [.ptr 0 0,.p (iV p1),.p (sV p2),.p (iV p3),.p (iV p4)] ⟨[[.p (sV h0_0),.p (iV h0_1),.own 0 59 5 (h0_2.map Qad)]],[(h0_2.map Qad).length]⟩ (Qm3 o) ⟨[[.p (sV h0_0),.p (iV o.1),.own 0 59 5 (o.2.map Qad)]],[(o.2.map Qad).length]⟩:=by
 intro p1 p2 p3 p4 h0_0 h0_1 h0_2 o h;unfold Qa5 at h;refine CallOK.ofB mixed tbOk Qtu Tryz.func27 rfl (by kernel_rfl) (Nat.le_of_ble_eq_true rfl) rfl rfl rfl ?_;refine And.intro (by decide +kernel) (And.intro rfl ?_);refine Qri (a:=h0_2) (b:=[(Qaa.mk p1 p2 p3 h0_1 (wr (h0_1+p4)))]) (c:=Qad) h (.refl _) (fun _=>rfl) rfl (fun x1 hi h=>?_);refine Exists.intro _ (And.intro (Le.refl _ _ _) ?_);exact Qbe (t:=Qm3) (ss:=fun o=>⟨[[.p (sV h0_0),.p (iV o.1),.own 0 59 5 (o.2.map Qad)]],[(o.2.map Qad).length]⟩) h ⟨[0],rfl,.refl _,.refl _,rfl⟩
def Qla (p0:Int):Option (Bool) :=
 ( if(decide (p0 ≥ 48)) then
   some (decide (p0≤57))
  else
   some false:Option (Bool))>>=fun o1 =>
 some o1
theorem Qn6:∀ (p0:Int) (o:Bool),Qla p0=some o→PCall Tryz.prog 52 [nV .u8 p0] (Qke o):=by
 intro p0 o h;unfold Qla at h;refine PCall.ofB mixed tbOk Q8u Tryz.func52 rfl (by kernel_rfl) (Nat.le_of_ble_eq_true rfl) ?_;refine Qag h (fun o1 ho hk=>?_);refine Exists.intro (JP1 _ _ o1 .normal (Q2w )) (And.intro ?_ (Qa7 ?_))
 ·have h:=ho;refine Qaf h (fun hb h=>?_) (fun hb h=>?_)
  ·refine JP1.a h ?_;exact Le.tz 0 0 rfl rfl rfl
  ·refine JP1.a h ?_;exact Le.tz 0 0 rfl rfl rfl
 ·have h:=hk;refine Qao (t:=Qke) h ?_;exact .refl _
def Qkj (p0:Int):Option (Bool) :=
 ( if(decide (p0 ≥ 97)) then
   if(decide (p0≤122)) then
    some true
   else
    Qla p0>>=fun x2 =>
    if x2 then
     some true
    else
     some (p0==95)
  else
   Qla p0>>=fun x3 =>
   if x3 then
    some true
   else
    some (p0==95):Option (Bool))>>=fun o1 =>
 some o1
theorem Qqd:∀ (p0:Int) (o:Bool),Qkj p0=some o→PCall Tryz.prog 54 [nV .u8 p0] (Qk4 o):=by
 intro p0 o h;unfold Qkj at h;refine PCall.ofB mixed tbOk Q5x Tryz.func54 rfl (by kernel_rfl) (Nat.le_of_ble_eq_true rfl) ?_;refine Qag h (fun o1 ho hk=>?_);refine Exists.intro (JP1 _ _ o1 .normal (Q02 )) (And.intro ?_ (Qa7 ?_))
 ·have h:=ho;refine Qaf h (fun hb h=>?_) (fun hb h=>?_)
  ·refine Qaf h (fun hb h=>?_) (fun hb h=>?_)
   ·refine bT ?_;refine JP1.a h ?_;exact Le.tz 0 0 rfl rfl rfl
   ·refine Qak [nV .u8 p0] Qke h (fun x2 hy=>(Qn6 p0 x2 hy)) (fun x2 hy h=>?_);refine Qaf h (fun hb h=>?_) (fun hb h=>?_)
    ·refine JP1.a h ?_;exact Le.tz 0 0 rfl rfl rfl
    ·refine JP1.a h ?_;exact Le.tz 0 0 rfl rfl rfl
  ·refine bF ?_;refine Qak [nV .u8 p0] Qke h (fun x3 hy=>(Qn6 p0 x3 hy)) (fun x3 hy h=>?_);refine Qaf h (fun hb h=>?_) (fun hb h=>?_)
   ·refine JP1.a h ?_;exact Le.tz 0 0 rfl rfl rfl
   ·refine JP1.a h ?_;exact Le.tz 0 0 rfl rfl rfl
 ·have h:=hk;refine Qao (t:=Qk4) h ?_;exact .refl _
def Qa4 (h0_0:(List UInt8)) (h0_1:Int) (h0_2:(List Qaa)) (v7:Int):Option (Int) :=
 ( if(decide (v7<(h0_0.length:Int))) then
   idx h0_0 v7>>=fun x3 =>
   Qla (x3.toNat:Int)>>=fun x4 =>
   some x4
  else
   some false:Option (Bool))>>=fun o2 =>
 if o2 then
  Qa4 h0_0 h0_1 h0_2 (wr (v7+1))
 else
  some v7
 partial_fixpoint
theorem Qjv:∀ (h0_0:(List UInt8)) (h0_1:Int) (h0_2:(List Qaa)),(∀ (v7:Int) (o1:Int),Qa4 h0_0 h0_1 h0_2 v7=some o1→TL (1,1) Tryz.prog 38 Qfb (JP1 (1,1) 38 o1 (.exit 0) (Qdc h0_0 h0_1 h0_2)) (Qcf h0_0 h0_1 h0_2 v7)):=by
 intro h0_0 h0_1 h0_2;refine Qa4.partial_correctness h0_0 h0_1 h0_2 _ ?_;intro Qa4' iQa4 v7 o1 h;refine TL.round (Qan mixed tbOk (lv:=Qgh) _ _ _ ?_);refine Qag h (fun o2 ho hk=>?_);refine Exists.intro (JP1 _ _ o2 .normal (Qk5 h0_0 h0_1 h0_2 v7)) (And.intro ?_ (Qa7 ?_))
 ·have h:=ho;refine vrfl ?_;refine Qaf h (fun hb h=>?_) (fun hb h=>?_)
  ·refine Qcr h (fun x3 hi h=>?_);refine Qak [nV .u8 (x3.toNat:Int)] Qke h (fun x4 hy=>(Qn6 (x3.toNat:Int) x4 hy)) (fun x4 hy h=>?_);refine JP1.a h ?_;exact Le.tz 1 1 rfl rfl rfl
  ·refine JP1.a h ?_;exact Le.tz 1 1 rfl rfl rfl
 ·have h:=hk;refine Qaf h (fun hb h=>?_) (fun hb h=>?_)
  ·refine TL.le (τ := Qcf h0_0 h0_1 h0_2 (wr (v7+1))) ?_ ((iQa4 (wr (v7+1)) _ h));exact Le.tz 1 1 rfl rfl rfl
  ·exact JP1.a h (Le.tz 1 1 rfl rfl rfl)
def Qkk:=fun h0_0 h0_1 h0_2 v7=>(Qjv h0_0 h0_1 h0_2) v7
def Qdg (p1:Int) (h0_0:(List UInt8)) (h0_1:Int) (h0_2:(List Qaa)):Option ((List UInt8)) :=
 (Qa4 h0_0 h0_1 h0_2 p1)>>=fun o1 =>
 cutL h0_0 h0_1 o1>>=fun x5 =>
 some x5
theorem Qmf:∀ (p1:Int) (h0_0:(List UInt8)) (h0_1:Int) (h0_2:(List Qaa)) (o:(List UInt8)),Qdg p1 h0_0 h0_1 h0_2=some o→CallOK Tryz.prog 89 [.ptr 0 0,.p (iV p1),.fn (.func 52) [] []] ⟨[[.p (sV h0_0),.p (iV h0_1),.own 0 59 5 (h0_2.map Qad)]],[(h0_2.map Qad).length]⟩ (Qgu o) ⟨[[.p (sV h0_0),.p (iV h0_1),.own 0 59 5 (h0_2.map Qad)]],[(h0_2.map Qad).length]⟩:=by
 intro p1 h0_0 h0_1 h0_2 o h;unfold Qdg at h;refine CallOK.ofB mixed tbOk Qgh Tryz.func89 rfl (by kernel_rfl) (Nat.le_of_ble_eq_true rfl) rfl rfl rfl ?_;refine Qag h (fun o1 ho hk=>?_);refine Exists.intro (JP1 _ _ o1 (.exit 0) (Qdc h0_0 h0_1 h0_2)) (And.intro (Qo0 (τ := Qcf h0_0 h0_1 h0_2 p1) ?_ (TL.loop (Qkk h0_0 h0_1 h0_2 p1 o1 ho))) (Qa7 ?_))
 ·exact Le.tz 1 1 rfl rfl rfl
 have h:=hk;refine And.intro (by decide +kernel) (And.intro rfl ?_);refine Qex (some h0_1) (some o1) h (fun x5 hi h=>?_);refine Exists.intro _ (And.intro (Le.refl _ _ _) ?_);exact Qbe (t:=Qgu) (ss:=fun o=>⟨[[.p (sV h0_0),.p (iV h0_1),.own 0 59 5 (h0_2.map Qad)]],[(h0_2.map Qad).length]⟩) h ⟨[0],rfl,.refl _,.refl _,rfl⟩
def Qn7 (p0:(List UInt8)):Option (Int×Bool) :=
 need (p0.length≤9223372036854775807)>>=fun _ =>
 some (numP p0)
theorem Q1j:∀ (p0:(List UInt8)) (o:Int×Bool),Qn7 p0=some o→PCall Tryz.prog 90 [sV p0] (Quh o):=by
 intro p0 o h;unfold Qn7 at h;obtain⟨h1,h⟩:=Qmv h;cases h;exact Qagh _ h1
def Qej (h0_0:(List UInt8)) (h0_1:Int) (h0_2:(List Qaa)):Option (Bool×Int×(List Qaa)) :=
 Qdg (wr (h0_1+1)) h0_0 h0_1 h0_2>>=fun x1 =>
 Qn7 x1>>=fun x2 =>
 if x2.2 then
  Qa5 6 [] x2.1 (x1.length:Int) h0_0 h0_1 h0_2>>=fun x3 =>
  some (x2.2,x3.1,x3.2)
 else
  some (x2.2,h0_1,h0_2)
theorem Qsi:∀ (h0_0:(List UInt8)) (h0_1:Int) (h0_2:(List Qaa)) (o:Bool×Int×(List Qaa)),Qej h0_0 h0_1 h0_2=some o→CallOK Tryz.prog 53 [.ptr 0 0] ⟨[[.p (sV h0_0),.p (iV h0_1),.own 0 59 5 (h0_2.map Qad)]],[(h0_2.map Qad).length]⟩ (Qhf o) ⟨[[.p (sV h0_0),.p (iV o.2.1),.own 0 59 5 (o.2.2.map Qad)]],[(o.2.2.map Qad).length]⟩:=by
 intro h0_0 h0_1 h0_2 o h;unfold Qej at h;refine CallOK.ofB mixed tbOk Qr8 Tryz.func53 rfl (by kernel_rfl) (Nat.le_of_ble_eq_true rfl) rfl rfl rfl ?_;refine Qah _ _ h (fun x1 hy=>((Qmf (wr (h0_1+1)) h0_0 h0_1 h0_2 x1 hy).fr [0] [0] rfl rfl rfl)) (fun x1 hy h=>?_);refine Qak [sV x1] Quh h (fun x2 hy=>(Q1j x1 x2 hy)) (fun x2 hy h=>?_);refine Qaf h (fun hb h=>?_) (fun hb h=>?_)
 ·refine vrfl ?_;refine Qah _ _ h (fun x3 hy=>((Qch 6 [] x2.1 (x1.length:Int) h0_0 h0_1 h0_2 x3 hy).fr [0] [0] rfl rfl rfl)) (fun x3 hy h=>?_);refine Exists.intro _ (And.intro (Le.refl _ _ _) ?_);exact Qbe (t:=Qhf) (ss:=fun o=>⟨[[.p (sV h0_0),.p (iV o.2.1),.own 0 59 5 (o.2.2.map Qad)]],[(o.2.2.map Qad).length]⟩) h ⟨[0],rfl,.refl _,.refl _,rfl⟩
 ·refine Exists.intro _ (And.intro (Le.refl _ _ _) ?_);exact Qbe (t:=Qhf) (ss:=fun o=>⟨[[.p (sV h0_0),.p (iV o.2.1),.own 0 59 5 (o.2.2.map Qad)]],[(o.2.2.map Qad).length]⟩) h ⟨[0],rfl,.refl _,.refl _,rfl⟩
def Qbn (h0_0:(List UInt8)) (h0_1:Int) (h0_2:(List Qaa)) (v13:Int):Option (Unit⊕(Int×(List Qaa))) :=
 if(decide (v13<5)) then
  idx ([(Qlh.mk 46 7),(Qlh.mk 40 8),(Qlh.mk 41 9),(Qlh.mk 44 10),(Qlh.mk 61 11)]:List Qlh) v13>>=fun x4 =>
  idx h0_0 h0_1>>=fun x5 =>
  if((x5.toNat:Int)==x4.c_) then
   Qa5 x4.k_ [] 0 1 h0_0 h0_1 h0_2>>=fun x6 =>
   some (.inr (x6.1,x6.2))
  else
   Qbn h0_0 h0_1 h0_2 (wr (v13+1))
 else
  some (.inl ())
 partial_fixpoint
theorem Qqe:∀ (h0_0:(List UInt8)) (h0_1:Int) (h0_2:(List Qaa)),(∀ (v13:Int) (o1:Unit⊕(Int×(List Qaa))),Qbn h0_0 h0_1 h0_2 v13=some o1→TL (1,1) Tryz.prog 33 Qk6 (JP2 (1,1) 33 o1 (.exit 0) (Qf9 h0_0 h0_1 h0_2) .ret (Qga h0_0 h0_1 h0_2)) (Qd4 h0_0 h0_1 h0_2 v13)):=by
 intro h0_0 h0_1 h0_2;refine Qbn.partial_correctness h0_0 h0_1 h0_2 _ ?_;intro Qbn' iQbn v13 o1 h;refine TL.round (Qan mixed tbOk (lv:=Qm4) _ _ _ ?_);refine Qaf h (fun hb h=>?_) (fun hb h=>?_)
 ·refine Qaiu (l:=([(Qlh.mk 46 7),(Qlh.mk 40 8),(Qlh.mk 41 9),(Qlh.mk 44 10),(Qlh.mk 61 11)]:List Qlh)) (c:=fun x4=>[nV .u8 x4.c_,iV x4.k_]) h rfl rfl rfl (fun _=>rfl) rfl (fun x4 hi h=>?_);refine And.intro (by decide +kernel) (And.intro rfl ?_);refine Qcr h (fun x5 hi h=>?_);refine Qaf h (fun hb h=>?_) (fun hb h=>?_)
  ·refine Qah _ _ h (fun x6 hy=>((Qch x4.k_ [] 0 1 h0_0 h0_1 h0_2 x6 hy).fr [0] [0] rfl rfl rfl)) (fun x6 hy h=>?_);exact JP2.b h (Le.tz 2 1 rfl rfl rfl)
  ·refine TL.le (τ := Qd4 h0_0 h0_1 h0_2 (wr (v13+1))) ?_ ((iQbn (wr (v13+1)) _ h));exact Le.tz 2 1 rfl rfl rfl
 ·exact JP2.a h (Le.tz 2 1 rfl rfl rfl)
def Qq6:=fun h0_0 h0_1 h0_2 v13=>(Qqe h0_0 h0_1 h0_2) v13
def Qf0 (h0_0:(List UInt8)) (h0_1:Int) (h0_2:(List Qaa)):Option (Bool×Int×(List Qaa)) :=
 (Qbn h0_0 h0_1 h0_2 0)>>=fun o1 =>
 match o1 with
 | .inl y2 =>
  some (false,h0_1,h0_2)
 | .inr y3 =>
  some (true,y3.1,y3.2)
theorem Qu5:∀ (h0_0:(List UInt8)) (h0_1:Int) (h0_2:(List Qaa)) (o:Bool×Int×(List Qaa)),Qf0 h0_0 h0_1 h0_2=some o→CallOK Tryz.prog 56 [.ptr 0 0] ⟨[[.p (sV h0_0),.p (iV h0_1),.own 0 59 5 (h0_2.map Qad)]],[(h0_2.map Qad).length]⟩ (Qje o) ⟨[[.p (sV h0_0),.p (iV o.2.1),.own 0 59 5 (o.2.2.map Qad)]],[(o.2.2.map Qad).length]⟩:=by
 intro h0_0 h0_1 h0_2 o h;unfold Qf0 at h;refine CallOK.ofB mixed tbOk Qm4 Tryz.func56 rfl (by kernel_rfl) (Nat.le_of_ble_eq_true rfl) rfl rfl rfl ?_;refine Qag h (fun o1 ho hk=>?_);refine Exists.intro (JP2 _ _ o1 (.exit 0) (Qf9 h0_0 h0_1 h0_2) .ret (Qga h0_0 h0_1 h0_2)) (And.intro (Qo0 (τ := Qd4 h0_0 h0_1 h0_2 0) ?_ (TL.loop (Qq6 h0_0 h0_1 h0_2 0 o1 ho))) (Qmu (fun y2 hy=>?_) (fun y3 hy=>?_)))
 ·exact Le.tz 2 1 rfl rfl rfl
 ·have h:=(by rw[hy] at hk; exact hk);refine Exists.intro _ (And.intro (Le.refl _ _ _) ?_);exact Qbe (t:=Qje) (ss:=fun o=>⟨[[.p (sV h0_0),.p (iV o.2.1),.own 0 59 5 (o.2.2.map Qad)]],[(o.2.2.map Qad).length]⟩) h ⟨[0],rfl,.refl _,.refl _,rfl⟩
 ·have h:=(by rw[hy] at hk; exact hk);refine Exists.intro _ (And.intro (Le.refl _ _ _) ?_);exact Qbe (t:=Qje) (ss:=fun o=>⟨[[.p (sV h0_0),.p (iV o.2.1),.own 0 59 5 (o.2.2.map Qad)]],[(o.2.2.map Qad).length]⟩) h ⟨[0],rfl,.refl _,.refl _,rfl⟩
def Qng (p0:Int):Option (Int×Bool) :=
 if(p0==110) then
  some (10,true)
 else
  if(p0==116) then
   some (9,true)
  else
   ( if(p0==34) then
     some true
    else
     some (p0==92):Option (Bool))>>=fun o1 =>
   some (p0,o1)
theorem Q29:∀ (p0:Int) (o:Int×Bool),Qng p0=some o→PCall Tryz.prog 85 [nV .u8 p0] (Qjd o):=by
 intro p0 o h;unfold Qng at h;refine PCall.ofB mixed tbOk Q2x Tryz.func85 rfl (by kernel_rfl) (Nat.le_of_ble_eq_true rfl) ?_;refine Qaf h (fun hb h=>?_) (fun hb h=>?_)
 ·refine Qao (t:=Qjd) h ?_;exact .refl _
 ·refine Qaf h (fun hb h=>?_) (fun hb h=>?_)
  ·refine Qao (t:=Qjd) h ?_;exact .refl _
  ·refine Qag h (fun o1 ho hk=>?_);refine Exists.intro (JP1 _ _ o1 .normal (Qyq p0)) (And.intro ?_ (Qa7 ?_))
   ·have h:=ho;refine Qaf h (fun hb h=>?_) (fun hb h=>?_)
    ·refine JP1.a h ?_;exact Le.tz 0 0 rfl rfl rfl
    ·refine JP1.a h ?_;exact Le.tz 0 0 rfl rfl rfl
   ·have h:=hk;refine Qao (t:=Qjd) h ?_;exact .refl _
def Qbq (h0_0:Bool) (h0_1:(List Int)):Option (Bool) :=
 some true
theorem Qfc:∀ (h0_0:Bool) (h0_1:(List Int)) (o:Bool),Qbq h0_0 h0_1=some o→CallOK Tryz.prog 109 [.ptr 0 0] ⟨[[.sp Tryz.prog 113 h0_0 0 0,.own 0 5 1 (h0_1.map (cNum .u8))]],[(h0_1.map (cNum .u8)).length]⟩ (Qlr o) ⟨[[.sp Tryz.prog 113 o 0 0,.own 0 5 1 (h0_1.map (cNum .u8))]],[(h0_1.map (cNum .u8)).length]⟩:=by
 intro h0_0 h0_1 o h;unfold Qbq at h;cases h;exact Q8f [[.sp Tryz.prog 113 h0_0 0 0,.own 0 5 1 (h0_1.map (cNum .u8))]] _ 0 [.sp Tryz.prog 113 h0_0 0 0,.own 0 5 1 (h0_1.map (cNum .u8))] rfl rfl
def Qce (p1:Int) (h0_0:Bool) (h0_1:(List Int)):Option (Unit×Bool×(List Int)) :=
 Qbq h0_0 h0_1>>=fun x1 =>
 appL 1 h0_1 [p1]>>=fun x2 =>
 some ((),x1,x2)
theorem Qlb:∀ (p1:Int) (h0_0:Bool) (h0_1:(List Int)) (o:Unit×Bool×(List Int)),Qce p1 h0_0 h0_1=some o→CallOK Tryz.prog 86 [.ptr 0 0,.p (nV .u8 p1)] ⟨[[.sp Tryz.prog 113 h0_0 0 0,.own 0 5 1 (h0_1.map (cNum .u8))]],[(h0_1.map (cNum .u8)).length]⟩ (Qfx o) ⟨[[.sp Tryz.prog 113 o.2.1 0 0,.own 0 5 1 (o.2.2.map (cNum .u8))]],[(o.2.2.map (cNum .u8)).length]⟩:=by
 intro p1 h0_0 h0_1 o h;unfold Qce at h;refine CallOK.ofB mixed tbOk Qk9 Tryz.func86 rfl (by kernel_rfl) (Nat.le_of_ble_eq_true rfl) rfl rfl rfl ?_;refine Qah _ _ h (fun x1 hy=>((Qfc h0_0 h0_1 x1 hy).fr [0] [0] rfl rfl rfl)) (fun x1 hy h=>?_);refine Qri (a:=h0_1) (b:=[p1]) (c:=(cNum .u8)) h (.refl _) (fun _=>rfl) rfl (fun x2 hi h=>?_);refine Exists.intro _ (And.intro (Le.refl _ _ _) ?_);exact Qbe (t:=Qfx) (ss:=fun o=>⟨[[.sp Tryz.prog 113 o.2.1 0 0,.own 0 5 1 (o.2.2.map (cNum .u8))]],[(o.2.2.map (cNum .u8)).length]⟩) h ⟨[0],rfl,.refl _,.refl _,rfl⟩
def Qbz (p1:(List UInt8)) (h0_0:Bool) (h0_1:(List Int)):Option (Int×Unit×Bool×(List Int)) :=
 Qbq h0_0 h0_1>>=fun x1 =>
 appL 1 h0_1 (s2b p1)>>=fun x2 =>
 some ((p1.length:Int),(),x1,x2)
theorem Qjw:∀ (p1:(List UInt8)) (h0_0:Bool) (h0_1:(List Int)) (o:Int×Unit×Bool×(List Int)),Qbz p1 h0_0 h0_1=some o→CallOK Tryz.prog 87 [.ptr 0 0,.p (sV p1)] ⟨[[.sp Tryz.prog 113 h0_0 0 0,.own 0 5 1 (h0_1.map (cNum .u8))]],[(h0_1.map (cNum .u8)).length]⟩ (Qe1 o) ⟨[[.sp Tryz.prog 113 o.2.2.1 0 0,.own 0 5 1 (o.2.2.2.map (cNum .u8))]],[(o.2.2.2.map (cNum .u8)).length]⟩:=by
 intro p1 h0_0 h0_1 o h;unfold Qbz at h;refine CallOK.ofB mixed tbOk Qju Tryz.func87 rfl (by kernel_rfl) (Nat.le_of_ble_eq_true rfl) rfl rfl rfl ?_;refine Qah _ _ h (fun x1 hy=>((Qfc h0_0 h0_1 x1 hy).fr [0] [0] rfl rfl rfl)) (fun x1 hy h=>?_);refine Qaiq (a:=h0_1) (b:=p1) h rfl (fun x2 hi h=>?_);refine vrfl ?_;refine Exists.intro _ (And.intro (Le.refl _ _ _) ?_);exact Qbe (t:=Qe1) (ss:=fun o=>⟨[[.sp Tryz.prog 113 o.2.2.1 0 0,.own 0 5 1 (o.2.2.2.map (cNum .u8))]],[(o.2.2.2.map (cNum .u8)).length]⟩) h ⟨[0],rfl,.refl _,.refl _,rfl⟩
def Q3z (p0:Int):Option (Bool) :=
 ( if(decide (p0 ≥ 0)) then
   if(decide (p0≤1114111)) then
    if(decide (p0<55296)) then
     some true
    else
     some (decide (p0>57343))
   else
    some false
  else
   some false:Option (Bool))>>=fun o1 =>
 some o1
theorem Qago:∀ (p0:Int) (o:Bool),Q3z p0=some o→PCall Tryz.prog 108 [nV .i32 p0] (Q55 o):=by
 intro p0 o h;unfold Q3z at h;refine PCall.ofB mixed tbOk Qagl Tryz.func108 rfl (by kernel_rfl) (Nat.le_of_ble_eq_true rfl) ?_;refine Qag h (fun o1 ho hk=>?_);refine Exists.intro (JP1 _ _ o1 .normal (Qabc )) (And.intro ?_ (Qa7 ?_))
 ·have h:=ho;refine Qaf h (fun hb h=>?_) (fun hb h=>?_)
  ·refine Qaf h (fun hb h=>?_) (fun hb h=>?_)
   ·refine Qaf h (fun hb h=>?_) (fun hb h=>?_)
    ·refine JP1.a h ?_;exact Le.tz 0 0 rfl rfl rfl
    ·refine JP1.a h ?_;exact Le.tz 0 0 rfl rfl rfl
   ·refine JP1.a h ?_;exact Le.tz 0 0 rfl rfl rfl
  ·refine bF ?_;refine JP1.a h ?_;exact Le.tz 0 0 rfl rfl rfl
 ·have h:=hk;refine Qao (t:=Q55) h ?_;exact .refl _
def Qg0 (p0:(List UInt8)) (p2:Int) (v1:Int) (v14:Int):Option (Int⊕Unit) :=
 if(decide (v14<p2)) then
  idx p0 v14>>=fun x4 =>
  if((bits .and .u8 (x4.toNat:Int) 192) != 128) then
   some (.inr ())
  else
   idx p0 v14>>=fun x5 =>
   Qg0 p0 p2 (bits .or .i32 (IntKind.i32.wrap (v1*2 ^ (min (6:Int).toNat (IntKind.i32.bits)))) (IntKind.i32.wrap (bits .and .u8 (x5.toNat:Int) 63))) (wr (v14+1))
 else
  some (.inl v1)
 partial_fixpoint
theorem Q1k:∀ (p0:(List UInt8)) (p2:Int),(∀ (v1:Int) (v14:Int) (o1:Int⊕Unit),Qg0 p0 p2 v1 v14=some o1→TL (0,0) Tryz.prog 32 Qv8 (JP2 (0,0) 32 o1 (.exit 0) (Qov p0 p2) .ret (Qow p0 p2)) (Qkv p0 p2 v1 v14)):=by
 intro p0 p2;refine Qg0.partial_correctness p0 p2 _ ?_;intro Qg0' iQg0 v1 v14 o1 h;refine TL.round (Qan mixed tbOk (lv:=Q06) _ _ _ ?_);refine Qaf h (fun hb h=>?_) (fun hb h=>?_)
 ·refine Qcr h (fun x4 hi h=>?_);refine Qaf h (fun hb h=>?_) (fun hb h=>?_)
  ·exact JP2.b h (Le.tz 0 0 rfl rfl rfl)
  ·refine And.intro (by decide) ?_;refine Qcr h (fun x5 hi h=>?_);refine vrfl ?_;refine TL.le (τ := Qkv p0 p2 (bits .or .i32 (IntKind.i32.wrap (v1*2 ^ (min (6:Int).toNat (IntKind.i32.bits)))) (IntKind.i32.wrap (bits .and .u8 (x5.toNat:Int) 63))) (wr (v14+1))) ?_ ((iQg0 (bits .or .i32 (IntKind.i32.wrap (v1*2 ^ (min (6:Int).toNat (IntKind.i32.bits)))) (IntKind.i32.wrap (bits .and .u8 (x5.toNat:Int) 63))) (wr (v14+1)) _ h));exact Le.tz 0 0 rfl rfl rfl
 ·exact JP2.a h (Le.tz 0 0 rfl rfl rfl)
def Q3a:=fun p0 p2 v1 v14=>(Q1k p0 p2) v1 v14
def Qtg (p0:(List UInt8)) (p1:Int) (p2:Int):Option (Int×Bool) :=
 if(decide ((p0.length:Int)<p2)) then
  some (0,false)
 else
  (Qg0 p0 p2 p1 0)>>=fun o1 =>
  match o1 with
  | .inl y2 =>
   some (y2,true)
  | .inr y3 =>
   some (0,false)
theorem Qabf:∀ (p0:(List UInt8)) (p1:Int) (p2:Int) (o:Int×Bool),Qtg p0 p1 p2=some o→PCall Tryz.prog 107 [sV p0,nV .i32 p1,iV p2] (Qpb o):=by
 intro p0 p1 p2 o h;unfold Qtg at h;refine PCall.ofB mixed tbOk Q06 Tryz.func107 rfl (by kernel_rfl) (Nat.le_of_ble_eq_true rfl) ?_;refine vrfl ?_;refine Qaf h (fun hb h=>?_) (fun hb h=>?_)
 ·refine Qao (t:=Qpb) h ?_;exact .refl _
 ·refine Qag h (fun o1 ho hk=>?_);refine Exists.intro (JP2 _ _ o1 (.exit 0) (Qov p0 p2) .ret (Qow p0 p2)) (And.intro (Qo0 (τ := Qkv p0 p2 p1 0) ?_ (TL.loop (Q3a p0 p2 p1 0 o1 ho))) (Qmu (fun y2 hy=>?_) (fun y3 hy=>?_)))
  ·exact Le.tz 0 0 rfl rfl rfl
  ·have h:=(by rw[hy] at hk; exact hk);refine Qao (t:=Qpb) h ?_;exact .refl _
  ·have h:=(by rw[hy] at hk; exact hk);refine Qao (t:=Qpb) h ?_;exact .refl _
def Qwd (p0:(List UInt8)) (p1:Int):Option (Int×Int) :=
 ( if(decide (p1<0)) then
   some true
  else
   some (decide (p1 ≥ (p0.length:Int))):Option (Bool))>>=fun o1 =>
 if o1 then
  some (0,0)
 else
  idx p0 p1>>=fun x2 =>
  ( if(decide ((x2.toNat:Int)<128)) then
    some (.inr (IntKind.i32.wrap (x2.toNat:Int)))
   else
    ( if(decide ((x2.toNat:Int) ≥ 192)) then
      some (decide ((x2.toNat:Int)<224))
     else
      some false:Option (Bool))>>=fun o6 =>
    if o6 then
     some (.inl ((IntKind.i32.wrap (bits .and .u8 (x2.toNat:Int) 31)),128,1))
    else
     ( if(decide ((x2.toNat:Int) ≥ 224)) then
       some (decide ((x2.toNat:Int)<240))
      else
       some false:Option (Bool))>>=fun o7 =>
     if o7 then
      some (.inl ((IntKind.i32.wrap (bits .and .u8 (x2.toNat:Int) 15)),2048,2))
     else
      ( if(decide ((x2.toNat:Int) ≥ 240)) then
        some (decide ((x2.toNat:Int)<248))
       else
        some false:Option (Bool))>>=fun o8 =>
      if o8 then
       some (.inl ((IntKind.i32.wrap (bits .and .u8 (x2.toNat:Int) 7)),65536,3))
      else
       some (.inr 65533):Option ((Int×Int×Int)⊕Int))>>=fun o3 =>
  match o3 with
  | .inl y4 =>
   cutL p0 (wr (p1+1)) (p0.length:Int)>>=fun x9 =>
   Qtg x9 y4.1 y4.2.2>>=fun x10 =>
   ( if(!x10.2) then
     some true
    else
     if(decide (x10.1<y4.2.1)) then
      some true
     else
      Q3z x10.1>>=fun x12 =>
      some (!x12):Option (Bool))>>=fun o11 =>
   if o11 then
    some (65533,1)
   else
    some (x10.1,(wr (y4.2.2+1)))
  | .inr y5 =>
   some (y5,1)
theorem Qabg:∀ (p0:(List UInt8)) (p1:Int) (o:Int×Int),Qwd p0 p1=some o→PCall Tryz.prog 84 [sV p0,iV p1] (Qmo o):=by
 intro p0 p1 o h;unfold Qwd at h;refine PCall.ofB mixed tbOk Qabb Tryz.func84 rfl (by kernel_rfl) (Nat.le_of_ble_eq_true rfl) ?_;refine Qag h (fun o1 ho hk=>?_);refine Exists.intro (JP1 _ _ o1 .normal (Q5y p0 p1)) (And.intro ?_ (Qa7 ?_))
 ·have h:=ho;refine Qaf h (fun hb h=>?_) (fun hb h=>?_)
  ·refine JP1.a h ?_;exact Le.tz 0 0 rfl rfl rfl
  ·refine vrfl ?_;refine JP1.a h ?_;exact Le.tz 0 0 rfl rfl rfl
 ·have h:=hk;refine Qaf h (fun hb h=>?_) (fun hb h=>?_)
  ·refine Qao (t:=Qmo) h ?_;exact .refl _
  ·refine Qcr h (fun x2 hi h=>?_);refine Qag h (fun o3 ho hk=>?_);refine Exists.intro (JP2 _ _ o3 .normal (Q5z p0 p1) .ret (Q50 p0 p1)) (And.intro ?_ (Qmu (fun y4 hy=>?_) (fun y5 hy=>?_)))
   ·have h:=ho;refine Qaf h (fun hb h=>?_) (fun hb h=>?_)
    ·refine vrfl ?_;refine JP2.b h ?_;exact Le.tz 0 0 rfl rfl rfl
    ·refine Qag h (fun o6 ho hk=>?_);refine Exists.intro (JP1 _ _ o6 .normal (Q51 p0 p1 x2)) (And.intro ?_ (Qa7 ?_))
     ·have h:=ho;refine Qaf h (fun hb h=>?_) (fun hb h=>?_)
      ·refine JP1.a h ?_;exact Le.tz 0 0 rfl rfl rfl
      ·refine JP1.a h ?_;exact Le.tz 0 0 rfl rfl rfl
     ·have h:=hk;refine Qaf h (fun hb h=>?_) (fun hb h=>?_)
      ·refine vrfl ?_;refine JP2.a h ?_;exact Le.tz 0 0 rfl rfl rfl
      ·refine Qag h (fun o7 ho hk=>?_);refine Exists.intro (JP1 _ _ o7 .normal (Q52 p0 p1 x2)) (And.intro ?_ (Qa7 ?_))
       ·have h:=ho;refine Qaf h (fun hb h=>?_) (fun hb h=>?_)
        ·refine JP1.a h ?_;exact Le.tz 0 0 rfl rfl rfl
        ·refine JP1.a h ?_;exact Le.tz 0 0 rfl rfl rfl
       ·have h:=hk;refine Qaf h (fun hb h=>?_) (fun hb h=>?_)
        ·refine vrfl ?_;refine JP2.a h ?_;exact Le.tz 0 0 rfl rfl rfl
        ·refine Qag h (fun o8 ho hk=>?_);refine Exists.intro (JP1 _ _ o8 .normal (Q53 p0 p1 x2)) (And.intro ?_ (Qa7 ?_))
         ·have h:=ho;refine Qaf h (fun hb h=>?_) (fun hb h=>?_)
          ·refine JP1.a h ?_;exact Le.tz 0 0 rfl rfl rfl
          ·refine JP1.a h ?_;exact Le.tz 0 0 rfl rfl rfl
         ·have h:=hk;refine Qaf h (fun hb h=>?_) (fun hb h=>?_)
          ·refine vrfl ?_;refine JP2.a h ?_;exact Le.tz 0 0 rfl rfl rfl
          ·refine JP2.b h ?_;exact Le.tz 0 0 rfl rfl rfl
   ·have h:=(by rw[hy] at hk; exact hk);refine Qex (some (wr (p1+1))) none h (fun x9 hi h=>?_);refine Qak [sV x9,nV .i32 y4.1,iV y4.2.2] Qpb h (fun x10 hy=>(Qabf x9 y4.1 y4.2.2 x10 hy)) (fun x10 hy h=>?_);refine Qag h (fun o11 ho hk=>?_);refine Exists.intro (JP1 _ _ o11 .normal (Q54 y4 x10)) (And.intro ?_ (Qa7 ?_))
    ·have h:=ho;refine Qaf h (fun hb h=>?_) (fun hb h=>?_)
     ·refine bT ?_;refine JP1.a h ?_;exact Le.tz 0 0 rfl rfl rfl
     ·refine Qaf h (fun hb h=>?_) (fun hb h=>?_)
      ·refine JP1.a h ?_;exact Le.tz 0 0 rfl rfl rfl
      ·refine Qak [nV .i32 x10.1] Q55 h (fun x12 hy=>(Qago x10.1 x12 hy)) (fun x12 hy h=>?_);refine JP1.a h ?_;exact Le.tz 0 0 rfl rfl rfl
    ·have h:=hk;refine Qaf h (fun hb h=>?_) (fun hb h=>?_)
     ·refine Qao (t:=Qmo) h ?_;exact .refl _
     ·refine Qao (t:=Qmo) h ?_;exact .refl _
   ·have h:=(by rw[hy] at hk; exact hk);refine Qao (t:=Qmo) h ?_;exact .refl _
def Qbo (h0_0:(List UInt8)) (h0_1:Int) (h0_2:(List Qaa)) (v4:Int) (h1_0:Bool) (h1_1:(List Int)):Option ((Int×Bool×(List Int))⊕(Bool×(List Int))) :=
 ( if(decide (v4<(h0_0.length:Int))) then
   idx h0_0 v4>>=fun x5 =>
   some ((x5.toNat:Int) != 34)
  else
   some false:Option (Bool))>>=fun o4 =>
 if o4 then
  Qwd h0_0 v4>>=fun x6 =>
  if(x6.1==92) then
   if((wr (v4+1))==(h0_0.length:Int)) then
    some (.inr (h1_0,h1_1))
   else
    idx h0_0 (wr (v4+1))>>=fun x7 =>
    Qng (x7.toNat:Int)>>=fun x8 =>
    if(!x8.2) then
     some (.inr (h1_0,h1_1))
    else
     Qce x8.1 h1_0 h1_1>>=fun x9 =>
     Qbo h0_0 h0_1 h0_2 (wr (v4+2)) x9.2.1 x9.2.2
  else
   ( if(x6.1==10) then
     some true
    else
     if(x6.1==13) then
      some true
     else
      if(x6.1==65533) then
       some (x6.2==1)
      else
       some false:Option (Bool))>>=fun o10 =>
   if o10 then
    some (.inr (h1_0,h1_1))
   else
    cutL h0_0 v4 (wr (v4+x6.2))>>=fun x11 =>
    Qbz x11 h1_0 h1_1>>=fun x12 =>
    Qbo h0_0 h0_1 h0_2 (wr (v4+x6.2)) x12.2.2.1 x12.2.2.2
 else
  some (.inl (v4,h1_0,h1_1))
 partial_fixpoint
theorem Qqf:∀ (h0_0:(List UInt8)) (h0_1:Int) (h0_2:(List Qaa)),(∀ (v4:Int) (h1_0:Bool) (h1_1:(List Int)) (o1:(Int×Bool×(List Int))⊕(Bool×(List Int))),Qbo h0_0 h0_1 h0_2 v4 h1_0 h1_1=some o1→TL (1,1) Tryz.prog 112 Qk7 (JP2 (1,1) 112 o1 (.exit 0) (Qgb h0_0 h0_1 h0_2) .ret (Qgc h0_0 h0_1 h0_2)) (Qc9 h0_0 h0_1 h0_2 v4 h1_0 h1_1)):=by
 intro h0_0 h0_1 h0_2;refine Qbo.partial_correctness h0_0 h0_1 h0_2 _ ?_;intro Qbo' iQbo v4 h1_0 h1_1 o1 h;refine TL.round (Qan mixed tbOk (lv:=Qm5) _ _ _ ?_);refine Qag h (fun o4 ho hk=>?_);refine Exists.intro (JP1 _ _ o4 .normal (Qr9 h0_0 h0_1 h0_2 v4 h1_0 h1_1)) (And.intro ?_ (Qa7 ?_))
 ·have h:=ho;refine vrfl ?_;refine Qaf h (fun hb h=>?_) (fun hb h=>?_)
  ·refine Qcr h (fun x5 hi h=>?_);refine JP1.a h ?_;exact Le.tz 2 2 rfl rfl rfl
  ·refine JP1.a h ?_;exact Le.tz 2 2 rfl rfl rfl
 ·have h:=hk;refine Qaf h (fun hb h=>?_) (fun hb h=>?_)
  ·refine Qak [sV h0_0,iV v4] Qmo h (fun x6 hy=>(Qabg h0_0 v4 x6 hy)) (fun x6 hy h=>?_);refine Qaf h (fun hb h=>?_) (fun hb h=>?_)
   ·refine vrfl ?_;refine Qaf h (fun hb h=>?_) (fun hb h=>?_)
    ·exact JP2.b h (Le.tz 2 2 rfl rfl rfl)
    ·refine Qcr h (fun x7 hi h=>?_);refine Qak [nV .u8 (x7.toNat:Int)] Qjd h (fun x8 hy=>(Q29 (x7.toNat:Int) x8 hy)) (fun x8 hy h=>?_);refine Qaf h (fun hb h=>?_) (fun hb h=>?_)
     ·exact JP2.b h (Le.tz 2 2 rfl rfl rfl)
     ·refine Qah _ _ h (fun x9 hy=>((Qlb x8.1 h1_0 h1_1 x9 hy).fr [1] [1] rfl rfl rfl)) (fun x9 hy h=>?_);refine TL.le (τ := Qc9 h0_0 h0_1 h0_2 (wr (v4+2)) x9.2.1 x9.2.2) ?_ ((iQbo (wr (v4+2)) x9.2.1 x9.2.2 _ h));exact Le.tz 2 2 rfl rfl rfl
   ·refine Qag h (fun o10 ho hk=>?_);refine Exists.intro (JP1 _ _ o10 .normal (Qsa h0_0 h0_1 h0_2 v4 h1_0 h1_1 x6)) (And.intro ?_ (Qa7 ?_))
    ·have h:=ho;refine Qaf h (fun hb h=>?_) (fun hb h=>?_)
     ·refine bT ?_;refine JP1.a h ?_;exact Le.tz 2 2 rfl rfl rfl
     ·refine Qaf h (fun hb h=>?_) (fun hb h=>?_)
      ·refine JP1.a h ?_;exact Le.tz 2 2 rfl rfl rfl
      ·refine Qaf h (fun hb h=>?_) (fun hb h=>?_)
       ·refine JP1.a h ?_;exact Le.tz 2 2 rfl rfl rfl
       ·refine JP1.a h ?_;exact Le.tz 2 2 rfl rfl rfl
    ·have h:=hk;refine Qaf h (fun hb h=>?_) (fun hb h=>?_)
     ·exact JP2.b h (Le.tz 2 2 rfl rfl rfl)
     ·refine Qex (some v4) (some (wr (v4+x6.2))) h (fun x11 hi h=>?_);refine Qah _ _ h (fun x12 hy=>((Qjw x11 h1_0 h1_1 x12 hy).fr [1] [1] rfl rfl rfl)) (fun x12 hy h=>?_);refine TL.le (τ := Qc9 h0_0 h0_1 h0_2 (wr (v4+x6.2)) x12.2.2.1 x12.2.2.2) ?_ ((iQbo (wr (v4+x6.2)) x12.2.2.1 x12.2.2.2 _ h));exact Le.tz 2 2 rfl rfl rfl
  ·exact JP2.a h (Le.tz 2 2 rfl rfl rfl)
def Qq7:=fun h0_0 h0_1 h0_2 v4 h1_0 h1_1=>(Qqf h0_0 h0_1 h0_2) v4 h1_0 h1_1
def Qdo (h0_0:Bool) (h0_1:(List Int)):Option ((List UInt8)) :=
 b2s h0_1
theorem Qnh:∀ (h0_0:Bool) (h0_1:(List Int)) (o:(List UInt8)),Qdo h0_0 h0_1=some o→CallOK Tryz.prog 88 [.ptr 0 0] ⟨[[.sp Tryz.prog 113 h0_0 0 0,.own 0 5 1 (h0_1.map (cNum .u8))]],[(h0_1.map (cNum .u8)).length]⟩ (Qno o) ⟨[[.sp Tryz.prog 113 h0_0 0 0,.p (.sl false (h0_1.map (cNum .u8)))]],[((h0_1.map (cNum .u8)).length+1)]⟩:=by
 intro h0_0 h0_1 o h;unfold Qdo at h;exact Qyn [[.sp Tryz.prog 113 h0_0 0 0,.own 0 5 1 (h0_1.map (cNum .u8))]] [(h0_1.map (cNum .u8)).length] 0 0 [.sp Tryz.prog 113 h0_0 0 0,.own 0 5 1 (h0_1.map (cNum .u8))] (h0_1.map (cNum .u8)) rfl rfl rfl (Qaf8 h)
def Qf1 (h0_0:(List UInt8)) (h0_1:Int) (h0_2:(List Qaa)):Option (Bool×Int×(List Qaa)) :=
 (Qbo h0_0 h0_1 h0_2 (wr (h0_1+1)) false [])>>=fun o1 =>
 match o1 with
 | .inl y2 =>
  if(decide (y2.1 ≥ (h0_0.length:Int))) then
   some (false,h0_1,h0_2)
  else
   Qdo y2.2.1 y2.2.2>>=fun x13 =>
   Qa5 5 x13 0 (wr ((wr (y2.1+1))-h0_1)) h0_0 h0_1 h0_2>>=fun x14 =>
   some (true,x14.1,x14.2)
 | .inr y3 =>
  some (false,h0_1,h0_2)
theorem Qu6:∀ (h0_0:(List UInt8)) (h0_1:Int) (h0_2:(List Qaa)) (o:Bool×Int×(List Qaa)),Qf1 h0_0 h0_1 h0_2=some o→CallOK Tryz.prog 51 [.ptr 0 0] ⟨[[.p (sV h0_0),.p (iV h0_1),.own 0 59 5 (h0_2.map Qad)]],[(h0_2.map Qad).length]⟩ (Qgj o) ⟨[[.p (sV h0_0),.p (iV o.2.1),.own 0 59 5 (o.2.2.map Qad)]],[(o.2.2.map Qad).length]⟩:=by
 intro h0_0 h0_1 h0_2 o h;unfold Qf1 at h;refine CallOK.ofB mixed tbOk Qm5 Tryz.func51 rfl (by kernel_rfl) (Nat.le_of_ble_eq_true rfl) rfl rfl rfl ?_;refine Qag h (fun o1 ho hk=>?_);refine Exists.intro (JP2 _ _ o1 (.exit 0) (Qgb h0_0 h0_1 h0_2) .ret (Qgc h0_0 h0_1 h0_2)) (And.intro (Qo0 (τ := Qc9 h0_0 h0_1 h0_2 (wr (h0_1+1)) false []) ?_ (TL.loop (Qq7 h0_0 h0_1 h0_2 (wr (h0_1+1)) false [] o1 ho))) (Qmu (fun y2 hy=>?_) (fun y3 hy=>?_)))
 ·exact(Le.ownH 1 1 5 1 rfl rfl Q0c).trans (Le.tz 2 2 rfl rfl rfl)
 ·have h:=(by rw[hy] at hk; exact hk);refine vrfl ?_;refine Qaf h (fun hb h=>?_) (fun hb h=>?_)
  ·refine Exists.intro _ (And.intro (Le.refl _ _ _) ?_);exact Qbe (t:=Qgj) (ss:=fun o=>⟨[[.p (sV h0_0),.p (iV o.2.1),.own 0 59 5 (o.2.2.map Qad)]],[(o.2.2.map Qad).length]⟩) h ⟨[0],rfl,.refl _,.refl _,rfl⟩
  ·refine And.intro (by decide +kernel) (And.intro rfl ?_);refine Qair _ _ h (fun x13 hy=>((Qnh y2.2.1 y2.2.2 x13 hy).ff [1] [1] rfl rfl rfl rfl (Nat.le_of_ble_eq_true rfl))) (fun x13 hy h=>?_);refine Qnv _ _ h (fun x14 hy=>((Qch 5 x13 0 (wr ((wr (y2.1+1))-h0_1)) h0_0 h0_1 h0_2 x14 hy).fg [0] [0] rfl rfl rfl (Nat.le_of_ble_eq_true rfl))) (fun x14 hy h=>?_);refine Exists.intro _ (And.intro (Le.refl _ _ _) ?_);exact Qbe (t:=Qgj) (ss:=fun o=>⟨[[.p (sV h0_0),.p (iV o.2.1),.own 0 59 5 (o.2.2.map Qad)]],[(o.2.2.map Qad).length]⟩) h ⟨[0],rfl,.refl _,.refl _,rfl⟩
 ·have h:=(by rw[hy] at hk; exact hk);refine Exists.intro _ (And.intro (Le.refl _ _ _) ?_);exact Qbe (t:=Qgj) (ss:=fun o=>⟨[[.p (sV h0_0),.p (iV o.2.1),.own 0 59 5 (o.2.2.map Qad)]],[(o.2.2.map Qad).length]⟩) h ⟨[0],rfl,.refl _,.refl _,rfl⟩
def Qg1 (p0:(List UInt8)) (v6:Int):Option (Unit⊕Unit) :=
 if(decide (v6<(p0.length:Int))) then
  idx p0 v6>>=fun x4 =>
  Qkj (x4.toNat:Int)>>=fun x5 =>
  if(!x5) then
   some (.inr ())
  else
   Qg1 p0 (wr (v6+1))
 else
  some (.inl ())
 partial_fixpoint
theorem Q1l:∀ (p0:(List UInt8)),(∀ (v6:Int) (o1:Unit⊕Unit),Qg1 p0 v6=some o1→TL (0,0) Tryz.prog 27 Qv6 (JP2 (0,0) 27 o1 (.exit 0) (Qos p0) .ret (Qot p0)) (Qkt p0 v6)):=by
 intro p0;refine Qg1.partial_correctness p0 _ ?_;intro Qg1' iQg1 v6 o1 h;refine TL.round (Qan mixed tbOk (lv:=Q01) _ _ _ ?_);refine Qaf h (fun hb h=>?_) (fun hb h=>?_)
 ·refine Qcr h (fun x4 hi h=>?_);refine Qak [nV .u8 (x4.toNat:Int)] Qk4 h (fun x5 hy=>(Qqd (x4.toNat:Int) x5 hy)) (fun x5 hy h=>?_);refine Qaf h (fun hb h=>?_) (fun hb h=>?_)
  ·exact JP2.b h (Le.tz 0 0 rfl rfl rfl)
  ·refine TL.le (τ := Qkt p0 (wr (v6+1))) ?_ ((iQg1 (wr (v6+1)) _ h));exact Le.tz 0 0 rfl rfl rfl
 ·exact JP2.a h (Le.tz 0 0 rfl rfl rfl)
def Q3b:=fun p0 v6=>(Q1l p0) v6
end Go.Proofs.YtagokkpnfceidaaGreatDoor
end
