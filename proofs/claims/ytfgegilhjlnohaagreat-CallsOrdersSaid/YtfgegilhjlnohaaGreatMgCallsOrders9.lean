/- The proof's texts, part 9 of 11: the walks by a logic in which data are by value, the plain laws, and at the end the law, for every input. -/
import Derived.Test.YtfgegilhjlnohaaGreatMgCallsOrders8

section
set_option linter.unusedVariables false
set_option linter.unusedSimpArgs false
set_option maxRecDepth 100000
set_option maxHeartbeats 4000000
namespace Go.Proofs.YtfgegilhjlnohaaGreat
open Go.RowKit
mutual
noncomputable def Qhe (p0:(List Qab)) (p1:Bool):Option (Bool) :=
 (Qfd p0 p1 0)>>=fun o1 =>
 match o1 with
 | .inl y2 =>
  some true
 | .inr y3 =>
  some false
 partial_fixpoint
noncomputable def Qfd (p0:(List Qab)) (p1:Bool) (v5:Int):Option (Unit⊕Unit) :=
 if(decide (v5<(p0.length:Int))) then
  idx p0 v5>>=fun x4 =>
  Qrb x4>>=fun x5 =>
  if(!x5) then
   some (.inr ())
  else
   idx p0 v5>>=fun x6 =>
   if(x6.Kind != 8) then
    Qfd p0 p1 (wr (v5+1))
   else
    idx p0 v5>>=fun x7 =>
    ( if(!(v5==(wr ((p0.length:Int)-1)))) then
      idx p0 (wr (v5+1))>>=fun x9 =>
      if(x9.Kind==8) then
       some true
      else
       if(!(v5==(wr ((p0.length:Int)-1)))) then
        idx x7.Text (wr ((x7.Text.length:Int)-1))>>=fun x10 =>
        some ((x10.toNat:Int)==123)
       else
        if p1 then
         idx x7.Text (wr ((x7.Text.length:Int)-1))>>=fun x11 =>
         some ((x11.toNat:Int)==123)
        else
         some false
     else
      if(!(v5==(wr ((p0.length:Int)-1)))) then
       idx x7.Text (wr ((x7.Text.length:Int)-1))>>=fun x12 =>
       some ((x12.toNat:Int)==123)
      else
       if p1 then
        idx x7.Text (wr ((x7.Text.length:Int)-1))>>=fun x13 =>
        some ((x13.toNat:Int)==123)
       else
        some false:Option (Bool))>>=fun o8 =>
    if o8 then
     some (.inr ())
    else
     Qfd p0 p1 (wr (v5+1))
 else
  some (.inl ())
 partial_fixpoint
noncomputable def Qrb (p0:Qab):Option (Bool) :=
 ( if((p0.L.length:Int)==1) then
   Qkv p0.L>>=fun x2 =>
   some x2
  else
   some false:Option (Bool))>>=fun o1 =>
 if(p0.Kind==8) then
  ( if(!(p0.Text==[])) then
    Qmb p0.Text [123,123]>>=fun x4 =>
    if(!x4) then
     Qdn p0 false true false false false>>=fun x5 =>
     some x5
    else
     some false
   else
    some false:Option (Bool))>>=fun o3 =>
  some o3
 else
  if(p0.Kind==9) then
   ( if o1 then
     Qdn p0 false false false true false>>=fun x7 =>
     some x7
    else
     some false:Option (Bool))>>=fun o6 =>
   some o6
  else
   if(p0.Kind==10) then
    ( if o1 then
      Qhe p0.Then true>>=fun x9 =>
      if x9 then
       Qhe p0.Else true>>=fun x10 =>
       if x10 then
        Qdn p0 false false false true true>>=fun x11 =>
        some x11
       else
        some false
      else
       some false
     else
      some false:Option (Bool))>>=fun o8 =>
    some o8
   else
    ( if(p0.Kind==11) then
      some (p0.Kind==11)
     else
      some (p0.Kind==12):Option (Bool))>>=fun o12 =>
    if o12 then
     ( Qjr p0.Name>>=fun x14 =>
      if x14 then
       if o1 then
        Qhe p0.Then true>>=fun x15 =>
        if x15 then
         Qdn p0 true false false true true>>=fun x16 =>
         some x16
        else
         some false
       else
        some false
      else
       some false:Option (Bool))>>=fun o13 =>
     some o13
    else
     if(p0.Kind==13) then
      ( Qjr p0.Name>>=fun x18 =>
       if x18 then
        if o1 then
         Qdn p0 true false false true false>>=fun x19 =>
         some x19
        else
         some false
       else
        some false:Option (Bool))>>=fun o17 =>
      some o17
     else
      some false
 partial_fixpoint
end
theorem Q0d:(∀ (p0:(List Qab)) (p1:Bool) (o:Bool),Qhe p0 p1=some o→PCall Tryz.prog 78 [.sl false (p0.map Qaa),bV p1] (Qe2 o))∧(∀ (p0:(List Qab)) (p1:Bool) (v5:Int) (o1:Unit⊕Unit),Qfd p0 p1 v5=some o1→TL (0,0) Tryz.prog 62 Qwm (JP2 (0,0) 62 o1 (.exit 0) (Qn7 p0 p1) .ret (Qn8 p0 p1)) (Qgv p0 p1 v5))∧(∀ (p0:Qab) (o:Bool),Qrb p0=some o→PCall Tryz.prog 103 [.agg [iV p0.Kind,sV p0.Name,sV p0.Text,iV p0.N,.sl false (p0.L.map Qaa),.sl false (p0.Then.map Qaa),.sl false (p0.Else.map Qaa)]] (Qgk o)):=by
 refine Qhe.mutual_partial_correctness _ _ _ ?_ ?_ ?_
 ·intro Qfd' iQfd p0 p1 o h
  refine PCall.ofB mixed tbOk Qss Tryz.func78 rfl (by kernel_rfl) (Nat.le_of_ble_eq_true rfl) ?_
  refine Qag h (fun o1 ho hk=>?_)
  refine Exists.intro (JP2 _ _ o1 (.exit 0) (Qn7 p0 p1) .ret (Qn8 p0 p1)) (And.intro (T_le (τ := Qgv p0 p1 0) ?_ (TL.loop (iQfd p0 p1 0 o1 ho))) (join2 (fun y2 hy=>?_) (fun y3 hy=>?_)))
  ·exact Le.tz 0 0 rfl rfl rfl
  ·have h:=(by rw[hy] at hk; exact hk)
   refine Qal (t:=Qe2) h ?_
   exact .refl _
  ·have h:=(by rw[hy] at hk; exact hk)
   refine Qal (t:=Qe2) h ?_
   exact .refl _
 ·intro Qfd' Qrb' iQfd iQrb p0 p1 v5 o1 h
  refine TL.round (Qai mixed tbOk (lv:=Qss) _ _ _ ?_)
  refine view (lenMap _ _) rfl ?_
  refine Qae h (fun hb h=>?_) (fun hb h=>?_)
  ·refine Qa5 (l:=p0) (c:=Qaa) (c' := Qa7) h Qam (fun _=>rfl) (by decide) (fun x4 hi h=>?_)
   refine Qah [.agg [iV x4.Kind,sV x4.Name,sV x4.Text,iV x4.N,.sl false (x4.L.map Qaa),.sl false (x4.Then.map Qaa),.sl false (x4.Else.map Qaa)]] Qgk h (fun x5 hy=>(iQrb x4 x5 hy)) (fun x5 hy h=>?_)
   refine Qae h (fun hb h=>?_) (fun hb h=>?_)
   ·exact JP2.b h (Le.tz 0 0 rfl rfl rfl)
   ·refine Qa5 (l:=p0) (c:=Qaa) (c' := Qa7) h Qam (fun _=>rfl) (by decide) (fun x6 hi h=>?_)
    refine Qae h (fun hb h=>?_) (fun hb h=>?_)
    ·refine TL.le (τ := Qgv p0 p1 (wr (v5+1))) ?_ ((iQfd p0 p1 (wr (v5+1)) _ h))
     exact Le.tz 0 0 rfl rfl rfl
    ·refine Qa5 (l:=p0) (c:=Qaa) (c' := Qa7) h Qam (fun _=>rfl) (by decide) (fun x7 hi h=>?_)
     refine view (lenMap _ _) rfl ?_
     refine Qag h (fun o8 ho hk=>?_)
     refine Exists.intro (JP1 _ _ o8 .normal (Qwl p0 p1 v5)) (And.intro ?_ (join1 ?_))
     ·have h:=ho
      refine Qae h (fun hb h=>?_) (fun hb h=>?_)
      ·refine Qa5 (l:=p0) (c:=Qaa) (c' := Qa7) h Qam (fun _=>rfl) (by decide) (fun x9 hi h=>?_)
       refine Qae h (fun hb h=>?_) (fun hb h=>?_)
       ·refine JP1.a h ?_
        exact Le.tz 0 0 rfl rfl rfl
       ·refine Qae h (fun hb h=>?_) (fun hb h=>?_)
        ·refine bT ?_
         refine vrfl ?_
         refine Qfx h (fun x10 hi h=>?_)
         refine JP1.a h ?_
         exact Le.tz 0 0 rfl rfl rfl
        ·refine Qae h (fun hb h=>?_) (fun hb h=>?_)
         ·refine vrfl ?_
          refine Qfx h (fun x11 hi h=>?_)
          refine JP1.a h ?_
          exact Le.tz 0 0 rfl rfl rfl
         ·refine JP1.a h ?_
          exact Le.tz 0 0 rfl rfl rfl
      ·refine bF ?_
       refine Qae h (fun hb h=>?_) (fun hb h=>?_)
       ·refine bT ?_
        refine vrfl ?_
        refine Qfx h (fun x12 hi h=>?_)
        refine JP1.a h ?_
        exact Le.tz 0 0 rfl rfl rfl
       ·refine Qae h (fun hb h=>?_) (fun hb h=>?_)
        ·refine vrfl ?_
         refine Qfx h (fun x13 hi h=>?_)
         refine JP1.a h ?_
         exact Le.tz 0 0 rfl rfl rfl
        ·refine JP1.a h ?_
         exact Le.tz 0 0 rfl rfl rfl
     ·have h:=hk
      refine Qae h (fun hb h=>?_) (fun hb h=>?_)
      ·exact JP2.b h (Le.tz 0 0 rfl rfl rfl)
      ·refine TL.le (τ := Qgv p0 p1 (wr (v5+1))) ?_ ((iQfd p0 p1 (wr (v5+1)) _ h))
       exact Le.tz 0 0 rfl rfl rfl
  ·exact JP2.a h (Le.tz 0 0 rfl rfl rfl)
 ·intro Qhe' iQhe p0 o h
  refine PCall.ofB mixed tbOk Q38 Tryz.func103 rfl (by kernel_rfl) (Nat.le_of_ble_eq_true rfl) ?_
  refine Qag h (fun o1 ho hk=>?_)
  refine Exists.intro (JP1 _ _ o1 .normal (Qzo p0)) (And.intro ?_ (join1 ?_))
  ·have h:=ho
   refine view (lenMap _ _) rfl ?_
   refine Qae h (fun hb h=>?_) (fun hb h=>?_)
   ·refine Qah [.sl false (p0.L.map Qaa)] Qf8 h (fun x2 hy=>(Q2j p0.L x2 hy)) (fun x2 hy h=>?_)
    refine JP1.a h ?_
    exact Le.tz 1 0 rfl rfl rfl
   ·refine JP1.a h ?_
    exact Le.tz 1 0 rfl rfl rfl
  ·have h:=hk
   refine Qae h (fun hb h=>?_) (fun hb h=>?_)
   ·refine Qag h (fun o3 ho hk=>?_)
    refine Exists.intro (JP1 _ _ o3 .normal (Qzp p0)) (And.intro ?_ (join1 ?_))
    ·have h:=ho
     refine Qae h (fun hb h=>?_) (fun hb h=>?_)
     ·refine Qah [sV p0.Text,sV [123,123]] Qk3 h (fun x4 hy=>(Q0c p0.Text [123,123] x4 hy)) (fun x4 hy h=>?_)
      refine Qae h (fun hb h=>?_) (fun hb h=>?_)
      ·refine Qah [.agg [iV p0.Kind,sV p0.Name,sV p0.Text,iV p0.N,.sl false (p0.L.map Qaa),.sl false (p0.Then.map Qaa),.sl false (p0.Else.map Qaa)],bV false,bV true,bV false,bV false,bV false] Qb9 h (fun x5 hy=>(Qcc p0 false true false false false x5 hy)) (fun x5 hy h=>?_)
       refine JP1.a h ?_
       exact Le.tz 1 0 rfl rfl rfl
      ·refine JP1.a h ?_
       exact Le.tz 1 0 rfl rfl rfl
     ·refine bF ?_
      refine JP1.a h ?_
      exact Le.tz 1 0 rfl rfl rfl
    ·have h:=hk
     refine Qal (t:=Qgk) h ?_
     exact .refl _
   ·refine Qae h (fun hb h=>?_) (fun hb h=>?_)
    ·refine Qag h (fun o6 ho hk=>?_)
     refine Exists.intro (JP1 _ _ o6 .normal (Qzq p0)) (And.intro ?_ (join1 ?_))
     ·have h:=ho
      refine Qae h (fun hb h=>?_) (fun hb h=>?_)
      ·refine Qah [.agg [iV p0.Kind,sV p0.Name,sV p0.Text,iV p0.N,.sl false (p0.L.map Qaa),.sl false (p0.Then.map Qaa),.sl false (p0.Else.map Qaa)],bV false,bV false,bV false,bV true,bV false] Qb9 h (fun x7 hy=>(Qcc p0 false false false true false x7 hy)) (fun x7 hy h=>?_)
       refine JP1.a h ?_
       exact Le.tz 1 0 rfl rfl rfl
      ·refine JP1.a h ?_
       exact Le.tz 1 0 rfl rfl rfl
     ·have h:=hk
      refine Qal (t:=Qgk) h ?_
      exact .refl _
    ·refine Qae h (fun hb h=>?_) (fun hb h=>?_)
     ·refine Qag h (fun o8 ho hk=>?_)
      refine Exists.intro (JP1 _ _ o8 .normal (Qzr p0)) (And.intro ?_ (join1 ?_))
      ·have h:=ho
       refine Qae h (fun hb h=>?_) (fun hb h=>?_)
       ·refine Qah [.sl false (p0.Then.map Qaa),bV true] Qe2 h (fun x9 hy=>(iQhe p0.Then true x9 hy)) (fun x9 hy h=>?_)
        refine Qae h (fun hb h=>?_) (fun hb h=>?_)
        ·refine Qah [.sl false (p0.Else.map Qaa),bV true] Qe2 h (fun x10 hy=>(iQhe p0.Else true x10 hy)) (fun x10 hy h=>?_)
         refine Qae h (fun hb h=>?_) (fun hb h=>?_)
         ·refine Qah [.agg [iV p0.Kind,sV p0.Name,sV p0.Text,iV p0.N,.sl false (p0.L.map Qaa),.sl false (p0.Then.map Qaa),.sl false (p0.Else.map Qaa)],bV false,bV false,bV false,bV true,bV true] Qb9 h (fun x11 hy=>(Qcc p0 false false false true true x11 hy)) (fun x11 hy h=>?_)
          refine JP1.a h ?_
          exact Le.tz 1 0 rfl rfl rfl
         ·refine JP1.a h ?_
          exact Le.tz 1 0 rfl rfl rfl
        ·refine bF ?_
         refine JP1.a h ?_
         exact Le.tz 1 0 rfl rfl rfl
       ·refine bF ?_
        refine bF ?_
        refine JP1.a h ?_
        exact Le.tz 1 0 rfl rfl rfl
      ·have h:=hk
       refine Qal (t:=Qgk) h ?_
       exact .refl _
     ·refine Qag h (fun o12 ho hk=>?_)
      refine Exists.intro (JP1 _ _ o12 .normal (Qzs p0 o1)) (And.intro ?_ (join1 ?_))
      ·have h:=ho
       refine Qae h (fun hb h=>?_) (fun hb h=>?_)
       ·refine JP1.a h ?_
        exact Le.tz 1 0 rfl rfl rfl
       ·refine JP1.a h ?_
        exact Le.tz 1 0 rfl rfl rfl
      ·have h:=hk
       refine Qae h (fun hb h=>?_) (fun hb h=>?_)
       ·refine Qag h (fun o13 ho hk=>?_)
        refine Exists.intro (JP1 _ _ o13 .normal (Qzt p0)) (And.intro ?_ (join1 ?_))
        ·have h:=ho
         refine Qah [sV p0.Name] Qgj h (fun x14 hy=>(Qku p0.Name x14 hy)) (fun x14 hy h=>?_)
         refine Qae h (fun hb h=>?_) (fun hb h=>?_)
         ·refine Qae h (fun hb h=>?_) (fun hb h=>?_)
          ·refine Qah [.sl false (p0.Then.map Qaa),bV true] Qe2 h (fun x15 hy=>(iQhe p0.Then true x15 hy)) (fun x15 hy h=>?_)
           refine Qae h (fun hb h=>?_) (fun hb h=>?_)
           ·refine Qah [.agg [iV p0.Kind,sV p0.Name,sV p0.Text,iV p0.N,.sl false (p0.L.map Qaa),.sl false (p0.Then.map Qaa),.sl false (p0.Else.map Qaa)],bV true,bV false,bV false,bV true,bV true] Qb9 h (fun x16 hy=>(Qcc p0 true false false true true x16 hy)) (fun x16 hy h=>?_)
            refine JP1.a h ?_
            exact Le.tz 1 0 rfl rfl rfl
           ·refine JP1.a h ?_
            exact Le.tz 1 0 rfl rfl rfl
          ·refine bF ?_
           refine JP1.a h ?_
           exact Le.tz 1 0 rfl rfl rfl
         ·refine bF ?_
          refine bF ?_
          refine JP1.a h ?_
          exact Le.tz 1 0 rfl rfl rfl
        ·have h:=hk
         refine Qal (t:=Qgk) h ?_
         exact .refl _
       ·refine Qae h (fun hb h=>?_) (fun hb h=>?_)
        ·refine Qag h (fun o17 ho hk=>?_)
         refine Exists.intro (JP1 _ _ o17 .normal (Qzu p0)) (And.intro ?_ (join1 ?_))
         ·have h:=ho
          refine Qah [sV p0.Name] Qgj h (fun x18 hy=>(Qku p0.Name x18 hy)) (fun x18 hy h=>?_)
          refine Qae h (fun hb h=>?_) (fun hb h=>?_)
          ·refine Qae h (fun hb h=>?_) (fun hb h=>?_)
           ·refine Qah [.agg [iV p0.Kind,sV p0.Name,sV p0.Text,iV p0.N,.sl false (p0.L.map Qaa),.sl false (p0.Then.map Qaa),.sl false (p0.Else.map Qaa)],bV true,bV false,bV false,bV true,bV false] Qb9 h (fun x19 hy=>(Qcc p0 true false false true false x19 hy)) (fun x19 hy h=>?_)
            refine JP1.a h ?_
            exact Le.tz 1 0 rfl rfl rfl
           ·refine JP1.a h ?_
            exact Le.tz 1 0 rfl rfl rfl
          ·refine bF ?_
           refine JP1.a h ?_
           exact Le.tz 1 0 rfl rfl rfl
         ·have h:=hk
          refine Qal (t:=Qgk) h ?_
          exact .refl _
        ·refine Qal (t:=Qgk) h ?_
         exact .refl _
theorem Q2k:∀ (p0:(List Qab)) (p1:Bool) (o:Bool),Qhe p0 p1=some o→PCall Tryz.prog 78 [.sl false (p0.map Qaa),bV p1] (Qe2 o):=fun p0 p1=>Q0d.1 p0 p1
noncomputable def Q2l (p0:(List Qab)):Option (Bool) :=
 ( Qhe p0 false>>=fun x2 =>
  if x2 then
   Qhd p0>>=fun x3 =>
   if(decide (x3≤12)) then
    Qfb p0>>=fun x4 =>
    some (decide (x4≤1024))
   else
    some false
  else
   some false:Option (Bool))>>=fun o1 =>
 some o1
theorem Q7q:∀ (p0:(List Qab)) (o:Bool),Q2l p0=some o→PCall Tryz.prog 44 [.sl false (p0.map Qaa)] (Qzg o):=by
 intro p0 o h
 unfold Q2l at h
 refine PCall.ofB mixed tbOk Q7n Tryz.func44 rfl (by kernel_rfl) (Nat.le_of_ble_eq_true rfl) ?_
 refine Qag h (fun o1 ho hk=>?_)
 refine Exists.intro (JP1 _ _ o1 .normal (Q35 )) (And.intro ?_ (join1 ?_))
 ·have h:=ho
  refine Qah [.sl false (p0.map Qaa),bV false] Qe2 h (fun x2 hy=>(Q2k p0 false x2 hy)) (fun x2 hy h=>?_)
  refine Qae h (fun hb h=>?_) (fun hb h=>?_)
  ·refine Qah [.sl false (p0.map Qaa)] Qhu h (fun x3 hy=>(Q4e p0 x3 hy)) (fun x3 hy h=>?_)
   refine Qae h (fun hb h=>?_) (fun hb h=>?_)
   ·refine Qah [.sl false (p0.map Qaa)] Qf7 h (fun x4 hy=>(Q2f p0 x4 hy)) (fun x4 hy h=>?_)
    refine JP1.a h ?_
    exact Le.tz 0 0 rfl rfl rfl
   ·refine JP1.a h ?_
    exact Le.tz 0 0 rfl rfl rfl
  ·refine bF ?_
   refine JP1.a h ?_
   exact Le.tz 0 0 rfl rfl rfl
 ·have h:=hk
  refine Qal (t:=Qzg) h ?_
  exact .refl _
noncomputable def Qfe (p0:(List Qac)) (p1:(List UInt8)) (v6:Int):Option (Unit⊕(List Qab)) :=
 if(decide (v6<(p0.length:Int))) then
  idx p0 v6>>=fun x4 =>
  if(x4.Name==p1) then
   idx p0 v6>>=fun x5 =>
   some (.inr x5.L)
  else
   Qfe p0 p1 (wr (v6+1))
 else
  some (.inl ())
 partial_fixpoint
theorem Qvj:∀ (p0:(List Qac)) (p1:(List UInt8)),(∀ (v6:Int) (o1:Unit⊕(List Qab)),Qfe p0 p1 v6=some o1→TL (0,0) Tryz.prog 25 Qqy (JP2 (0,0) 25 o1 (.exit 0) (Qlo p0 p1) .ret (Qlp p0 p1)) (Qii p0 p1 v6)):=by
 intro p0 p1
 refine Qfe.partial_correctness p0 p1 _ ?_
 intro Qfe' iQfe v6 o1 h
 refine TL.round (Qai mixed tbOk (lv:=Qux) _ _ _ ?_)
 refine view (lenMap _ _) rfl ?_
 refine Qae h (fun hb h=>?_) (fun hb h=>?_)
 ·refine Qa5 (l:=p0) (c:=Qaf) (c' := Qaf) h (fun _=>rfl) (fun _=>rfl) (by decide) (fun x4 hi h=>?_)
  refine Qae h (fun hb h=>?_) (fun hb h=>?_)
  ·refine Qa5 (l:=p0) (c:=Qaf) (c' := Qaf) h (fun _=>rfl) (fun _=>rfl) (by decide) (fun x5 hi h=>?_)
   exact JP2.b h (Le.tz 0 0 rfl rfl rfl)
  ·refine TL.le (τ := Qii p0 p1 (wr (v6+1))) ?_ ((iQfe (wr (v6+1)) _ h))
   exact Le.tz 0 0 rfl rfl rfl
 ·exact JP2.a h (Le.tz 0 0 rfl rfl rfl)
theorem Qxe:∀ (p0:(List Qac)) (p1:(List UInt8)) (v6:Int) (o1:Unit⊕(List Qab)),Qfe p0 p1 v6=some o1→TL (0,0) Tryz.prog 25 Qqy (JP2 (0,0) 25 o1 (.exit 0) (Qlo p0 p1) .ret (Qlp p0 p1)) (Qii p0 p1 v6):=fun p0 p1 v6=>(Qvj p0 p1) v6
noncomputable def Qjs (p0:(List Qac)) (p1:(List UInt8)):Option ((List Qab)×Bool) :=
 (Qfe p0 p1 0)>>=fun o1 =>
 match o1 with
 | .inl y2 =>
  some ([],false)
 | .inr y3 =>
  some (y3,true)
theorem Qkw:∀ (p0:(List Qac)) (p1:(List UInt8)) (o:(List Qab)×Bool),Qjs p0 p1=some o→PCall Tryz.prog 31 [.sl false (p0.map Qaf),sV p1] (Qgl o):=by
 intro p0 p1 o h
 unfold Qjs at h
 refine PCall.ofB mixed tbOk Qux Tryz.func31 rfl (by kernel_rfl) (Nat.le_of_ble_eq_true rfl) ?_
 refine Qag h (fun o1 ho hk=>?_)
 refine Exists.intro (JP2 _ _ o1 (.exit 0) (Qlo p0 p1) .ret (Qlp p0 p1)) (And.intro (T_le (τ := Qii p0 p1 0) ?_ (TL.loop (Qxe p0 p1 0 o1 ho))) (join2 (fun y2 hy=>?_) (fun y3 hy=>?_)))
 ·exact Le.tz 0 0 rfl rfl rfl
 ·have h:=(by rw[hy] at hk; exact hk)
  refine Qal (t:=Qgl) h ?_
  exact .tup (xs:=[.sl true [],bV false]) (ys:=[.sl false [],bV false]) (.cons (.not) (.cons (.refl _) (.nil)))
 ·have h:=(by rw[hy] at hk; exact hk)
  refine Qal (t:=Qgl) h ?_
  exact .refl _
noncomputable def Qd7 (p0:(List Qac)) (v4:Int):Option (Unit⊕((List UInt8)×Int)) :=
 if(decide (v4<(p0.length:Int))) then
  ( idx p0 v4>>=fun x5 =>
   Qjr x5.Name>>=fun x6 =>
   if(!x6) then
    some true
   else
    idx p0 v4>>=fun x7 =>
    Q2l x7.L>>=fun x8 =>
    some (!x8):Option (Bool))>>=fun o4 =>
  if o4 then
   idx p0 v4>>=fun x9 =>
   some (.inr (x9.Name,7))
  else
   cutL p0 0 v4>>=fun x10 =>
   idx p0 v4>>=fun x11 =>
   Qjs x10 x11.Name>>=fun x12 =>
   if x12.2 then
    idx p0 v4>>=fun x13 =>
    some (.inr (x13.Name,9))
   else
    Qd7 p0 (wr (v4+1))
 else
  some (.inl ())
 partial_fixpoint
theorem Qs8:∀ (p0:(List Qac)),(∀ (v4:Int) (o1:Unit⊕((List UInt8)×Int)),Qd7 p0 v4=some o1→TL (0,0) Tryz.prog 119 Qpm (JP2 (0,0) 119 o1 (.exit 0) (Qkb p0) .ret (Qkc p0)) (Qgw p0 v4)):=by
 intro p0
 refine Qd7.partial_correctness p0 _ ?_
 intro Qd7' iQd7 v4 o1 h
 refine TL.round (Qai mixed tbOk (lv:=Qir) _ _ _ ?_)
 refine view (lenMap _ _) rfl ?_
 refine Qae h (fun hb h=>?_) (fun hb h=>?_)
 ·refine Qag h (fun o4 ho hk=>?_)
  refine Exists.intro (JP1 _ _ o4 .normal (Qwo p0 v4)) (And.intro ?_ (join1 ?_))
  ·have h:=ho
   refine Qa5 (l:=p0) (c:=Qaf) (c' := Qaf) h (fun _=>rfl) (fun _=>rfl) (by decide) (fun x5 hi h=>?_)
   refine Qah [sV x5.Name] Qgj h (fun x6 hy=>(Qku x5.Name x6 hy)) (fun x6 hy h=>?_)
   refine Qae h (fun hb h=>?_) (fun hb h=>?_)
   ·refine JP1.a h ?_
    exact Le.tz 0 0 rfl rfl rfl
   ·refine Qa5 (l:=p0) (c:=Qaf) (c' := Qaf) h (fun _=>rfl) (fun _=>rfl) (by decide) (fun x7 hi h=>?_)
    refine Qah [.sl false (x7.L.map Qaa)] Qzg h (fun x8 hy=>(Q7q x7.L x8 hy)) (fun x8 hy h=>?_)
    refine JP1.a h ?_
    exact Le.tz 0 0 rfl rfl rfl
  ·have h:=hk
   refine Qae h (fun hb h=>?_) (fun hb h=>?_)
   ·refine Qa5 (l:=p0) (c:=Qaf) (c' := Qaf) h (fun _=>rfl) (fun _=>rfl) (by decide) (fun x9 hi h=>?_)
    exact JP2.b h (Le.tz 0 0 rfl rfl rfl)
   ·refine And.intro (by decide +kernel) (And.intro rfl ?_)
    refine Q48 (c:=Qaf) none (some v4) h (fun _=>rfl) (fun x10 hi h=>?_)
    refine Qa5 (l:=p0) (c:=Qaf) (c' := Qaf) h (fun _=>rfl) (fun _=>rfl) (by decide) (fun x11 hi h=>?_)
    refine Qfn [.sl false (x10.map Qaf),sV x11.Name] Qgl h (fun x12 hy=>(Qkw x10 x11.Name x12 hy)) (fun x12 hy h=>?_)
    refine Qae h (fun hb h=>?_) (fun hb h=>?_)
    ·refine Qa5 (l:=p0) (c:=Qaf) (c' := Qaf) h (fun _=>rfl) (fun _=>rfl) (by decide) (fun x13 hi h=>?_)
     exact JP2.b h (Le.tz 0 0 rfl rfl rfl)
    ·refine TL.le (τ := Qgw p0 (wr (v4+1))) ?_ ((iQd7 (wr (v4+1)) _ h))
     exact Le.tz 0 0 rfl rfl rfl
 ·exact JP2.a h (Le.tz 0 0 rfl rfl rfl)
theorem Qvk:∀ (p0:(List Qac)) (v4:Int) (o1:Unit⊕((List UInt8)×Int)),Qd7 p0 v4=some o1→TL (0,0) Tryz.prog 119 Qpm (JP2 (0,0) 119 o1 (.exit 0) (Qkb p0) .ret (Qkc p0)) (Qgw p0 v4):=fun p0 v4=>(Qs8 p0) v4
noncomputable def Qd8 (p0:(List Qac)) (v7:Int) (x18:(List (List UInt8))) (v9:Int):Option (Unit⊕(List UInt8)) :=
 if(decide (v9<(x18.length:Int))) then
  idx x18 v9>>=fun x22 =>
  Qjs p0 x22>>=fun x23 =>
  if(!x23.2) then
   idx p0 v7>>=fun x24 =>
   some (.inr x24.Name)
  else
   Qd8 p0 v7 x18 (wr (v9+1))
 else
  some (.inl ())
 partial_fixpoint
theorem Qs9:∀ (p0:(List Qac)) (v7:Int) (x18:(List (List UInt8))),(∀ (v9:Int) (o19:Unit⊕(List UInt8)),Qd8 p0 v7 x18 v9=some o19→TL (0,0) Tryz.prog 119 Qpn (JP2 (0,0) 119 o19 (.exit 4) (Qkd p0 v7 x18) .ret (Qke p0 v7 x18)) (Qgx p0 v7 x18 v9)):=by
 intro p0 v7 x18
 refine Qd8.partial_correctness p0 v7 x18 _ ?_
 intro Qd8' iQd8 v9 o19 h
 refine TL.round (Qai mixed tbOk (lv:=Qir) _ _ _ ?_)
 refine view (lenMap _ _) rfl ?_
 refine Qae h (fun hb h=>?_) (fun hb h=>?_)
 ·refine Qa5 (l:=x18) (c:=cStr) (c' := cStr) h (fun _=>rfl) (fun _=>rfl) (by decide) (fun x22 hi h=>?_)
  refine Qah [.sl false (p0.map Qaf),sV x22] Qgl h (fun x23 hy=>(Qkw p0 x22 x23 hy)) (fun x23 hy h=>?_)
  refine Qae h (fun hb h=>?_) (fun hb h=>?_)
  ·refine Qa5 (l:=p0) (c:=Qaf) (c' := Qaf) h (fun _=>rfl) (fun _=>rfl) (by decide) (fun x24 hi h=>?_)
   exact JP2.b h (Le.tz 0 1 rfl rfl rfl)
  ·refine TL.le (τ := Qgx p0 v7 x18 (wr (v9+1))) ?_ ((iQd8 (wr (v9+1)) _ h))
   exact Le.tz 0 1 rfl rfl rfl
 ·exact JP2.a h (Le.tz 0 1 rfl rfl rfl)
theorem Qvl:∀ (p0:(List Qac)) (v7:Int) (x18:(List (List UInt8))) (v9:Int) (o19:Unit⊕(List UInt8)),Qd8 p0 v7 x18 v9=some o19→TL (0,0) Tryz.prog 119 Qpn (JP2 (0,0) 119 o19 (.exit 4) (Qkd p0 v7 x18) .ret (Qke p0 v7 x18)) (Qgx p0 v7 x18 v9):=fun p0 v7 x18 v9=>(Qs9 p0 v7 x18) v9
noncomputable def Qiw (p0:(List (List UInt8))) (p1:(List UInt8)) (v5:Int):Option (Unit⊕Unit) :=
 if(decide (v5<(p0.length:Int))) then
  idx p0 v5>>=fun x4 =>
  if(x4==p1) then
   some (.inr ())
  else
   Qiw p0 p1 (wr (v5+1))
 else
  some (.inl ())
 partial_fixpoint
theorem Q0e:∀ (p0:(List (List UInt8))) (p1:(List UInt8)),(∀ (v5:Int) (o1:Unit⊕Unit),Qiw p0 p1 v5=some o1→TL (0,0) Tryz.prog 18 Quy (JP2 (0,0) 18 o1 (.exit 0) (Qoc p0 p1) .ret (Qod p0 p1)) (Qk5 p0 p1 v5)):=by
 intro p0 p1
 refine Qiw.partial_correctness p0 p1 _ ?_
 intro Qiw' iQiw v5 o1 h
 refine TL.round (Qai mixed tbOk (lv:=Q13) _ _ _ ?_)
 refine view (lenMap _ _) rfl ?_
 refine Qae h (fun hb h=>?_) (fun hb h=>?_)
 ·refine Qa5 (l:=p0) (c:=cStr) (c' := cStr) h (fun _=>rfl) (fun _=>rfl) (by decide) (fun x4 hi h=>?_)
  refine Qae h (fun hb h=>?_) (fun hb h=>?_)
  ·exact JP2.b h (Le.tz 0 0 rfl rfl rfl)
  ·refine TL.le (τ := Qk5 p0 p1 (wr (v5+1))) ?_ ((iQiw (wr (v5+1)) _ h))
   exact Le.tz 0 0 rfl rfl rfl
 ·exact JP2.a h (Le.tz 0 0 rfl rfl rfl)
theorem Q2m:∀ (p0:(List (List UInt8))) (p1:(List UInt8)) (v5:Int) (o1:Unit⊕Unit),Qiw p0 p1 v5=some o1→TL (0,0) Tryz.prog 18 Quy (JP2 (0,0) 18 o1 (.exit 0) (Qoc p0 p1) .ret (Qod p0 p1)) (Qk5 p0 p1 v5):=fun p0 p1 v5=>(Q0e p0 p1) v5
noncomputable def Qpz (p0:(List (List UInt8))) (p1:(List UInt8)):Option (Bool) :=
 (Qiw p0 p1 0)>>=fun o1 =>
 match o1 with
 | .inl y2 =>
  some false
 | .inr y3 =>
  some true
theorem Qoo:∀ (p0:(List (List UInt8))) (p1:(List UInt8)) (o:Bool),Qpz p0 p1=some o→PCall Tryz.prog 21 [.sl false (p0.map cStr),sV p1] (Qk4 o):=by
 intro p0 p1 o h
 unfold Qpz at h
 refine PCall.ofB mixed tbOk Q13 Tryz.func21 rfl (by kernel_rfl) (Nat.le_of_ble_eq_true rfl) ?_
 refine Qag h (fun o1 ho hk=>?_)
 refine Exists.intro (JP2 _ _ o1 (.exit 0) (Qoc p0 p1) .ret (Qod p0 p1)) (And.intro (T_le (τ := Qk5 p0 p1 0) ?_ (TL.loop (Q2m p0 p1 0 o1 ho))) (join2 (fun y2 hy=>?_) (fun y3 hy=>?_)))
 ·exact Le.tz 0 0 rfl rfl rfl
 ·have h:=(by rw[hy] at hk; exact hk)
  refine Qal (t:=Qk4) h ?_
  exact .refl _
 ·have h:=(by rw[hy] at hk; exact hk)
  refine Qal (t:=Qk4) h ?_
  exact .refl _
noncomputable def Qff (p0:(List (List UInt8))) (p1:(List UInt8)) (v5:Int):Option (Int) :=
 ( if(decide (v5<(p0.length:Int))) then
   idx p0 v5>>=fun x4 =>
   some (Op.bytesLess x4 p1)
  else
   some false:Option (Bool))>>=fun o3 =>
 if o3 then
  Qff p0 p1 (wr (v5+1))
 else
  some v5
 partial_fixpoint
theorem Qvm:∀ (p0:(List (List UInt8))) (p1:(List UInt8)),(∀ (v5:Int) (o2:Int),Qff p0 p1 v5=some o2→TL (0,1) Tryz.prog 36 Qq1 (JP1 (0,1) 36 o2 (.exit 0) (Qls p0 p1)) (Qik p0 p1 v5)):=by
 intro p0 p1
 refine Qff.partial_correctness p0 p1 _ ?_
 intro Qff' iQff v5 o2 h
 refine TL.round (Qai mixed tbOk (lv:=Qu0) _ _ _ ?_)
 refine Qag h (fun o3 ho hk=>?_)
 refine Exists.intro (JP1 _ _ o3 .normal (Qzx p0 p1 v5)) (And.intro ?_ (join1 ?_))
 ·have h:=ho
  refine view (lenMap _ _) rfl ?_
  refine Qae h (fun hb h=>?_) (fun hb h=>?_)
  ·refine Qa5 (l:=p0) (c:=cStr) (c' := cStr) h (fun _=>rfl) (fun _=>rfl) (by decide) (fun x4 hi h=>?_)
   refine JP1.a h ?_
   exact Le.tz 0 1 rfl rfl rfl
  ·refine JP1.a h ?_
   exact Le.tz 0 1 rfl rfl rfl
 ·have h:=hk
  refine Qae h (fun hb h=>?_) (fun hb h=>?_)
  ·refine TL.le (τ := Qik p0 p1 (wr (v5+1))) ?_ ((iQff (wr (v5+1)) _ h))
   exact Le.tz 0 1 rfl rfl rfl
  ·exact JP1.a h (Le.tz 0 1 rfl rfl rfl)
theorem Qxf:∀ (p0:(List (List UInt8))) (p1:(List UInt8)) (v5:Int) (o2:Int),Qff p0 p1 v5=some o2→TL (0,1) Tryz.prog 36 Qq1 (JP1 (0,1) 36 o2 (.exit 0) (Qls p0 p1)) (Qik p0 p1 v5):=fun p0 p1 v5=>(Qvm p0 p1) v5
noncomputable def Qla (p0:(List (List UInt8))) (p1:(List UInt8)):Option ((List (List UInt8))) :=
 Qpz p0 p1>>=fun x1 =>
 if x1 then
  some p0
 else
  (Qff p0 p1 0)>>=fun o2 =>
  cutL p0 0 o2>>=fun x5 =>
  appL 16 [] x5>>=fun x6 =>
  appL 16 x6 [p1]>>=fun x7 =>
  cutL p0 o2 (p0.length:Int)>>=fun x8 =>
  appL 16 x7 x8>>=fun x9 =>
  need (((p0.map cStr).length)<((x9.map cStr).length))>>=fun _ =>
  some x9
theorem Qm2:∀ (p0:(List (List UInt8))) (p1:(List UInt8)) (o:(List (List UInt8))),Qla p0 p1=some o→CallOK Tryz.prog 55 [.own 0 9 1 (p0.map cStr),.p (sV p1)] ⟨[],[(p0.map cStr).length]⟩ (Qr4 o) ⟨[],[(o.map cStr).length]⟩:=by
 intro p0 p1 o h
 unfold Qla at h
 refine CallOK.ofBN mixed tbOk Qu0 Tryz.func55 rfl (by kernel_rfl) (Nat.le_of_ble_eq_true rfl) rfl rfl (Nat.le_of_ble_eq_true rfl) ?_
 refine Qah [.sl false (p0.map cStr),sV p1] Qk4 h (fun x1 hy=>(Qoo p0 p1 x1 hy)) (fun x1 hy h=>?_)
 refine Qae h (fun hb h=>?_) (fun hb h=>?_)
 ·refine Exists.intro _ (And.intro (Le.refl _ _ _) ?_)
  exact Quq (t:=Qr4) (ss:=fun o=>⟨[],[(o.map cStr).length]⟩) h ⟨[],[0],rfl,rfl,.refl _,.refl _,rfl,rfl⟩
 ·refine Qag h (fun o2 ho hk=>?_)
  refine Exists.intro (JP1 _ _ o2 (.exit 0) (Qls p0 p1)) (And.intro (T_le (τ := Qik p0 p1 0) ?_ (TL.loop (Qxf p0 p1 0 o2 ho))) (join1 ?_))
  ·exact Le.tz 0 1 rfl rfl rfl
  have h:=hk
  refine And.intro (by decide +kernel) (And.intro rfl ?_)
  refine Q48 (full:=false) (c:=cStr) none (some o2) h (fun _=>rfl) (fun x5 hi h=>?_)
  refine Q7b (a:=([]:List (List UInt8))) (b:=x5) (c:=cStr) h (.refl _) (.refl _) (fun _=>rfl) (.inl rfl) (fun x6 hi h=>?_)
  refine Qlc (a:=x6) (b:=[p1]) (c:=cStr) h (.refl _) (fun _=>rfl) rfl (fun x7 hi h=>?_)
  refine Q48 (full:=false) (c:=cStr) (some o2) none h (fun _=>rfl) (fun x8 hi h=>?_)
  refine Qlc (a:=x7) (b:=x8) (c:=cStr) h (.refl _) (fun _=>rfl) rfl (fun x9 hi h=>?_)
  refine Qjn h (fun hn h=>?_)
  refine Exists.intro _ (And.intro ((Le.into 4 0 0 1 _ _ rfl rfl rfl rfl rfl hn (by decide)).trans (Le.refl _ _ _)) ?_)
  exact Quq (t:=Qr4) (ss:=fun o=>⟨[],[(o.map cStr).length]⟩) h ⟨[],[0],rfl,rfl,.refl _,.refl _,rfl,rfl⟩
noncomputable def Qel (p0:(List Qab)) (v4:Int) (x9:(List (List UInt8))) (x10:(List (List UInt8))) (v3_:(List (List UInt8))) (v6:Int):Option ((List (List UInt8))) :=
 if(decide (v6<(x10.length:Int))) then
  idx x10 v6>>=fun x12 =>
  Qla v3_ x12>>=fun x13 =>
  Qel p0 v4 x9 x10 x13 (wr (v6+1))
 else
  some v3_
 partial_fixpoint
theorem Qvn:∀ (p0:(List Qab)) (v4:Int) (x9:(List (List UInt8))) (x10:(List (List UInt8))),(∀ (v3_:(List (List UInt8))) (v6:Int) (o11:(List (List UInt8))),Qel p0 v4 x9 x10 v3_ v6=some o11→TL (0,0) Tryz.prog 53 Qqz (JP1 (0,0) 53 o11 (.exit 2) (Qlq p0 v4 x9 x10)) (Qij p0 v4 x9 x10 v3_ v6)):=by
 intro p0 v4 x9 x10
 refine Qel.partial_correctness p0 v4 x9 x10 _ ?_
 intro Qel' iQel v3_ v6 o11 h
 refine TL.round (Qai mixed tbOk (lv:=Qp8) _ _ _ ?_)
 refine view (lenMap _ _) rfl ?_
 refine Qae h (fun hb h=>?_) (fun hb h=>?_)
 ·refine Qa5 (l:=x10) (c:=cStr) (c' := cStr) h (fun _=>rfl) (fun _=>rfl) (by decide) (fun x12 hi h=>?_)
  refine Or.inr ?_
  refine Qtz _ _ h (fun x13 hy=>((Qm2 v3_ x12 x13 hy).fr [] [0] rfl rfl rfl)) (fun x13 hy h=>?_)
  refine TL.le (τ := Qij p0 v4 x9 x10 x13 (wr (v6+1))) ?_ ((iQel x13 (wr (v6+1)) _ h))
  exact Le.tz 0 3 rfl rfl rfl
 ·exact JP1.a h (Le.tz 0 3 rfl rfl rfl)
theorem Qxg:∀ (p0:(List Qab)) (v4:Int) (x9:(List (List UInt8))) (x10:(List (List UInt8))) (v3_:(List (List UInt8))) (v6:Int) (o11:(List (List UInt8))),Qel p0 v4 x9 x10 v3_ v6=some o11→TL (0,0) Tryz.prog 53 Qqz (JP1 (0,0) 53 o11 (.exit 2) (Qlq p0 v4 x9 x10)) (Qij p0 v4 x9 x10 v3_ v6):=fun p0 v4 x9 x10 v3_ v6=>(Qvn p0 v4 x9 x10) v3_ v6
mutual
noncomputable def Qdf (p0:(List Qab)):Option ((List (List UInt8))) :=
 (Qfg p0 [] 0)>>=fun o1 =>
 some o1
 partial_fixpoint
noncomputable def Qfg (p0:(List Qab)) (v3:(List (List UInt8))) (v4:Int):Option ((List (List UInt8))) :=
 if(decide (v4<(p0.length:Int))) then
  ( idx p0 v4>>=fun x3 =>
   if(x3.Kind==13) then
    idx p0 v4>>=fun x4 =>
    Qla v3 x4.Name>>=fun x5 =>
    some x5
   else
    some v3:Option ((List (List UInt8))))>>=fun o2 =>
  idx p0 v4>>=fun x6 =>
  Qdf x6.Then>>=fun x7 =>
  idx p0 v4>>=fun x8 =>
  Qdf x8.Else>>=fun x9 =>
  appL 16 x7 x9>>=fun x10 =>
  (Qel p0 v4 x9 x10 o2 0)>>=fun o11 =>
  Qfg p0 o11 (wr (v4+1))
 else
  some v3
 partial_fixpoint
end
theorem Q2n:(∀ (p0:(List Qab)) (o:(List (List UInt8))),Qdf p0=some o→CallOK Tryz.prog 45 [.p (.sl false (p0.map Qaa))] ⟨[],[]⟩ (Qr3 o) ⟨[],[(o.map cStr).length]⟩)∧(∀ (p0:(List Qab)) (v3:(List (List UInt8))) (v4:Int) (o1:(List (List UInt8))),Qfg p0 v3 v4=some o1→TL (0,0) Tryz.prog 53 Qzw (JP1 (0,0) 53 o1 (.exit 0) (Qps p0)) (Qlr p0 v3 v4)):=by
 refine Qdf.mutual_partial_correctness _ _ ?_ ?_
 ·intro Qfg' iQfg p0 o h
  refine CallOK.ofBN mixed tbOk Qp8 Tryz.func45 rfl (by kernel_rfl) (Nat.le_of_ble_eq_true rfl) rfl rfl (Nat.le_of_ble_eq_true rfl) ?_
  refine Qag h (fun o1 ho hk=>?_)
  refine Exists.intro (JP1 _ _ o1 (.exit 0) (Qps p0)) (And.intro (T_le (τ := Qlr p0 [] 0) ?_ (TL.loop (iQfg p0 [] 0 o1 ho))) (join1 ?_))
  ·exact Le.trans (τ := ⟨[(0,.p (.sl false (p0.map Qaa))),(3,.p (.sl true [])),(4,.p (iV 0))],⟨[],[]⟩⟩) (Le.tz 0 0 rfl rfl rfl) ((Le.own 3 9 1 rfl sizeNil).trans (Le.tz 0 1 rfl rfl rfl))
  have h:=hk
  refine Exists.intro _ (And.intro (Le.refl _ _ _) ?_)
  exact Quq (t:=Qr3) (ss:=fun o=>⟨[],[(o.map cStr).length]⟩) h ⟨[],[0],rfl,rfl,.refl _,.refl _,rfl,rfl⟩
 ·intro Qdf' Qfg' iQdf iQfg p0 v3 v4 o1 h
  refine TL.round (Qai mixed tbOk (lv:=Qp8) _ _ _ ?_)
  refine view (lenMap _ _) rfl ?_
  refine Qae h (fun hb h=>?_) (fun hb h=>?_)
  ·refine Qag h (fun o2 ho hk=>?_)
   refine Exists.intro (JP1 _ _ o2 .normal (Qzv p0 v4)) (And.intro ?_ (join1 ?_))
   ·have h:=ho
    refine Qa5 (l:=p0) (c:=Qaa) (c' := Qa7) h Qam (fun _=>rfl) (by decide) (fun x3 hi h=>?_)
    refine Qae h (fun hb h=>?_) (fun hb h=>?_)
    ·refine Qa5 (l:=p0) (c:=Qaa) (c' := Qa7) h Qam (fun _=>rfl) (by decide) (fun x4 hi h=>?_)
     refine Or.inr ?_
     refine Qtz _ _ h (fun x5 hy=>((Qm2 v3 x4.Name x5 hy).fr [] [0] rfl rfl rfl)) (fun x5 hy h=>?_)
     refine JP1.a h ?_
     exact Le.tz 0 1 rfl rfl rfl
    ·refine JP1.a h ?_
     exact Le.tz 0 1 rfl rfl rfl
   ·have h:=hk
    refine And.intro (by decide +kernel) (And.intro rfl ?_)
    refine Qa5 (l:=p0) (c:=Qaa) (c' := Qa7) h Qam (fun _=>rfl) (by decide) (fun x6 hi h=>?_)
    refine Qy5 _ _ h (fun x7 hy=>((iQdf x6.Then x7 hy).ft rfl [] rfl rfl rfl)) (fun x7 hy h=>?_)
    refine Qa5 (l:=p0) (c:=Qaa) (c' := Qa7) h Qam (fun _=>rfl) (by decide) (fun x8 hi h=>?_)
    refine Qy5 _ _ h (fun x9 hy=>((iQdf x8.Else x9 hy).ft rfl [] rfl rfl rfl)) (fun x9 hy h=>?_)
    refine Qlc (a:=x7) (b:=x9) (c:=cStr) h (.refl _) (fun _=>rfl) rfl (fun x10 hi h=>?_)
    refine Qag h (fun o11 ho hk=>?_)
    refine Exists.intro (JP1 _ _ o11 (.exit 2) (Qlq p0 v4 x9 x10)) (And.intro (T_le (τ := Qij p0 v4 x9 x10 o2 0) ?_ (TL.loop (Qxg p0 v4 x9 x10 o2 0 o11 ho))) (join1 ?_))
    ·exact Le.tz 0 3 rfl rfl rfl
    have h:=hk
    refine TL.le (τ := Qlr p0 o11 (wr (v4+1))) ?_ ((iQfg p0 o11 (wr (v4+1)) _ h))
    exact Le.tz 0 1 rfl rfl rfl
  ·exact JP1.a h (Le.tz 0 1 rfl rfl rfl)
theorem Qm3:∀ (p0:(List Qab)) (o:(List (List UInt8))),Qdf p0=some o→CallOK Tryz.prog 45 [.p (.sl false (p0.map Qaa))] ⟨[],[]⟩ (Qr3 o) ⟨[],[(o.map cStr).length]⟩:=fun p0=>Q2n.1 p0
noncomputable def Qd9 (p0:(List Qac)) (v7:Int):Option (Unit⊕(List UInt8)) :=
 if(decide (v7<(p0.length:Int))) then
  idx p0 v7>>=fun x17 =>
  Qdf x17.L>>=fun x18 =>
  (Qd8 p0 v7 x18 0)>>=fun o19 =>
  match o19 with
  | .inl y20 =>
   Qd9 p0 (wr (v7+1))
  | .inr y21 =>
   some (.inr y21)
 else
  some (.inl ())
 partial_fixpoint
theorem Qta:∀ (p0:(List Qac)),(∀ (v7:Int) (o14:Unit⊕(List UInt8)),Qd9 p0 v7=some o14→TL (0,0) Tryz.prog 119 Qpo (JP2 (0,0) 119 o14 (.exit 2) (Qkf p0) .ret (Qkg p0)) (Qgy p0 v7)):=by
 intro p0
 refine Qd9.partial_correctness p0 _ ?_
 intro Qd9' iQd9 v7 o14 h
 refine TL.round (Qai mixed tbOk (lv:=Qir) _ _ _ ?_)
 refine view (lenMap _ _) rfl ?_
 refine Qae h (fun hb h=>?_) (fun hb h=>?_)
 ·refine Qa5 (l:=p0) (c:=Qaf) (c' := Qaf) h (fun _=>rfl) (fun _=>rfl) (by decide) (fun x17 hi h=>?_)
  refine Qch _ _ h (fun x18 hy=>((Qm3 x17.L x18 hy).fr [] [] rfl rfl rfl)) (fun x18 hy h=>?_)
  refine Qag h (fun o19 ho hk=>?_)
  refine Exists.intro (JP2 _ _ o19 (.exit 4) (Qkd p0 v7 x18) .ret (Qke p0 v7 x18)) (And.intro (T_le (τ := Qgx p0 v7 x18 0) ?_ (TL.loop (Qvl p0 v7 x18 0 o19 ho))) (join2 (fun y20 hy=>?_) (fun y21 hy=>?_)))
  ·exact Le.tz 0 1 rfl rfl rfl
  ·have h:=(by rw[hy] at hk; exact hk)
   refine TL.le (τ := Qgy p0 (wr (v7+1))) ?_ ((iQd9 (wr (v7+1)) _ h))
   exact Le.tz 0 0 rfl rfl rfl
  ·have h:=(by rw[hy] at hk; exact hk)
   exact JP2.b h (Le.tz 0 0 rfl rfl rfl)
 ·exact JP2.a h (Le.tz 0 0 rfl rfl rfl)
theorem Qvo:∀ (p0:(List Qac)) (v7:Int) (o14:Unit⊕(List UInt8)),Qd9 p0 v7=some o14→TL (0,0) Tryz.prog 119 Qpo (JP2 (0,0) 119 o14 (.exit 2) (Qkf p0) .ret (Qkg p0)) (Qgy p0 v7):=fun p0 v7=>(Qta p0) v7
noncomputable def Qea (p0:(List Qac)) (v7:(List (List UInt8))) (v8:Int) (v10:Int) (x7:(List (List UInt8))) (v7__:(List (List UInt8))) (v14:Int):Option ((List (List UInt8))) :=
 if(decide (v14<(x7.length:Int))) then
  idx x7 v14>>=fun x9 =>
  Qla v7__ x9>>=fun x10 =>
  Qea p0 v7 v8 v10 x7 x10 (wr (v14+1))
 else
  some v7__
 partial_fixpoint
theorem Qtb:∀ (p0:(List Qac)) (v7:(List (List UInt8))) (v8:Int) (v10:Int) (x7:(List (List UInt8))),(∀ (v7__:(List (List UInt8))) (v14:Int) (o8:(List (List UInt8))),Qea p0 v7 v8 v10 x7 v7__ v14=some o8→TL (0,0) Tryz.prog 60 Qpt (JP1 (0,0) 60 o8 (.exit 4) (Qkl p0 v7 v8 v10 x7)) (Qg1 p0 v7 v8 v10 x7 v7__ v14)):=by
 intro p0 v7 v8 v10 x7
 refine Qea.partial_correctness p0 v7 v8 v10 x7 _ ?_
 intro Qea' iQea v7__ v14 o8 h
 refine TL.round (Qai mixed tbOk (lv:=Qk6) _ _ _ ?_)
 refine view (lenMap _ _) rfl ?_
 refine Qae h (fun hb h=>?_) (fun hb h=>?_)
 ·refine Qa5 (l:=x7) (c:=cStr) (c' := cStr) h (fun _=>rfl) (fun _=>rfl) (by decide) (fun x9 hi h=>?_)
  refine Or.inr ?_
  refine Qtz _ _ h (fun x10 hy=>((Qm2 v7__ x9 x10 hy).fr [] [0] rfl rfl rfl)) (fun x10 hy h=>?_)
  refine TL.le (τ := Qg1 p0 v7 v8 v10 x7 x10 (wr (v14+1))) ?_ ((iQea x10 (wr (v14+1)) _ h))
  exact Le.tz 0 2 rfl rfl rfl
 ·exact JP1.a h (Le.tz 0 2 rfl rfl rfl)
theorem Qvp:∀ (p0:(List Qac)) (v7:(List (List UInt8))) (v8:Int) (v10:Int) (x7:(List (List UInt8))) (v7__:(List (List UInt8))) (v14:Int) (o8:(List (List UInt8))),Qea p0 v7 v8 v10 x7 v7__ v14=some o8→TL (0,0) Tryz.prog 60 Qpt (JP1 (0,0) 60 o8 (.exit 4) (Qkl p0 v7 v8 v10 x7)) (Qg1 p0 v7 v8 v10 x7 v7__ v14):=fun p0 v7 v8 v10 x7 v7__ v14=>(Qtb p0 v7 v8 v10 x7) v7__ v14
noncomputable def Qeb (p0:(List Qac)) (v7:(List (List UInt8))) (v8:Int) (v7_:(List (List UInt8))) (v10:Int):Option ((List (List UInt8))) :=
 if(decide (v10<(v7.length:Int))) then
  idx v7 v10>>=fun x5 =>
  Qjs p0 x5>>=fun x6 =>
  Qdf x6.1>>=fun x7 =>
  (Qea p0 v7 v8 v10 x7 v7_ 0)>>=fun o8 =>
  Qeb p0 v7 v8 o8 (wr (v10+1))
 else
  some v7_
 partial_fixpoint
theorem Qtc:∀ (p0:(List Qac)) (v7:(List (List UInt8))) (v8:Int),(∀ (v7_:(List (List UInt8))) (v10:Int) (o4:(List (List UInt8))),Qeb p0 v7 v8 v7_ v10=some o4→TL (0,0) Tryz.prog 60 Qpu (JP1 (0,0) 60 o4 (.exit 2) (Qkm p0 v7 v8)) (Qg2 p0 v7 v8 v7_ v10)):=by
 intro p0 v7 v8
 refine Qeb.partial_correctness p0 v7 v8 _ ?_
 intro Qeb' iQeb v7_ v10 o4 h
 refine TL.round (Qai mixed tbOk (lv:=Qk6) _ _ _ ?_)
 refine view (lenMap _ _) rfl ?_
 refine Qae h (fun hb h=>?_) (fun hb h=>?_)
 ·refine Qa5 (l:=v7) (c:=cStr) (c' := cStr) h (fun _=>rfl) (fun _=>rfl) (by decide) (fun x5 hi h=>?_)
  refine Qah [.sl false (p0.map Qaf),sV x5] Qgl h (fun x6 hy=>(Qkw p0 x5 x6 hy)) (fun x6 hy h=>?_)
  refine Qch _ _ h (fun x7 hy=>((Qm3 x6.1 x7 hy).fr [] [] rfl rfl rfl)) (fun x7 hy h=>?_)
  refine Qag h (fun o8 ho hk=>?_)
  refine Exists.intro (JP1 _ _ o8 (.exit 4) (Qkl p0 v7 v8 v10 x7)) (And.intro (T_le (τ := Qg1 p0 v7 v8 v10 x7 v7_ 0) ?_ (TL.loop (Qvp p0 v7 v8 v10 x7 v7_ 0 o8 ho))) (join1 ?_))
  ·exact Le.tz 0 2 rfl rfl rfl
  have h:=hk
  refine TL.le (τ := Qg2 p0 v7 v8 o8 (wr (v10+1))) ?_ ((iQeb o8 (wr (v10+1)) _ h))
  exact Le.tz 0 1 rfl rfl rfl
 ·exact JP1.a h (Le.tz 0 1 rfl rfl rfl)
theorem Qvq:∀ (p0:(List Qac)) (v7:(List (List UInt8))) (v8:Int) (v7_:(List (List UInt8))) (v10:Int) (o4:(List (List UInt8))),Qeb p0 v7 v8 v7_ v10=some o4→TL (0,0) Tryz.prog 60 Qpu (JP1 (0,0) 60 o4 (.exit 2) (Qkm p0 v7 v8)) (Qg2 p0 v7 v8 v7_ v10):=fun p0 v7 v8 v7_ v10=>(Qtc p0 v7 v8) v7_ v10
noncomputable def Qec (p0:(List Qac)) (v7:(List (List UInt8))) (v8:Int):Option ((List (List UInt8))) :=
 if(decide (v8<(p0.length:Int))) then
  (Qeb p0 v7 v8 v7 0)>>=fun o4 =>
  Qec p0 o4 (wr (v8+1))
 else
  some v7
 partial_fixpoint
theorem Qtd:∀ (p0:(List Qac)),(∀ (v7:(List (List UInt8))) (v8:Int) (o3:(List (List UInt8))),Qec p0 v7 v8=some o3→TL (0,0) Tryz.prog 60 Qpv (JP1 (0,0) 60 o3 (.exit 0) (Qkn p0)) (Qg3 p0 v7 v8)):=by
 intro p0
 refine Qec.partial_correctness p0 _ ?_
 intro Qec' iQec v7 v8 o3 h
 refine TL.round (Qai mixed tbOk (lv:=Qk6) _ _ _ ?_)
 refine view (lenMap _ _) rfl ?_
 refine Qae h (fun hb h=>?_) (fun hb h=>?_)
 ·refine Qag h (fun o4 ho hk=>?_)
  refine Exists.intro (JP1 _ _ o4 (.exit 2) (Qkm p0 v7 v8)) (And.intro (T_le (τ := Qg2 p0 v7 v8 v7 0) ?_ (TL.loop (Qvq p0 v7 v8 v7 0 o4 ho))) (join1 ?_))
  ·exact Le.tow 0 1 rfl (.cons rfl (.refl _) (.cons rfl (.refl _) (.cons rfl (.refl _) (.cons rfl (.drop rfl (.refl _)) (.cons rfl (.refl _) (.nil)))))) (.refl _) rfl
  have h:=hk
  refine TL.le (τ := Qg3 p0 o4 (wr (v8+1))) ?_ ((iQec o4 (wr (v8+1)) _ h))
  exact Le.tz 0 1 rfl rfl rfl
 ·exact JP1.a h (Le.tz 0 1 rfl rfl rfl)
theorem Qvr:∀ (p0:(List Qac)) (v7:(List (List UInt8))) (v8:Int) (o3:(List (List UInt8))),Qec p0 v7 v8=some o3→TL (0,0) Tryz.prog 60 Qpv (JP1 (0,0) 60 o3 (.exit 0) (Qkn p0)) (Qg3 p0 v7 v8):=fun p0 v7 v8=>(Qtd p0) v7 v8
noncomputable def Qmc (p0:(List Qac)) (p1:(List UInt8)):Option ((List (List UInt8))) :=
 Qjs p0 p1>>=fun x1 =>
 Qdf x1.1>>=fun x2 =>
 (Qec p0 x2 0)>>=fun o3 =>
 some o3
theorem Qsy:∀ (p0:(List Qac)) (p1:(List UInt8)) (o:(List (List UInt8))),Qmc p0 p1=some o→CallOK Tryz.prog 46 [.p (.sl false (p0.map Qaf)),.p (sV p1)] ⟨[],[]⟩ (Quz o) ⟨[],[(o.map cStr).length]⟩:=by
 intro p0 p1 o h
 unfold Qmc at h
 refine CallOK.ofBN mixed tbOk Qk6 Tryz.func46 rfl (by kernel_rfl) (Nat.le_of_ble_eq_true rfl) rfl rfl (Nat.le_of_ble_eq_true rfl) ?_
 refine Qah [.sl false (p0.map Qaf),sV p1] Qgl h (fun x1 hy=>(Qkw p0 p1 x1 hy)) (fun x1 hy h=>?_)
 refine Qch _ _ h (fun x2 hy=>((Qm3 x1.1 x2 hy).fr [] [] rfl rfl rfl)) (fun x2 hy h=>?_)
 refine Qag h (fun o3 ho hk=>?_)
 refine Exists.intro (JP1 _ _ o3 (.exit 0) (Qkn p0)) (And.intro (T_le (τ := Qg3 p0 x2 0) ?_ (TL.loop (Qvr p0 x2 0 o3 ho))) (join1 ?_))
 ·exact Le.tz 0 1 rfl rfl rfl
 have h:=hk
 refine Exists.intro _ (And.intro (Le.refl _ _ _) ?_)
 exact Quq (t:=Quz) (ss:=fun o=>⟨[],[(o.map cStr).length]⟩) h ⟨[],[0],rfl,rfl,.refl _,.refl _,rfl,rfl⟩
noncomputable def Qed (p0:(List Qac)) (v12:Int):Option (Unit⊕(List UInt8)) :=
 if(decide (v12<(p0.length:Int))) then
  idx p0 v12>>=fun x28 =>
  Qmc p0 x28.Name>>=fun x29 =>
  idx p0 v12>>=fun x30 =>
  Qpz x29 x30.Name>>=fun x31 =>
  if x31 then
   idx p0 v12>>=fun x32 =>
   some (.inr x32.Name)
  else
   Qed p0 (wr (v12+1))
 else
  some (.inl ())
 partial_fixpoint
theorem Qte:∀ (p0:(List Qac)),(∀ (v12:Int) (o25:Unit⊕(List UInt8)),Qed p0 v12=some o25→TL (0,0) Tryz.prog 119 Qpp (JP2 (0,0) 119 o25 (.exit 6) (Qkh p0) .ret (Qki p0)) (Qgz p0 v12)):=by
 intro p0
 refine Qed.partial_correctness p0 _ ?_
 intro Qed' iQed v12 o25 h
 refine TL.round (Qai mixed tbOk (lv:=Qir) _ _ _ ?_)
 refine view (lenMap _ _) rfl ?_
 refine Qae h (fun hb h=>?_) (fun hb h=>?_)
 ·refine And.intro (by decide +kernel) (And.intro rfl ?_)
  refine Qa5 (l:=p0) (c:=Qaf) (c' := Qaf) h (fun _=>rfl) (fun _=>rfl) (by decide) (fun x28 hi h=>?_)
  refine Qy5 _ _ h (fun x29 hy=>((Qsy p0 x28.Name x29 hy).ft rfl [] rfl rfl rfl)) (fun x29 hy h=>?_)
  refine Qa5 (l:=p0) (c:=Qaf) (c' := Qaf) h (fun _=>rfl) (fun _=>rfl) (by decide) (fun x30 hi h=>?_)
  refine Qfn [.sl false (x29.map cStr),sV x30.Name] Qk4 h (fun x31 hy=>(Qoo x29 x30.Name x31 hy)) (fun x31 hy h=>?_)
  refine Qae h (fun hb h=>?_) (fun hb h=>?_)
  ·refine Qa5 (l:=p0) (c:=Qaf) (c' := Qaf) h (fun _=>rfl) (fun _=>rfl) (by decide) (fun x32 hi h=>?_)
   exact JP2.b h (Le.tz 0 0 rfl rfl rfl)
  ·refine TL.le (τ := Qgz p0 (wr (v12+1))) ?_ ((iQed (wr (v12+1)) _ h))
   exact Le.tz 0 0 rfl rfl rfl
 ·exact JP2.a h (Le.tz 0 0 rfl rfl rfl)
theorem Qvs:∀ (p0:(List Qac)) (v12:Int) (o25:Unit⊕(List UInt8)),Qed p0 v12=some o25→TL (0,0) Tryz.prog 119 Qpp (JP2 (0,0) 119 o25 (.exit 6) (Qkh p0) .ret (Qki p0)) (Qgz p0 v12):=fun p0 v12=>(Qte p0) v12
noncomputable def Qkx (p0:(List Qac)):Option ((List UInt8)×Int) :=
 if(decide ((p0.length:Int)>16)) then
  some ([],5)
 else
  (Qd7 p0 0)>>=fun o1 =>
  match o1 with
  | .inl y2 =>
   (Qd9 p0 0)>>=fun o14 =>
   match o14 with
   | .inl y15 =>
    (Qed p0 0)>>=fun o25 =>
    match o25 with
    | .inl y26 =>
     some ([],0)
    | .inr y27 =>
     some (y27,10)
   | .inr y16 =>
    some (y16,4)
  | .inr y3 =>
   some (y3.1,y3.2)
theorem Qop:∀ (p0:(List Qac)) (o:(List UInt8)×Int),Qkx p0=some o→PCall Tryz.prog 14 [.sl false (p0.map Qaf)] (Qef o):=by
 intro p0 o h
 unfold Qkx at h
 refine PCall.ofB mixed tbOk Qir Tryz.func14 rfl (by kernel_rfl) (Nat.le_of_ble_eq_true rfl) ?_
 refine view (lenMap _ _) rfl ?_
 refine Qae h (fun hb h=>?_) (fun hb h=>?_)
 ·refine Qal (t:=Qef) h ?_
  exact .refl _
 ·refine Qag h (fun o1 ho hk=>?_)
  refine Exists.intro (JP2 _ _ o1 (.exit 0) (Qkb p0) .ret (Qkc p0)) (And.intro (T_le (τ := Qgw p0 0) ?_ (TL.loop (Qvk p0 0 o1 ho))) (join2 (fun y2 hy=>?_) (fun y3 hy=>?_)))
  ·exact Le.tz 0 0 rfl rfl rfl
  ·have h:=(by rw[hy] at hk; exact hk)
   refine Qag h (fun o14 ho hk=>?_)
   refine Exists.intro (JP2 _ _ o14 (.exit 2) (Qkf p0) .ret (Qkg p0)) (And.intro (T_le (τ := Qgy p0 0) ?_ (TL.loop (Qvo p0 0 o14 ho))) (join2 (fun y15 hy=>?_) (fun y16 hy=>?_)))
   ·exact Le.tz 0 0 rfl rfl rfl
   ·have h:=(by rw[hy] at hk; exact hk)
    refine Qag h (fun o25 ho hk=>?_)
    refine Exists.intro (JP2 _ _ o25 (.exit 6) (Qkh p0) .ret (Qki p0)) (And.intro (T_le (τ := Qgz p0 0) ?_ (TL.loop (Qvs p0 0 o25 ho))) (join2 (fun y26 hy=>?_) (fun y27 hy=>?_)))
    ·exact Le.tz 0 0 rfl rfl rfl
    ·have h:=(by rw[hy] at hk; exact hk)
     refine Qal (t:=Qef) h ?_
     exact .refl _
    ·have h:=(by rw[hy] at hk; exact hk)
     refine Qal (t:=Qef) h ?_
     exact .refl _
   ·have h:=(by rw[hy] at hk; exact hk)
    refine Qal (t:=Qef) h ?_
    exact .refl _
  ·have h:=(by rw[hy] at hk; exact hk)
   refine Qal (t:=Qef) h ?_
   exact .refl _
noncomputable def Qgo (p0:(List (List UInt8))) (p1:(List (List UInt8))) (v5:Int):Option (Unit⊕Unit) :=
 if(decide (v5<(p0.length:Int))) then
  idx p0 v5>>=fun x4 =>
  Qpz p1 x4>>=fun x5 =>
  if(!x5) then
   some (.inr ())
  else
   Qgo p0 p1 (wr (v5+1))
 else
  some (.inl ())
 partial_fixpoint
theorem Qxh:∀ (p0:(List (List UInt8))) (p1:(List (List UInt8))),(∀ (v5:Int) (o1:Unit⊕Unit),Qgo p0 p1 v5=some o1→TL (0,0) Tryz.prog 19 Qsu (JP2 (0,0) 19 o1 (.exit 0) (Qms p0 p1) .ret (Qmt p0 p1)) (Qjo p0 p1 v5)):=by
 intro p0 p1
 refine Qgo.partial_correctness p0 p1 _ ?_
 intro Qgo' iQgo v5 o1 h
 refine TL.round (Qai mixed tbOk (lv:=Qya) _ _ _ ?_)
 refine view (lenMap _ _) rfl ?_
 refine Qae h (fun hb h=>?_) (fun hb h=>?_)
 ·refine Qa5 (l:=p0) (c:=cStr) (c' := cStr) h (fun _=>rfl) (fun _=>rfl) (by decide) (fun x4 hi h=>?_)
  refine Qah [.sl false (p1.map cStr),sV x4] Qk4 h (fun x5 hy=>(Qoo p1 x4 x5 hy)) (fun x5 hy h=>?_)
  refine Qae h (fun hb h=>?_) (fun hb h=>?_)
  ·exact JP2.b h (Le.tz 0 0 rfl rfl rfl)
  ·refine TL.le (τ := Qjo p0 p1 (wr (v5+1))) ?_ ((iQgo (wr (v5+1)) _ h))
   exact Le.tz 0 0 rfl rfl rfl
 ·exact JP2.a h (Le.tz 0 0 rfl rfl rfl)
theorem Q0f:∀ (p0:(List (List UInt8))) (p1:(List (List UInt8))) (v5:Int) (o1:Unit⊕Unit),Qgo p0 p1 v5=some o1→TL (0,0) Tryz.prog 19 Qsu (JP2 (0,0) 19 o1 (.exit 0) (Qms p0 p1) .ret (Qmt p0 p1)) (Qjo p0 p1 v5):=fun p0 p1 v5=>(Qxh p0 p1) v5
noncomputable def Qr8 (p0:(List (List UInt8))) (p1:(List (List UInt8))):Option (Bool) :=
 (Qgo p0 p1 0)>>=fun o1 =>
 match o1 with
 | .inl y2 =>
  some true
 | .inr y3 =>
  some false
theorem Q6d:∀ (p0:(List (List UInt8))) (p1:(List (List UInt8))) (o:Bool),Qr8 p0 p1=some o→PCall Tryz.prog 54 [.sl false (p0.map cStr),.sl false (p1.map cStr)] (Qq0 o):=by
 intro p0 p1 o h
 unfold Qr8 at h
 refine PCall.ofB mixed tbOk Qya Tryz.func54 rfl (by kernel_rfl) (Nat.le_of_ble_eq_true rfl) ?_
 refine Qag h (fun o1 ho hk=>?_)
 refine Exists.intro (JP2 _ _ o1 (.exit 0) (Qms p0 p1) .ret (Qmt p0 p1)) (And.intro (T_le (τ := Qjo p0 p1 0) ?_ (TL.loop (Q0f p0 p1 0 o1 ho))) (join2 (fun y2 hy=>?_) (fun y3 hy=>?_)))
 ·exact Le.tz 0 0 rfl rfl rfl
 ·have h:=(by rw[hy] at hk; exact hk)
  refine Qal (t:=Qq0) h ?_
  exact .refl _
 ·have h:=(by rw[hy] at hk; exact hk)
  refine Qal (t:=Qq0) h ?_
  exact .refl _
noncomputable def Qdp (p0:(List Qac)) (v5:(List (List UInt8))) (v6:(List UInt8)) (v7:Int):Option ((List UInt8)) :=
 if(decide (v7<(p0.length:Int))) then
  idx p0 v7>>=fun x4 =>
  ( Qpz v5 x4.Name>>=fun x6 =>
   if(!x6) then
    idx p0 v7>>=fun x7 =>
    Qdf x7.L>>=fun x8 =>
    Qr8 x8 v5>>=fun x9 =>
    if x9 then
     if(v6==[]) then
      some true
     else
      some (Op.bytesLess x4.Name v6)
    else
     some false
   else
    some false:Option (Bool))>>=fun o5 =>
  if o5 then
   Qdp p0 v5 x4.Name (wr (v7+1))
  else
   Qdp p0 v5 v6 (wr (v7+1))
 else
  some v6
 partial_fixpoint
theorem Qtf:∀ (p0:(List Qac)) (v5:(List (List UInt8))),(∀ (v6:(List UInt8)) (v7:Int) (o3:(List UInt8)),Qdp p0 v5 v6 v7=some o3→TL (0,0) Tryz.prog 62 Qpq (JP1 (0,0) 62 o3 (.exit 2) (Qkj p0 v5)) (Qe3 p0 v5 v6 v7)):=by
 intro p0 v5
 refine Qdp.partial_correctness p0 v5 _ ?_
 intro Qdp' iQdp v6 v7 o3 h
 refine TL.round (Qai mixed tbOk (lv:=Qoe) _ _ _ ?_)
 refine view (lenMap _ _) rfl ?_
 refine Qae h (fun hb h=>?_) (fun hb h=>?_)
 ·refine Qa5 (l:=p0) (c:=Qaf) (c' := Qaf) h (fun _=>rfl) (fun _=>rfl) (by decide) (fun x4 hi h=>?_)
  refine Qag h (fun o5 ho hk=>?_)
  refine Exists.intro (JP1 _ _ o5 .normal (Qwp p0 v5 v6 v7 x4)) (And.intro ?_ (join1 ?_))
  ·have h:=ho
   refine Qah [.sl false (v5.map cStr),sV x4.Name] Qk4 h (fun x6 hy=>(Qoo v5 x4.Name x6 hy)) (fun x6 hy h=>?_)
   refine Qae h (fun hb h=>?_) (fun hb h=>?_)
   ·refine Qa5 (l:=p0) (c:=Qaf) (c' := Qaf) h (fun _=>rfl) (fun _=>rfl) (by decide) (fun x7 hi h=>?_)
    refine Qch _ _ h (fun x8 hy=>((Qm3 x7.L x8 hy).fr [] [] rfl rfl rfl)) (fun x8 hy h=>?_)
    refine Qah [.sl false (x8.map cStr),.sl false (v5.map cStr)] Qq0 h (fun x9 hy=>(Q6d x8 v5 x9 hy)) (fun x9 hy h=>?_)
    refine Qae h (fun hb h=>?_) (fun hb h=>?_)
    ·refine Qae h (fun hb h=>?_) (fun hb h=>?_)
     ·refine JP1.a h ?_
      exact Le.tz 0 1 rfl rfl rfl
     ·refine JP1.a h ?_
      exact Le.tz 0 1 rfl rfl rfl
    ·refine JP1.a h ?_
     exact Le.tz 0 1 rfl rfl rfl
   ·refine bF ?_
    refine JP1.a h ?_
    exact Le.tz 0 1 rfl rfl rfl
  ·have h:=hk
   refine Qae h (fun hb h=>?_) (fun hb h=>?_)
   ·refine TL.le (τ := Qe3 p0 v5 x4.Name (wr (v7+1))) ?_ ((iQdp x4.Name (wr (v7+1)) _ h))
    exact Le.tz 0 1 rfl rfl rfl
   ·refine TL.le (τ := Qe3 p0 v5 v6 (wr (v7+1))) ?_ ((iQdp v6 (wr (v7+1)) _ h))
    exact Le.tz 0 1 rfl rfl rfl
 ·exact JP1.a h (Le.tz 0 1 rfl rfl rfl)
theorem Qvt:∀ (p0:(List Qac)) (v5:(List (List UInt8))) (v6:(List UInt8)) (v7:Int) (o3:(List UInt8)),Qdp p0 v5 v6 v7=some o3→TL (0,0) Tryz.prog 62 Qpq (JP1 (0,0) 62 o3 (.exit 2) (Qkj p0 v5)) (Qe3 p0 v5 v6 v7):=fun p0 v5 v6 v7=>(Qtf p0 v5) v6 v7
noncomputable def Qdq (p0:(List Qac)) (v5:(List (List UInt8))):Option ((List (List UInt8))) :=
 if(decide ((v5.length:Int)<(p0.length:Int))) then
  (Qdp p0 v5 [] 0)>>=fun o3 =>
  appL 16 v5 [o3]>>=fun x10 =>
  Qdq p0 x10
 else
  some v5
 partial_fixpoint
theorem Qtg:∀ (p0:(List Qac)),(∀ (v5:(List (List UInt8))) (o2:(List (List UInt8))),Qdq p0 v5=some o2→TL (0,0) Tryz.prog 62 Qpr (JP1 (0,0) 62 o2 (.exit 0) (Qkk p0)) (Qg0 p0 v5)):=by
 intro p0
 refine Qdq.partial_correctness p0 _ ?_
 intro Qdq' iQdq v5 o2 h
 refine TL.round (Qai mixed tbOk (lv:=Qoe) _ _ _ ?_)
 refine view (lenMap _ _) rfl ?_
 refine view (lenMap _ _) rfl ?_
 refine Qae h (fun hb h=>?_) (fun hb h=>?_)
 ·refine Qag h (fun o3 ho hk=>?_)
  refine Exists.intro (JP1 _ _ o3 (.exit 2) (Qkj p0 v5)) (And.intro (T_le (τ := Qe3 p0 v5 [] 0) ?_ (TL.loop (Qvt p0 v5 [] 0 o3 ho))) (join1 ?_))
  ·exact Le.tz 0 1 rfl rfl rfl
  have h:=hk
  refine Qlc (a:=v5) (b:=[o3]) (c:=cStr) h (.refl _) (fun _=>rfl) rfl (fun x10 hi h=>?_)
  refine TL.le (τ := Qg0 p0 x10) ?_ ((iQdq x10 _ h))
  exact Le.tz 0 1 rfl rfl rfl
 ·exact JP1.a h (Le.tz 0 1 rfl rfl rfl)
theorem Qvu:∀ (p0:(List Qac)) (v5:(List (List UInt8))) (o2:(List (List UInt8))),Qdq p0 v5=some o2→TL (0,0) Tryz.prog 62 Qpr (JP1 (0,0) 62 o2 (.exit 0) (Qkk p0)) (Qg0 p0 v5):=fun p0 v5=>(Qtg p0) v5
noncomputable def Qoq (p0:(List Qac)):Option ((List (List UInt8))) :=
 Qkx p0>>=fun x1 =>
 if(x1.2 != 0) then
  some []
 else
  (Qdq p0 [])>>=fun o2 =>
  some o2
theorem Q2o:∀ (p0:(List Qac)) (o:(List (List UInt8))),Qoq p0=some o→PCall Tryz.prog 18 [.sl false (p0.map Qaf)] (Qmq o):=by
 intro p0 o h
 unfold Qoq at h
 refine PCall.ofB mixed tbOk Qoe Tryz.func18 rfl (by kernel_rfl) (Nat.le_of_ble_eq_true rfl) ?_
 refine Qah [.sl false (p0.map Qaf)] Qef h (fun x1 hy=>(Qop p0 x1 hy)) (fun x1 hy h=>?_)
 refine Qae h (fun hb h=>?_) (fun hb h=>?_)
 ·refine Qal (t:=Qmq) h ?_
  exact .p (.not)
 ·refine Qag h (fun o2 ho hk=>?_)
  refine Exists.intro (JP1 _ _ o2 (.exit 0) (Qkk p0)) (And.intro (T_le (τ := Qg0 p0 []) ?_ (TL.loop (Qvu p0 [] o2 ho))) (join1 ?_))
  ·exact Le.trans (τ := ⟨[(0,.p (.sl false (p0.map Qaf))),(5,.p (.sl true []))],⟨[],[]⟩⟩) (Le.tz 0 0 rfl rfl rfl) ((Le.own 5 9 1 rfl sizeNil).trans (Le.tz 0 1 rfl rfl rfl))
  have h:=hk
  refine Qal (t:=Qmq) h ?_
  exact .refl _
noncomputable def Qor (p0:(List Qac)) (p1:(List UInt8)):Option ((List (List UInt8))) :=
 Qkx p0>>=fun x1 =>
 Qjs p0 p1>>=fun x2 =>
 ( if(x1.2 != 0) then
   some true
  else
   some (!x2.2):Option (Bool))>>=fun o3 =>
 if o3 then
  some []
 else
  Qmc p0 p1>>=fun x4 =>
  Qla x4 p1>>=fun x5 =>
  some x5
theorem Q2p:∀ (p0:(List Qac)) (p1:(List UInt8)) (o:(List (List UInt8))),Qor p0 p1=some o→PCall Tryz.prog 20 [.sl false (p0.map Qaf),sV p1] (Qmr o):=by
 intro p0 p1 o h
 unfold Qor at h
 refine PCall.ofB mixed tbOk Q14 Tryz.func20 rfl (by kernel_rfl) (Nat.le_of_ble_eq_true rfl) ?_
 refine Qah [.sl false (p0.map Qaf)] Qef h (fun x1 hy=>(Qop p0 x1 hy)) (fun x1 hy h=>?_)
 refine Qah [.sl false (p0.map Qaf),sV p1] Qgl h (fun x2 hy=>(Qkw p0 p1 x2 hy)) (fun x2 hy h=>?_)
 refine Qag h (fun o3 ho hk=>?_)
 refine Exists.intro (JP1 _ _ o3 .normal (Qwq p0 p1)) (And.intro ?_ (join1 ?_))
 ·have h:=ho
  refine Qae h (fun hb h=>?_) (fun hb h=>?_)
  ·refine JP1.a h ?_
   exact Le.tz 0 0 rfl rfl rfl
  ·refine JP1.a h ?_
   exact Le.tz 0 0 rfl rfl rfl
 ·have h:=hk
  refine Qae h (fun hb h=>?_) (fun hb h=>?_)
  ·refine Qal (t:=Qmr) h ?_
   exact .p (.not)
  ·refine Qch _ _ h (fun x4 hy=>((Qsy p0 p1 x4 hy).fr [] [] rfl rfl rfl)) (fun x4 hy h=>?_)
   refine Or.inr ?_
   refine Qtz _ _ h (fun x5 hy=>((Qm2 x4 p1 x5 hy).fr [] [0] rfl rfl rfl)) (fun x5 hy h=>?_)
   refine Qal (t:=Qmr) h ?_
   exact .refl _
noncomputable def Qdr (p0:(List Qac)) (p1:(List UInt8)) (v10:Int):Option (Unit⊕(List Qab)) :=
 if(decide (v10<(p0.length:Int))) then
  idx p0 v10>>=fun x4 =>
  if(x4.Name==p1) then
   some (.inr x4.L)
  else
   Qdr p0 p1 (wr (v10+1))
 else
  some (.inl ())
 partial_fixpoint
theorem Qr9:∀ (p0:(List Qac)) (p1:(List UInt8)),(∀ (v10:Int) (o1:Unit⊕(List Qab)),Qdr p0 p1 v10=some o1→TL (0,0) Tryz.prog 21 Qof (JP2 (0,0) 21 o1 (.exit 0) (Qi3 p0 p1) .ret (Qi4 p0 p1)) (Qf5 p0 p1 v10)):=by
 intro p0 p1
 refine Qdr.partial_correctness p0 p1 _ ?_
 intro Qdr' iQdr v10 o1 h
 refine TL.round (Qai mixed tbOk (lv:=Qq2) _ _ _ ?_)
 refine Qae h (fun hb h=>?_) (fun hb h=>?_)
 ·refine Qa5 (l:=p0) (c:=Qaf) (c' := Qaf) h (fun _=>rfl) (fun _=>rfl) (by decide) (fun x4 hi h=>?_)
  refine Qae h (fun hb h=>?_) (fun hb h=>?_)
  ·exact JP2.b h (Le.tz 0 0 rfl rfl rfl)
  ·refine TL.le (τ := Qf5 p0 p1 (wr (v10+1))) ?_ ((iQdr (wr (v10+1)) _ h))
   exact Le.tz 0 0 rfl rfl rfl
 ·exact JP2.a h (Le.tz 0 0 rfl rfl rfl)
theorem Qth:∀ (p0:(List Qac)) (p1:(List UInt8)) (v10:Int) (o1:Unit⊕(List Qab)),Qdr p0 p1 v10=some o1→TL (0,0) Tryz.prog 21 Qof (JP2 (0,0) 21 o1 (.exit 0) (Qi3 p0 p1) .ret (Qi4 p0 p1)) (Qf5 p0 p1 v10):=fun p0 p1 v10=>(Qr9 p0 p1) v10
noncomputable def Qjy (p0:(List Qac)) (p1:(List UInt8)):Option ((List Qab)×Bool) :=
 (Qdr p0 p1 0)>>=fun o1 =>
 match o1 with
 | .inl y2 =>
  some ([],false)
 | .inr y3 =>
  some (y3,true)
theorem Qrc:∀ (p0:(List Qac)) (p1:(List UInt8)) (o:(List Qab)×Bool),Qjy p0 p1=some o→PCall Tryz.prog 39 [.sl false (p0.map Qaf),sV p1] (Qis o):=by
 intro p0 p1 o h
 unfold Qjy at h
 refine PCall.ofB mixed tbOk Qq2 Tryz.func39 rfl (by kernel_rfl) (Nat.le_of_ble_eq_true rfl) ?_
 refine view (lenMap _ _) rfl ?_
 refine Qag h (fun o1 ho hk=>?_)
 refine Exists.intro (JP2 _ _ o1 (.exit 0) (Qi3 p0 p1) .ret (Qi4 p0 p1)) (And.intro (T_le (τ := Qf5 p0 p1 0) ?_ (TL.loop (Qth p0 p1 0 o1 ho))) (join2 (fun y2 hy=>?_) (fun y3 hy=>?_)))
 ·exact Le.tz 0 0 rfl rfl rfl
 ·have h:=(by rw[hy] at hk; exact hk)
  refine Qal (t:=Qis) h ?_
  exact .tup (xs:=[.sl true [],bV false]) (ys:=[.sl false [],bV false]) (.cons (.not) (.cons (.refl _) (.nil)))
 ·have h:=(by rw[hy] at hk; exact hk)
  refine Qal (t:=Qis) h ?_
  exact .refl _
noncomputable def Qds (x1:(List Qab)×Int) (l4:(List (Qab×Int))) (h0_0:Int):Option (Int) :=
 match l4 with
 | [] =>
  some h0_0
 | x2::r3 =>
  Qds x1 r3 (wr (h0_0+1))
 partial_fixpoint
theorem Qsa:∀ (x1:(List Qab)×Int),(∀ (l4:(List (Qab×Int))) (h0_0:Int) (o6:Int),Qds x1 l4 h0_0=some o6→RL 1 0 Tryz.prog 11 (rgP Qd3) (rgA Qd3) (rgB Qd3) (Qdi x1 h0_0).env (JP1 (0,0) 11 o6 .normal (Qi6 x1)) (l4.map Qbc) (Qdi x1 h0_0).s):=by
 intro x1
 refine Qds.partial_correctness x1 _ ?_
 intro Qds' iQds l4 h0_0 o6 h
 cases l4 with
 | nil =>
  refine Q5b ?_
  exact JP1.a h (Le.tz 1 0 rfl rfl rfl)
 | cons x2 r3 =>
  refine Qy6 (Qai mixed tbOk (lv:=Qmw) _ _ _ ?_)
  refine And.intro rfl (Qai mixed tbOk (lv:=Qmw) _ _ _ ?_)
  exact Exists.intro (Qdi x1 (wr (h0_0+1))).s (And.intro (Le.tz 1 0 rfl rfl rfl) (And.intro rfl (And.intro rfl ((iQds r3 (wr (h0_0+1)) _ h)))))
theorem Qti:∀ (x1:(List Qab)×Int) (l4:(List (Qab×Int))) (h0_0:Int) (o6:Int),Qds x1 l4 h0_0=some o6→RL 1 0 Tryz.prog 11 (rgP Qd3) (rgA Qd3) (rgB Qd3) (Qdi x1 h0_0).env (JP1 (0,0) 11 o6 .normal (Qi6 x1)) (l4.map Qbc) (Qdi x1 h0_0).s:=fun x1 l4 h0_0=>(Qsa x1) l4 h0_0
noncomputable def Qio (p0:(List Qab)) (p1:Int):Option ((List Qab)×Int) :=
 some (p0,p1)
theorem Qqc:∀ (p0:(List Qab)) (p1:Int) (o:(List Qab)×Int),Qio p0 p1=some o→PCall Tryz.prog 96 [.sl false (p0.map Qaa),iV p1] (Ql6 o):=by
 intro p0 p1 o h
 unfold Qio at h
 refine PCall.ofM mixed tbOk Q39 Tryz.func96 rfl (by kernel_rfl) (Nat.le_of_ble_eq_true rfl) ?_
 refine Qal (t:=Ql6) h ?_
 exact .refl _
noncomputable def Qdt (p0:(List Qab)) (p1:Int) (v12:Int) (x3:Qab) (v28:Int) (x7:(List Qab)×Int) (l10:(List (Qab×Int))):Option ((List (Qab×Int))×(Unit)) :=
 match l10 with
 | [] =>
  some ([],())
 | x8::r9 =>
  ( Qdt p0 p1 v12 x3 v28 x7 r9 )>>=fun q=>some (((Qab.mk x8.1.Kind x8.1.Name x8.1.Text x8.1.N x8.1.L x8.1.Then x8.1.Else),x8.2)::q.1,q.2)
 partial_fixpoint
theorem Qsb:∀ (p0:(List Qab)) (p1:Int) (v12:Int) (x3:Qab) (v28:Int) (x7:(List Qab)×Int),(∀ (l10:(List (Qab×Int))) (o13:(List (Qab×Int))×(Unit)),Qdt p0 p1 v12 x3 v28 x7 l10=some o13→∀ (gxs gp gpost gq12:List (List V)),gxs=gp++(o13.1.map Qbc++gpost)→gxs=gq12++gpost→RL 2 1 Tryz.prog 44 (rgP Qd5) (rgA Qd5) (rgB Qd5) (Qdj p0 p1 v12 x3 v28 x7 gxs gp).env (Qs (0,1) 44 gxs (JP1 (0,1) 44 o13.2 .normal (Qi7 p0 p1 v12 x3 v28 x7 gxs gq12))) (l10.map Qbc) (Qdj p0 p1 v12 x3 v28 x7 gxs gp).s):=by
 intro p0 p1 v12 x3 v28 x7
 refine Qdt.partial_correctness p0 p1 v12 x3 v28 x7 _ ?_
 intro Qdt' iQdt l10 o13 h
 intro gxs gp gpost gq12 hx hq
 cases l10 with
 | nil =>
  refine Q5b ?_
  exact .inl (JP1.a (sndI h) (Le.tz 2 1 rfl rfl (liveQ h hx hq rfl)))
 | cons x8 r9 =>
  refine Qy6 (Qai mixed tbOk (lv:=Qha) _ _ _ ?_)
  refine And.intro rfl (Qai mixed tbOk (lv:=Qha) _ _ _ ?_)
  refine Q7e (c:=Qbc) h hx (.refl _) (by exact rfl) (by exact rfl) (fun _ h hx=>?_) ?_
  ·refine bF ?_
   exact Exists.intro (Qdj p0 p1 v12 x3 v28 x7  gxs (gp++[Qbc ((Qab.mk x8.1.Kind x8.1.Name x8.1.Text x8.1.N x8.1.L x8.1.Then x8.1.Else),x8.2)])).s (And.intro (Le.tz 2 1 rfl rfl rfl) (And.intro rfl (And.intro rfl ((iQdt r9 _ h) _ _ _ _ hx hq))))
  ·refine bT ?_
   exact⟨_,(Le.env0 _).trans (Le.tow 2 1 rfl .nil (.refl _) rfl),rfl,rfl,.inr ⟨rfl,Q8s rfl⟩⟩
theorem Qtj:∀ (p0:(List Qab)) (p1:Int) (v12:Int) (x3:Qab) (v28:Int) (x7:(List Qab)×Int) (l10:(List (Qab×Int))) (o13:(List (Qab×Int))×(Unit)),Qdt p0 p1 v12 x3 v28 x7 l10=some o13→∀ (gxs gp gpost gq12:List (List V)),gxs=gp++(o13.1.map Qbc++gpost)→gxs=gq12++gpost→RL 2 1 Tryz.prog 44 (rgP Qd5) (rgA Qd5) (rgB Qd5) (Qdj p0 p1 v12 x3 v28 x7 gxs gp).env (Qs (0,1) 44 gxs (JP1 (0,1) 44 o13.2 .normal (Qi7 p0 p1 v12 x3 v28 x7 gxs gq12))) (l10.map Qbc) (Qdj p0 p1 v12 x3 v28 x7 gxs gp).s:=fun p0 p1 v12 x3 v28 x7 l10=>(Qsb p0 p1 v12 x3 v28 x7) l10
mutual
noncomputable def Qer (p0 : (List Qab)) (p1 : Int) : Option ((List (Qab × Int)) × Unit) :=
  ( Qem p0 p1 0) >>= fun o2 => (
    some ([], ())) >>= fun q => some (o2.1 ++ q.1, q.2)
  partial_fixpoint
noncomputable def Qem (p0 : (List Qab)) (p1 : Int) (v12 : Int) : Option ((List (Qab × Int)) × (Unit)) :=
  if (decide (v12 < (p0.length : Int))) then
    idx p0 v12 >>= fun x3 =>
    ( ( Qbx p0 p1 v12 x3 0) >>= fun o5 => (
        Qem p0 p1 (wr (v12 + 1))) >>= fun q => some (o5.1 ++ q.1, q.2)) >>= fun q => some ((x3, p1) :: q.1, q.2)
  else
    some ([], ())
  partial_fixpoint
noncomputable def Qbx (p0 : (List Qab)) (p1 : Int) (v12 : Int) (x3 : Qab) (v28 : Int) : Option ((List (Qab × Int)) × (Unit)) :=
  if (decide (v28 < 3)) then
    idx ([x3.L, x3.Then, x3.Else] : List (List Qab)) v28 >>= fun x6 =>
    Qio x6 (wr (p1 + 1)) >>= fun x7 =>
    Qer x7.1 x7.2 >>= fun y11 =>
    ( Qdt p0 p1 v12 x3 v28 x7 y11.1) >>= fun o13 => (
      Qbx p0 p1 v12 x3 (wr (v28 + 1))) >>= fun q => some (o13.1 ++ q.1, q.2)
  else
    some ([], ())
  partial_fixpoint
end
theorem Qxi:(∀ (p0:(List Qab)) (p1:Int) (o:(List (Qab×Int))×Unit),Qer p0 p1=some o→∀ gxs:List (List V),gxs=o.1.map Qbc→IterOK Tryz.prog 125 [.ep [.sl false (p0.map Qaa)],.ep [iV p1]] gxs)∧(∀ (p0:(List Qab)) (p1:Int) (v12:Int) (o2:(List (Qab×Int))×(Unit)),Qem p0 p1 v12=some o2→∀ (gxs gp gpost gq1:List (List V)),gxs=gp++(o2.1.map Qbc++gpost)→gxs=gq1++gpost→TL (0,1) Tryz.prog 44 Qu5 (Qs (0,1) 44 gxs (JP1 (0,1) 44 o2.2 (.exit 0) (Qnj p0 p1 gxs gq1))) (Qi9 p0 p1 v12 gxs gp))∧(∀ (p0:(List Qab)) (p1:Int) (v12:Int) (x3:Qab) (v28:Int) (o5:(List (Qab×Int))×(Unit)),Qbx p0 p1 v12 x3 v28=some o5→∀ (gxs gp gpost gq4:List (List V)),gxs=gp++(o5.1.map Qbc++gpost)→gxs=gq4++gpost→TL (0,1) Tryz.prog 44 Qu4 (Qs (0,1) 44 gxs (JP1 (0,1) 44 o5.2 (.exit 2) (Qni p0 p1 v12 x3 gxs gq4))) (Qi8 p0 p1 v12 x3 v28 gxs gp)):=by
 refine Qer.mutual_partial_correctness _ _ _ ?_ ?_ ?_
 ·intro Qem' iQem p0 p1 o h
  intro gxs hg
  have hx:gxs=[]++(o.1.map Qbc++[]):=by simp[hg]
  refine IterOK.ofB mixed tbOk Qha Tryz.func125 rfl (by kernel_rfl) (Nat.le_of_ble_eq_true rfl) rfl ?_
  refine view (lenMap _ _) rfl ?_
  refine Qty h hx (fun o2 lgq1 gq1 ho hk hxa hjgq1=>?_)
  refine Exists.intro (Qs _ _ gxs (JP1 _ _ o2.2 (.exit 0) (Qnj p0 p1 gxs gq1))) (And.intro (T_le (τ := Qi9 p0 p1 0 gxs ([]:List (List V))) ?_ (TL.loop ((iQem p0 p1 0 o2 ho) _ _ _ _ hxa hjgq1))) (joinS (join1 ?_) ?_))
  ·exact Le.tz 1 1 rfl rfl rfl
  ·have h:=hk
   have hx:=hjgq1
   exact Q7d h hx (.inl rfl) rfl
  ·exact fun s1 h1 h2 hs=>Q5c (.inr rfl) hs
 ·intro Qem' Qbx' iQem iQbx p0 p1 v12 o2 h
  intro gxs gp gpost gq1 hx hq
  refine TL.round (Qai mixed tbOk (lv:=Qha) _ _ _ ?_)
  refine Qae h (fun hb h=>?_) (fun hb h=>?_)
  ·refine Qa5 (l:=p0) (c:=Qaa) (c' := Qa7) h Qam (fun _=>rfl) (by decide) (fun x3 hi h=>?_)
   refine Q7e (c:=Qbc) h hx (.refl _) (by exact rfl) (by exact rfl) (fun _ h hx=>?_) ?_
   ·refine bF ?_
    refine Qty h hx (fun o5 lgq4 gq4 ho hk hxa hjgq4=>?_)
    refine Exists.intro (Qs _ _ gxs (JP1 _ _ o5.2 (.exit 2) (Qni p0 p1 v12 x3 gxs gq4))) (And.intro (T_le (τ := Qi8 p0 p1 v12 x3 0 gxs (gp++[Qbc (x3,p1)])) ?_ (TL.loop ((iQbx p0 p1 v12 x3 0 o5 ho) _ _ _ _ hxa hjgq4))) (joinS (join1 ?_) ?_))
    ·exact Le.tz 2 1 rfl rfl rfl
    ·have h:=hk
     have hx:=hjgq4
     refine TL.le (τ := Qi9 p0 p1 (wr (v12+1)) gxs gq4) ?_ ((iQem p0 p1 (wr (v12+1)) _ h) _ _ _ _ hx hq)
     exact Le.tz 1 1 rfl rfl rfl
    ·exact fun s1 h1 h2 hs =>.inr ⟨rfl,s1,.refl _ _ _,h1,h2,hs⟩
   ·refine bT ?_
    exact .inr ⟨rfl,_,(Le.env0 _).trans (Le.tow 0 1 rfl .nil (.refl _) rfl),rfl,rfl,rfl⟩
  ·exact .inl (JP1.a (sndI h) (Le.tz 1 1 rfl rfl (liveQ h hx hq rfl)))
 ·intro Qer' Qbx' iQer iQbx p0 p1 v12 x3 v28 o5 h
  intro gxs gp gpost gq4 hx hq
  refine TL.round (Qai mixed tbOk (lv:=Qha) _ _ _ ?_)
  refine Qae h (fun hb h=>?_) (fun hb h=>?_)
  ·refine Q9p (l:=([x3.L,x3.Then,x3.Else]:List (List Qab))) (c:=fun x6 =>.sl false (x6.map Qaa)) h rfl rfl rfl rfl (fun x6 hi h=>?_)
   refine Qah [.sl false (x6.map Qaa),iV (wr (p1+1))] Ql6 h (fun x7 hy=>(Qqc x6 (wr (p1+1)) x7 hy)) (fun x7 hy h=>?_)
   refine Qag h (fun y11 hy11 h=>?_)
   refine Qty h hx (fun o13 lgq12 gq12 ho hk hxa hjgq12=>?_)
   refine Exists.intro (Qs _ _ gxs (JP1 _ _ o13.2 .normal (Qi7 p0 p1 v12 x3 v28 x7 gxs gq12))) (And.intro (T_le (τ := Qdj p0 p1 v12 x3 v28 x7 gxs gp) ?_ (Qy1 (g:=125) (cap:=[.ep [.sl false (x7.1.map Qaa)],.ep [iV x7.2]]) rfl ((iQer x7.1 x7.2 y11 hy11) _ rfl) (mapSize fun _=>rfl) rfl (Nat.le_of_ble_eq_true rfl) (Nat.le_of_ble_eq_true rfl) ((Qtj p0 p1 v12 x3 v28 x7 y11.1 o13 ho) _ _ _ _ hxa hjgq12))) (joinS (join1 ?_) ?_))
   ·exact Le.tz 2 1 rfl rfl rfl
   ·have h:=hk
    have hx:=hjgq12
    refine TL.le (τ := Qi8 p0 p1 v12 x3 (wr (v28+1)) gxs gq12) ?_ ((iQbx p0 p1 v12 x3 (wr (v28+1)) _ h) _ _ _ _ hx hq)
    exact Le.tz 2 1 rfl rfl rfl
   ·exact fun s1 h1 h2 hs =>.inr ⟨rfl,s1,.refl _ _ _,h1,h2,hs⟩
  ·exact .inl (JP1.a (sndI h) (Le.tz 2 1 rfl rfl (liveQ h hx hq rfl)))
theorem Qrd:∀ (p0:(List Qab)) (p1:Int) (o:(List (Qab×Int))×Unit),Qer p0 p1=some o→∀ gxs:List (List V),gxs=o.1.map Qbc→IterOK Tryz.prog 125 [.ep [.sl false (p0.map Qaa)],.ep [iV p1]] gxs:=fun p0 p1=>Qxi.1 p0 p1
noncomputable def Qmd (p0:(List Qab)):Option (Int) :=
 Qio p0 1>>=fun x1 =>
 Qer x1.1 x1.2>>=fun y5 =>
 (Qds x1 y5.1 0)>>=fun o6 =>
 some o6
theorem Q0g:∀ (p0:(List Qab)) (o:Int),Qmd p0=some o→PCall Tryz.prog 71 [.sl false (p0.map Qaa)] (Qoj o):=by
 intro p0 o h
 unfold Qmd at h
 refine PCall.ofB mixed tbOk Qmw Tryz.func71 rfl (by kernel_rfl) (Nat.le_of_ble_eq_true rfl) ?_
 refine Qah [.sl false (p0.map Qaa),iV 1] Ql6 h (fun x1 hy=>(Qqc p0 1 x1 hy)) (fun x1 hy h=>?_)
 refine Qag h (fun y5 hy5 h=>?_)
 refine Qag h (fun o6 ho hk=>?_)
 refine Exists.intro (JP1 _ _ o6 .normal (Qi6 x1)) (And.intro (T_le (τ := Qdi x1 0) ?_ (Qy1 (g:=125) (cap:=[.ep [.sl false (x1.1.map Qaa)],.ep [iV x1.2]]) rfl ((Qrd x1.1 x1.2 y5 hy5) _ rfl) (mapSize fun _=>rfl) rfl (Nat.le_of_ble_eq_true rfl) (Nat.le_of_ble_eq_true rfl) (Qti x1 y5.1 0 o6 ho))) (join1 ?_))
 ·exact Le.tz 1 0 rfl rfl rfl
 have h:=hk
 refine Qal (t:=Qoj) h ?_
 exact .refl _
noncomputable def Qee (x1:(List Qab)×Int) (l4:(List (Qab×Int))) (h0_0:Int):Option (Int) :=
 match l4 with
 | [] =>
  some h0_0
 | x2::r3 =>
  Qee x1 r3 (if x2.2>h0_0 then x2.2 else h0_0)
 partial_fixpoint
theorem Qtk:∀ (x1:(List Qab)×Int),(∀ (l4:(List (Qab×Int))) (h0_0:Int) (o6:Int),Qee x1 l4 h0_0=some o6→RL 1 0 Tryz.prog 14 (rgP Qeq) (rgA Qeq) (rgB Qeq) (Qd4 x1 h0_0).env (JP1 (0,0) 14 o6 .normal (Qkr x1)) (l4.map Qbc) (Qd4 x1 h0_0).s):=by
 intro x1
 refine Qee.partial_correctness x1 _ ?_
 intro Qee' iQee l4 h0_0 o6 h
 cases l4 with
 | nil =>
  refine Q5b ?_
  exact JP1.a h (Le.tz 1 0 rfl rfl rfl)
 | cons x2 r3 =>
  refine Qy6 (Qai mixed tbOk (lv:=Qok) _ _ _ ?_)
  refine And.intro rfl (Qai mixed tbOk (lv:=Qok) _ _ _ ?_)
  exact Exists.intro (Qd4 x1 (if x2.2>h0_0 then x2.2 else h0_0)).s (And.intro (Le.tz 1 0 rfl rfl rfl) (And.intro rfl (And.intro rfl ((iQee r3 (if x2.2>h0_0 then x2.2 else h0_0) _ h)))))
theorem Qvv:∀ (x1:(List Qab)×Int) (l4:(List (Qab×Int))) (h0_0:Int) (o6:Int),Qee x1 l4 h0_0=some o6→RL 1 0 Tryz.prog 14 (rgP Qeq) (rgA Qeq) (rgB Qeq) (Qd4 x1 h0_0).env (JP1 (0,0) 14 o6 .normal (Qkr x1)) (l4.map Qbc) (Qd4 x1 h0_0).s:=fun x1 l4 h0_0=>(Qtk x1) l4 h0_0
noncomputable def Qos (p0:(List Qab)):Option (Int) :=
 Qio p0 1>>=fun x1 =>
 Qer x1.1 x1.2>>=fun y5 =>
 (Qee x1 y5.1 0)>>=fun o6 =>
 some o6
theorem Q2q:∀ (p0:(List Qab)) (o:Int),Qos p0=some o→PCall Tryz.prog 70 [.sl false (p0.map Qaa)] (Qqa o):=by
 intro p0 o h
 unfold Qos at h
 refine PCall.ofB mixed tbOk Qok Tryz.func70 rfl (by kernel_rfl) (Nat.le_of_ble_eq_true rfl) ?_
 refine Qah [.sl false (p0.map Qaa),iV 1] Ql6 h (fun x1 hy=>(Qqc p0 1 x1 hy)) (fun x1 hy h=>?_)
 refine Qag h (fun y5 hy5 h=>?_)
 refine Qag h (fun o6 ho hk=>?_)
 refine Exists.intro (JP1 _ _ o6 .normal (Qkr x1)) (And.intro (T_le (τ := Qd4 x1 0) ?_ (Qy1 (g:=125) (cap:=[.ep [.sl false (x1.1.map Qaa)],.ep [iV x1.2]]) rfl ((Qrd x1.1 x1.2 y5 hy5) _ rfl) (mapSize fun _=>rfl) rfl (Nat.le_of_ble_eq_true rfl) (Nat.le_of_ble_eq_true rfl) (Qvv x1 y5.1 0 o6 ho))) (join1 ?_))
 ·exact Le.tz 1 0 rfl rfl rfl
 have h:=hk
 refine Qal (t:=Qqa) h ?_
 exact .refl _
noncomputable def Qbs (p0:(List UInt8)) (p1:(List UInt8)):Option (Bool) :=
 ( if(decide ((p0.length:Int) ≥ (p1.length:Int))) then
   cutL p0 (wr ((p0.length:Int)-(p1.length:Int))) (p0.length:Int)>>=fun x2 =>
   some (x2==p1)
  else
   some false:Option (Bool))>>=fun o1 =>
 some o1
theorem Qhf:∀ (p0:(List UInt8)) (p1:(List UInt8)) (o:Bool),Qbs p0 p1=some o→PCall Tryz.prog 129 [sV p0,sV p1] (Qb2 o):=by
 intro p0 p1 o h
 unfold Qbs at h
 refine PCall.ofB mixed tbOk Qg7 Tryz.func129 rfl (by kernel_rfl) (Nat.le_of_ble_eq_true rfl) ?_
 refine Qag h (fun o1 ho hk=>?_)
 refine Exists.intro (JP1 _ _ o1 .normal (Qf9 )) (And.intro ?_ (join1 ?_))
 ·have h:=ho
  refine vrfl ?_
  refine vrfl ?_
  refine Qae h (fun hb h=>?_) (fun hb h=>?_)
  ·refine vrfl ?_
   refine vrfl ?_
   refine Qn0 (some (wr ((p0.length:Int)-(p1.length:Int)))) none h (fun x2 hi h=>?_)
   refine JP1.a h ?_
   exact Le.tz 0 0 rfl rfl rfl
  ·refine JP1.a h ?_
   exact Le.tz 0 0 rfl rfl rfl
 ·have h:=hk
  refine Qal (t:=Qb2) h ?_
  exact .refl _
noncomputable def strings_HasSuffix (p0:(List UInt8)) (p1:(List UInt8)):Option (Bool) :=
 Qbs p0 p1>>=fun x1 =>
 some x1
theorem Qdz:∀ (p0:(List UInt8)) (p1:(List UInt8)) (o:Bool),strings_HasSuffix p0 p1=some o→PCall Tryz.prog 98 [sV p0,sV p1] (Qca o):=by
 intro p0 p1 o h
 unfold strings_HasSuffix at h
 refine PCall.ofB mixed tbOk Qpe Tryz.func98 rfl (by kernel_rfl) (Nat.le_of_ble_eq_true rfl) ?_
 refine Qah [sV p0,sV p1] Qb2 h (fun x1 hy=>(Qhf p0 p1 x1 hy)) (fun x1 hy h=>?_)
 refine Qal (t:=Qca) h ?_
 exact .refl _
noncomputable def Qb5 (p0:(List UInt8)) (p1:(List UInt8)):Option (Int) :=
 need (p0.length<4294967281)>>=fun _ =>
 some (Lib.index p0 p1)
theorem Qjb:∀ (p0:(List UInt8)) (p1:(List UInt8)) (o:Int),Qb5 p0 p1=some o→PCall Tryz.prog 167 [sV p0,sV p1] (Qex o):=by
 intro p0 p1 o h
 unfold Qb5 at h
 obtain⟨h1,h⟩:=Q7h h
 cases h
 exact Q8v _ _ h1
noncomputable def strings_Index (p0:(List UInt8)) (p1:(List UInt8)):Option (Int) :=
 Qb5 p0 p1>>=fun x1 =>
 some x1
theorem Qtl:∀ (p0:(List UInt8)) (p1:(List UInt8)) (o:Int),strings_Index p0 p1=some o→PCall Tryz.prog 153 [sV p0,sV p1] (Qkq o):=by
 intro p0 p1 o h
 unfold strings_Index at h
 refine PCall.ofB mixed tbOk Qs5 Tryz.func153 rfl (by kernel_rfl) (Nat.le_of_ble_eq_true rfl) ?_
 refine Qah [sV p0,sV p1] Qex h (fun x1 hy=>(Qjb p0 p1 x1 hy)) (fun x1 hy h=>?_)
 refine Qal (t:=Qkq) h ?_
 exact .refl _
noncomputable def strings_Contains (p0:(List UInt8)) (p1:(List UInt8)):Option (Bool) :=
 strings_Index p0 p1>>=fun x1 =>
 some (decide (x1 ≥ 0))
theorem Qqd:∀ (p0:(List UInt8)) (p1:(List UInt8)) (o:Bool),strings_Contains p0 p1=some o→PCall Tryz.prog 127 [sV p0,sV p1] (Qg9 o):=by
 intro p0 p1 o h
 unfold strings_Contains at h
 refine PCall.ofB mixed tbOk Qp9 Tryz.func127 rfl (by kernel_rfl) (Nat.le_of_ble_eq_true rfl) ?_
 refine Qah [sV p0,sV p1] Qkq h (fun x1 hy=>(Qtl p0 p1 x1 hy)) (fun x1 hy h=>?_)
 refine Qal (t:=Qg9) h ?_
 exact .refl _
noncomputable def Qme (p0:Int):Option (Bool) :=
 ( if(decide (p0 ≥ 48)) then
   some (decide (p0≤57))
  else
   some false:Option (Bool))>>=fun o1 =>
 some o1
theorem Qsz:∀ (p0:Int) (o:Bool),Qme p0=some o→PCall Tryz.prog 124 [nV .u8 p0] (Qmv o):=by
 intro p0 o h
 unfold Qme at h
 refine PCall.ofB mixed tbOk Q15 Tryz.func124 rfl (by kernel_rfl) (Nat.le_of_ble_eq_true rfl) ?_
 refine Qag h (fun o1 ho hk=>?_)
 refine Exists.intro (JP1 _ _ o1 .normal (Qwu )) (And.intro ?_ (join1 ?_))
 ·have h:=ho
  refine Qae h (fun hb h=>?_) (fun hb h=>?_)
  ·refine JP1.a h ?_
   exact Le.tz 0 0 rfl rfl rfl
  ·refine JP1.a h ?_
   exact Le.tz 0 0 rfl rfl rfl
 ·have h:=hk
  refine Qal (t:=Qmv) h ?_
  exact .refl _
noncomputable def Qmf (p0:Int):Option (Bool) :=
 ( if(decide (p0 ≥ 97)) then
   if(decide (p0≤122)) then
    some true
   else
    Qme p0>>=fun x2 =>
    if x2 then
     some true
    else
     some (p0==95)
  else
   Qme p0>>=fun x3 =>
   if x3 then
    some true
   else
    some (p0==95):Option (Bool))>>=fun o1 =>
 some o1
theorem Q0h:∀ (p0:Int) (o:Bool),Qmf p0=some o→PCall Tryz.prog 95 [nV .u8 p0] (Qoi o):=by
 intro p0 o h
 unfold Qmf at h
 refine PCall.ofB mixed tbOk Qz0 Tryz.func95 rfl (by kernel_rfl) (Nat.le_of_ble_eq_true rfl) ?_
 refine Qag h (fun o1 ho hk=>?_)
 refine Exists.intro (JP1 _ _ o1 .normal (Qu2 )) (And.intro ?_ (join1 ?_))
 ·have h:=ho
  refine Qae h (fun hb h=>?_) (fun hb h=>?_)
  ·refine Qae h (fun hb h=>?_) (fun hb h=>?_)
   ·refine bT ?_
    refine JP1.a h ?_
    exact Le.tz 0 0 rfl rfl rfl
   ·refine Qah [nV .u8 p0] Qmv h (fun x2 hy=>(Qsz p0 x2 hy)) (fun x2 hy h=>?_)
    refine Qae h (fun hb h=>?_) (fun hb h=>?_)
    ·refine JP1.a h ?_
     exact Le.tz 0 0 rfl rfl rfl
    ·refine JP1.a h ?_
     exact Le.tz 0 0 rfl rfl rfl
  ·refine bF ?_
   refine Qah [nV .u8 p0] Qmv h (fun x3 hy=>(Qsz p0 x3 hy)) (fun x3 hy h=>?_)
   refine Qae h (fun hb h=>?_) (fun hb h=>?_)
   ·refine JP1.a h ?_
    exact Le.tz 0 0 rfl rfl rfl
   ·refine JP1.a h ?_
    exact Le.tz 0 0 rfl rfl rfl
 ·have h:=hk
  refine Qal (t:=Qoi) h ?_
  exact .refl _
noncomputable def Qfh (p0:(List UInt8)) (v6:Int):Option (Unit⊕Unit) :=
 if(decide (v6<(p0.length:Int))) then
  idx p0 v6>>=fun x4 =>
  Qmf (x4.toNat:Int)>>=fun x5 =>
  if(!x5) then
   some (.inr ())
  else
   Qfh p0 (wr (v6+1))
 else
  some (.inl ())
 partial_fixpoint
theorem Qvw:∀ (p0:(List UInt8)),(∀ (v6:Int) (o1:Unit⊕Unit),Qfh p0 v6=some o1→TL (0,0) Tryz.prog 27 Qq5 (JP2 (0,0) 27 o1 (.exit 0) (Qlv p0) .ret (Qlw p0)) (Qil p0 v6)):=by
 intro p0
 refine Qfh.partial_correctness p0 _ ?_
 intro Qfh' iQfh v6 o1 h
 refine TL.round (Qai mixed tbOk (lv:=Qu1) _ _ _ ?_)
 refine Qae h (fun hb h=>?_) (fun hb h=>?_)
 ·refine Qfx h (fun x4 hi h=>?_)
  refine Qah [nV .u8 (x4.toNat:Int)] Qoi h (fun x5 hy=>(Q0h (x4.toNat:Int) x5 hy)) (fun x5 hy h=>?_)
  refine Qae h (fun hb h=>?_) (fun hb h=>?_)
  ·exact JP2.b h (Le.tz 0 0 rfl rfl rfl)
  ·refine TL.le (τ := Qil p0 (wr (v6+1))) ?_ ((iQfh (wr (v6+1)) _ h))
   exact Le.tz 0 0 rfl rfl rfl
 ·exact JP2.a h (Le.tz 0 0 rfl rfl rfl)
theorem Qxj:∀ (p0:(List UInt8)) (v6:Int) (o1:Unit⊕Unit),Qfh p0 v6=some o1→TL (0,0) Tryz.prog 27 Qq5 (JP2 (0,0) 27 o1 (.exit 0) (Qlv p0) .ret (Qlw p0)) (Qil p0 v6):=fun p0 v6=>(Qvw p0) v6
noncomputable def Qm4 (p0:(List UInt8)):Option (Bool) :=
 (Qfh p0 0)>>=fun o1 =>
 match o1 with
 | .inl y2 =>
  ( if(!(p0==[])) then
    if(decide ((p0.length:Int)≤32)) then
     idx p0 0>>=fun x7 =>
     some (decide ((x7.toNat:Int) ≥ 97))
    else
     some false
   else
    some false:Option (Bool))>>=fun o6 =>
  some o6
 | .inr y3 =>
  some false
theorem Qqe:∀ (p0:(List UInt8)) (o:Bool),Qm4 p0=some o→PCall Tryz.prog 69 [sV p0] (Qjw o):=by
 intro p0 o h
 unfold Qm4 at h
 refine PCall.ofB mixed tbOk Qu1 Tryz.func69 rfl (by kernel_rfl) (Nat.le_of_ble_eq_true rfl) ?_
 refine vrfl ?_
 refine Qag h (fun o1 ho hk=>?_)
 refine Exists.intro (JP2 _ _ o1 (.exit 0) (Qlv p0) .ret (Qlw p0)) (And.intro (T_le (τ := Qil p0 0) ?_ (TL.loop (Qxj p0 0 o1 ho))) (join2 (fun y2 hy=>?_) (fun y3 hy=>?_)))
 ·exact Le.tz 0 0 rfl rfl rfl
 ·have h:=(by rw[hy] at hk; exact hk)
  refine Qag h (fun o6 ho hk=>?_)
  refine Exists.intro (JP1 _ _ o6 .normal (Qzz )) (And.intro ?_ (join1 ?_))
  ·have h:=ho
   refine Qae h (fun hb h=>?_) (fun hb h=>?_)
   ·refine vrfl ?_
    refine Qae h (fun hb h=>?_) (fun hb h=>?_)
    ·refine Qfx h (fun x7 hi h=>?_)
     refine JP1.a h ?_
     exact Le.tz 0 0 rfl rfl rfl
    ·refine JP1.a h ?_
     exact Le.tz 0 0 rfl rfl rfl
   ·refine bF ?_
    refine JP1.a h ?_
    exact Le.tz 0 0 rfl rfl rfl
  ·have h:=hk
   refine Qal (t:=Qjw) h ?_
   exact .refl _
 ·have h:=(by rw[hy] at hk; exact hk)
  refine Qal (t:=Qjw) h ?_
  exact .refl _
noncomputable def Qhg (p0:(List UInt8)):Option (Bool) :=
 ( if(p0==[105,102]) then
   some (p0==[105,102])
  else
   if(p0==[101,108,115,101]) then
    some (p0==[101,108,115,101])
   else
    if(p0==[101,110,100]) then
     some (p0==[101,110,100])
    else
     if(p0==[101,97,99,104]) then
      some (p0==[101,97,99,104])
     else
      if(p0==[105,110]) then
       some (p0==[105,110])
      else
       if(p0==[108,101,116]) then
        some (p0==[108,101,116])
       else
        if(p0==[117,115,101]) then
         some (p0==[117,115,101])
        else
         if(p0==[116,114,117,101]) then
          some (p0==[116,114,117,101])
         else
          if(p0==[102,97,108,115,101]) then
           some (p0==[102,97,108,115,101])
          else
           some (p0==[115,101,99,114,101,116]):Option (Bool))>>=fun o1 =>
 if o1 then
  some false
 else
  Qm4 p0>>=fun x2 =>
  some x2
theorem Qix:∀ (p0:(List UInt8)) (o:Bool),Qhg p0=some o→PCall Tryz.prog 37 [sV p0] (Qe5 o):=by
 intro p0 o h
 unfold Qhg at h
 refine PCall.ofB mixed tbOk Q17 Tryz.func37 rfl (by kernel_rfl) (Nat.le_of_ble_eq_true rfl) ?_
 refine Qag h (fun o1 ho hk=>?_)
 refine Exists.intro (JP1 _ _ o1 .normal (Qwv p0)) (And.intro ?_ (join1 ?_))
 ·have h:=ho
  refine Qae h (fun hb h=>?_) (fun hb h=>?_)
  ·refine JP1.a h ?_
   exact Le.tz 0 0 rfl rfl rfl
  ·refine Qae h (fun hb h=>?_) (fun hb h=>?_)
   ·refine JP1.a h ?_
    exact Le.tz 0 0 rfl rfl rfl
   ·refine Qae h (fun hb h=>?_) (fun hb h=>?_)
    ·refine JP1.a h ?_
     exact Le.tz 0 0 rfl rfl rfl
    ·refine Qae h (fun hb h=>?_) (fun hb h=>?_)
     ·refine JP1.a h ?_
      exact Le.tz 0 0 rfl rfl rfl
     ·refine Qae h (fun hb h=>?_) (fun hb h=>?_)
      ·refine JP1.a h ?_
       exact Le.tz 0 0 rfl rfl rfl
      ·refine Qae h (fun hb h=>?_) (fun hb h=>?_)
       ·refine JP1.a h ?_
        exact Le.tz 0 0 rfl rfl rfl
       ·refine Qae h (fun hb h=>?_) (fun hb h=>?_)
        ·refine JP1.a h ?_
         exact Le.tz 0 0 rfl rfl rfl
        ·refine Qae h (fun hb h=>?_) (fun hb h=>?_)
         ·refine JP1.a h ?_
          exact Le.tz 0 0 rfl rfl rfl
         ·refine Qae h (fun hb h=>?_) (fun hb h=>?_)
          ·refine JP1.a h ?_
           exact Le.tz 0 0 rfl rfl rfl
          ·refine JP1.a h ?_
           exact Le.tz 0 0 rfl rfl rfl
 ·have h:=hk
  refine Qae h (fun hb h=>?_) (fun hb h=>?_)
  ·refine Qal (t:=Qe5) h ?_
   exact .refl _
  ·refine Qah [sV p0] Qjw h (fun x2 hy=>(Qqe p0 x2 hy)) (fun x2 hy h=>?_)
   refine Qal (t:=Qe5) h ?_
   exact .refl _
noncomputable def Qb1 (p0:(List UInt8)) (v4:(List Int)) (v18:Int):Option ((List Int)) :=
 if(decide (v18<(p0.length:Int))) then
  idx p0 v18>>=fun x5 =>
  if((x5.toNat:Int)==10) then
   appL 1 v4 (s2b [92,110])>>=fun x6 =>
   Qb1 p0 x6 (wr (v18+1))
  else
   if((x5.toNat:Int)==9) then
    appL 1 v4 (s2b [92,116])>>=fun x7 =>
    Qb1 p0 x7 (wr (v18+1))
   else
    ( if((x5.toNat:Int)==34) then
      some ((x5.toNat:Int)==34)
     else
      some ((x5.toNat:Int)==92):Option (Bool))>>=fun o8 =>
    if o8 then
     appL 1 v4 [92,(x5.toNat:Int)]>>=fun x9 =>
     Qb1 p0 x9 (wr (v18+1))
    else
     appL 1 v4 [(x5.toNat:Int)]>>=fun x10 =>
     Qb1 p0 x10 (wr (v18+1))
 else
  some v4
 partial_fixpoint
theorem Qtm:∀ (p0:(List UInt8)),(∀ (v4:(List Int)) (v18:Int) (o4:(List Int)),Qb1 p0 v4 v18=some o4→TL (0,0) Tryz.prog 49 Qpx (JP1 (0,0) 49 o4 (.exit 0) (Qkp p0)) (Qc5 p0 v4 v18)):=by
 intro p0
 refine Qb1.partial_correctness p0 _ ?_
 intro Qb1' iQb1 v4 v18 o4 h
 refine TL.round (Qai mixed tbOk (lv:=Qsv) _ _ _ ?_)
 refine Qae h (fun hb h=>?_) (fun hb h=>?_)
 ·refine Qfx h (fun x5 hi h=>?_)
  refine Qae h (fun hb h=>?_) (fun hb h=>?_)
  ·refine Q5a (a:=v4) (b:=[92,110]) h rfl (fun x6 hi h=>?_)
   refine TL.le (τ := Qc5 p0 x6 (wr (v18+1))) ?_ ((iQb1 x6 (wr (v18+1)) _ h))
   exact Le.tz 0 1 rfl rfl rfl
  ·refine Qae h (fun hb h=>?_) (fun hb h=>?_)
   ·refine Q5a (a:=v4) (b:=[92,116]) h rfl (fun x7 hi h=>?_)
    refine TL.le (τ := Qc5 p0 x7 (wr (v18+1))) ?_ ((iQb1 x7 (wr (v18+1)) _ h))
    exact Le.tz 0 1 rfl rfl rfl
   ·refine Qag h (fun o8 ho hk=>?_)
    refine Exists.intro (JP1 _ _ o8 .normal (Qwt p0 v4 v18 x5)) (And.intro ?_ (join1 ?_))
    ·have h:=ho
     refine Qae h (fun hb h=>?_) (fun hb h=>?_)
     ·refine JP1.a h ?_
      exact Le.tz 0 1 rfl rfl rfl
     ·refine JP1.a h ?_
      exact Le.tz 0 1 rfl rfl rfl
    ·have h:=hk
     refine Qae h (fun hb h=>?_) (fun hb h=>?_)
     ·refine Qlc (a:=v4) (b:=[92,(x5.toNat:Int)]) (c:=(cNum .u8)) h (.refl _) (fun _=>rfl) rfl (fun x9 hi h=>?_)
      refine TL.le (τ := Qc5 p0 x9 (wr (v18+1))) ?_ ((iQb1 x9 (wr (v18+1)) _ h))
      exact Le.tz 0 1 rfl rfl rfl
     ·refine Qlc (a:=v4) (b:=[(x5.toNat:Int)]) (c:=(cNum .u8)) h (.refl _) (fun _=>rfl) rfl (fun x10 hi h=>?_)
      refine TL.le (τ := Qc5 p0 x10 (wr (v18+1))) ?_ ((iQb1 x10 (wr (v18+1)) _ h))
      exact Le.tz 0 1 rfl rfl rfl
 ·exact JP1.a h (Le.tz 0 1 rfl rfl rfl)
theorem Qvx:∀ (p0:(List UInt8)) (v4:(List Int)) (v18:Int) (o4:(List Int)),Qb1 p0 v4 v18=some o4→TL (0,0) Tryz.prog 49 Qpx (JP1 (0,0) 49 o4 (.exit 0) (Qkp p0)) (Qc5 p0 v4 v18):=fun p0 v4 v18=>(Qtm p0) v4 v18
noncomputable def Qbt (p0:(List UInt8)) (p1:Int):Option (Int) :=
 some (Lib.indexByte p0 p1.toNat.toUInt8)
theorem Qhh:∀ (p0:(List UInt8)) (p1:Int) (o:Int),Qbt p0 p1=some o→PCall Tryz.prog 174 [sV p0,nV .u8 p1] (Qdx o):=by
 intro p0 p1 o h
 unfold Qbt at h
 cases h
 exact Q1v _ _
noncomputable def strings_IndexByte (p0:(List UInt8)) (p1:Int):Option (Int) :=
 Qbt p0 p1>>=fun x1 =>
 some x1
theorem Qpg:∀ (p0:(List UInt8)) (p1:Int) (o:Int),strings_IndexByte p0 p1=some o→PCall Tryz.prog 169 [sV p0,nV .u8 p1] (Qga o):=by
 intro p0 p1 o h
 unfold strings_IndexByte at h
 refine PCall.ofB mixed tbOk Qpf Tryz.func169 rfl (by kernel_rfl) (Nat.le_of_ble_eq_true rfl) ?_
 refine Qah [sV p0,nV .u8 p1] Qdx h (fun x1 hy=>(Qhh p0 p1 x1 hy)) (fun x1 hy h=>?_)
 refine Qal (t:=Qga) h ?_
 exact .refl _
noncomputable def Qhi (x1:(List UInt8)) (l4:(List (Int×Int))):Option (Unit⊕Unit) :=
 match l4 with
 | [] =>
  some (.inl ())
 | x2::r3 =>
  ( if(x2.1==65533) then
    some (x2.2==1)
   else
    some false:Option (Bool))>>=fun o9 =>
  if o9 then
   some (.inr ())
  else
   Qhi x1 r3
 partial_fixpoint
theorem Q0i:∀ (x1:(List UInt8)),(∀ (l4:(List (Int×Int))) (o6:Unit⊕Unit),Qhi x1 l4=some o6→RL 1 0 Tryz.prog 15 (rgP Qh7) (rgA Qh7) (rgB Qh7) (Qgm x1).env (JP2 (0,0) 15 o6 .normal (Qol x1) .ret (Qom x1)) (l4.map Qe7) (Qgm x1).s):=by
 intro x1
 refine Qhi.partial_correctness x1 _ ?_
 intro Qhi' iQhi l4 o6 h
 cases l4 with
 | nil =>
  refine Q5b ?_
  exact JP2.a h (Le.tz 1 0 rfl rfl rfl)
 | cons x2 r3 =>
  refine Qy6 (Qai mixed tbOk (lv:=Qu9) _ _ _ ?_)
  refine And.intro rfl (Qai mixed tbOk (lv:=Qu9) _ _ _ ?_)
  refine Qag h (fun o9 ho hk=>?_)
  refine Exists.intro (JP1 _ _ o9 .normal (Q4a x1 x2)) (And.intro ?_ (join1 ?_))
  ·have h:=ho
   refine Qae h (fun hb h=>?_) (fun hb h=>?_)
   ·refine JP1.a h ?_
    exact Le.tz 1 0 rfl rfl rfl
   ·refine JP1.a h ?_
    exact Le.tz 1 0 rfl rfl rfl
  ·have h:=hk
   refine Qae h (fun hb h=>?_) (fun hb h=>?_)
   ·exact Exists.intro (⟨[[.p (bV false)]],[]⟩:S) (And.intro (Le.tow 1 0 rfl .nil (.refl _) rfl) (And.intro rfl (And.intro rfl (JP2.b h (Le.tz 1 0 rfl rfl rfl)))))
   ·exact Exists.intro (Qgm x1 ).s (And.intro (Le.tz 1 0 rfl rfl rfl) (And.intro rfl (And.intro rfl ((iQhi r3 _ h)))))
theorem Q2r:∀ (x1:(List UInt8)) (l4:(List (Int×Int))) (o6:Unit⊕Unit),Qhi x1 l4=some o6→RL 1 0 Tryz.prog 15 (rgP Qh7) (rgA Qh7) (rgB Qh7) (Qgm x1).env (JP2 (0,0) 15 o6 .normal (Qol x1) .ret (Qom x1)) (l4.map Qe7) (Qgm x1).s:=fun x1 l4=>(Q0i x1) l4
noncomputable def Q0j (p0:(List UInt8)):Option ((List UInt8)) :=
 some p0
theorem Q6e:∀ (p0:(List UInt8)) (o:(List UInt8)),Q0j p0=some o→PCall Tryz.prog 178 [sV p0] (Qva o):=by
 intro p0 o h
 unfold Q0j at h
 refine PCall.ofM mixed tbOk Q6c Tryz.func178 rfl (by kernel_rfl) (Nat.le_of_ble_eq_true rfl) ?_
 refine Qal (t:=Qva) h ?_
 exact .refl _
noncomputable def Qyb (p0:Int):Option (Bool) :=
 ( if(decide (p0 ≥ 0)) then
   if(decide (p0≤1114111)) then
    if(decide (p0<55296)) then
     some true
    else
     some (decide (p0>57343))
   else
    some false
  else
   some false:Option (Bool))>>=fun o1 =>
 some o1
theorem Q7r:∀ (p0:Int) (o:Bool),Qyb p0=some o→PCall Tryz.prog 188 [nV .i32 p0] (Qz8 o):=by
 intro p0 o h
 unfold Qyb at h
 refine PCall.ofB mixed tbOk Q7o Tryz.func188 rfl (by kernel_rfl) (Nat.le_of_ble_eq_true rfl) ?_
 refine Qag h (fun o1 ho hk=>?_)
 refine Exists.intro (JP1 _ _ o1 .normal (Q4c )) (And.intro ?_ (join1 ?_))
 ·have h:=ho
  refine Qae h (fun hb h=>?_) (fun hb h=>?_)
  ·refine Qae h (fun hb h=>?_) (fun hb h=>?_)
   ·refine Qae h (fun hb h=>?_) (fun hb h=>?_)
    ·refine JP1.a h ?_
     exact Le.tz 0 0 rfl rfl rfl
    ·refine JP1.a h ?_
     exact Le.tz 0 0 rfl rfl rfl
   ·refine JP1.a h ?_
    exact Le.tz 0 0 rfl rfl rfl
  ·refine bF ?_
   refine JP1.a h ?_
   exact Le.tz 0 0 rfl rfl rfl
 ·have h:=hk
  refine Qal (t:=Qz8) h ?_
  exact .refl _
noncomputable def Qfi (p0:(List UInt8)) (p2:Int) (v1:Int) (v14:Int):Option (Int⊕Unit) :=
 if(decide (v14<p2)) then
  idx p0 v14>>=fun x4 =>
  if((bits .and .u8 (x4.toNat:Int) 192) != 128) then
   some (.inr ())
  else
   idx p0 v14>>=fun x5 =>
   Qfi p0 p2 (bits .or .i32 (IntKind.i32.wrap (v1*2 ^ (min (6:Int).toNat (IntKind.i32.bits)))) (IntKind.i32.wrap (bits .and .u8 (x5.toNat:Int) 63))) (wr (v14+1))
 else
  some (.inl v1)
 partial_fixpoint
theorem Qvy:∀ (p0:(List UInt8)) (p2:Int),(∀ (v1:Int) (v14:Int) (o1:Int⊕Unit),Qfi p0 p2 v1 v14=some o1→TL (0,0) Tryz.prog 32 Qq8 (JP2 (0,0) 32 o1 (.exit 0) (Qlx p0 p2) .ret (Qly p0 p2)) (Qin p0 p2 v1 v14)):=by
 intro p0 p2
 refine Qfi.partial_correctness p0 p2 _ ?_
 intro Qfi' iQfi v1 v14 o1 h
 refine TL.round (Qai mixed tbOk (lv:=Qvb) _ _ _ ?_)
 refine Qae h (fun hb h=>?_) (fun hb h=>?_)
 ·refine Qfx h (fun x4 hi h=>?_)
  refine Qae h (fun hb h=>?_) (fun hb h=>?_)
  ·exact JP2.b h (Le.tz 0 0 rfl rfl rfl)
  ·refine And.intro (by decide) ?_
   refine Qfx h (fun x5 hi h=>?_)
   refine vrfl ?_
   refine TL.le (τ := Qin p0 p2 (bits .or .i32 (IntKind.i32.wrap (v1*2 ^ (min (6:Int).toNat (IntKind.i32.bits)))) (IntKind.i32.wrap (bits .and .u8 (x5.toNat:Int) 63))) (wr (v14+1))) ?_ ((iQfi (bits .or .i32 (IntKind.i32.wrap (v1*2 ^ (min (6:Int).toNat (IntKind.i32.bits)))) (IntKind.i32.wrap (bits .and .u8 (x5.toNat:Int) 63))) (wr (v14+1)) _ h))
   exact Le.tz 0 0 rfl rfl rfl
 ·exact JP2.a h (Le.tz 0 0 rfl rfl rfl)
theorem Qxk:∀ (p0:(List UInt8)) (p2:Int) (v1:Int) (v14:Int) (o1:Int⊕Unit),Qfi p0 p2 v1 v14=some o1→TL (0,0) Tryz.prog 32 Qq8 (JP2 (0,0) 32 o1 (.exit 0) (Qlx p0 p2) .ret (Qly p0 p2)) (Qin p0 p2 v1 v14):=fun p0 p2 v1 v14=>(Qvy p0 p2) v1 v14
noncomputable def Qpa (p0:(List UInt8)) (p1:Int) (p2:Int):Option (Int×Bool) :=
 if(decide ((p0.length:Int)<p2)) then
  some (0,false)
 else
  (Qfi p0 p2 p1 0)>>=fun o1 =>
  match o1 with
  | .inl y2 =>
   some (y2,true)
  | .inr y3 =>
   some (0,false)
theorem Q4f:∀ (p0:(List UInt8)) (p1:Int) (p2:Int) (o:Int×Bool),Qpa p0 p1 p2=some o→PCall Tryz.prog 187 [sV p0,nV .i32 p1,iV p2] (Ql7 o):=by
 intro p0 p1 p2 o h
 unfold Qpa at h
 refine PCall.ofB mixed tbOk Qvb Tryz.func187 rfl (by kernel_rfl) (Nat.le_of_ble_eq_true rfl) ?_
 refine vrfl ?_
 refine Qae h (fun hb h=>?_) (fun hb h=>?_)
 ·refine Qal (t:=Ql7) h ?_
  exact .refl _
 ·refine Qag h (fun o1 ho hk=>?_)
  refine Exists.intro (JP2 _ _ o1 (.exit 0) (Qlx p0 p2) .ret (Qly p0 p2)) (And.intro (T_le (τ := Qin p0 p2 p1 0) ?_ (TL.loop (Qxk p0 p2 p1 0 o1 ho))) (join2 (fun y2 hy=>?_) (fun y3 hy=>?_)))
  ·exact Le.tz 0 0 rfl rfl rfl
  ·have h:=(by rw[hy] at hk; exact hk)
   refine Qal (t:=Ql7) h ?_
   exact .refl _
  ·have h:=(by rw[hy] at hk; exact hk)
   refine Qal (t:=Ql7) h ?_
   exact .refl _
noncomputable def Qre (p0:(List UInt8)) (p1:Int):Option (Int×Int) :=
 ( if(decide (p1<0)) then
   some true
  else
   some (decide (p1 ≥ (p0.length:Int))):Option (Bool))>>=fun o1 =>
 if o1 then
  some (0,0)
 else
  idx p0 p1>>=fun x2 =>
  ( if(decide ((x2.toNat:Int)<128)) then
    some (.inr (IntKind.i32.wrap (x2.toNat:Int)))
   else
    ( if(decide ((x2.toNat:Int) ≥ 192)) then
      some (decide ((x2.toNat:Int)<224))
     else
      some false:Option (Bool))>>=fun o6 =>
    if o6 then
     some (.inl ((IntKind.i32.wrap (bits .and .u8 (x2.toNat:Int) 31)),128,1))
    else
     ( if(decide ((x2.toNat:Int) ≥ 224)) then
       some (decide ((x2.toNat:Int)<240))
      else
       some false:Option (Bool))>>=fun o7 =>
     if o7 then
      some (.inl ((IntKind.i32.wrap (bits .and .u8 (x2.toNat:Int) 15)),2048,2))
     else
      ( if(decide ((x2.toNat:Int) ≥ 240)) then
        some (decide ((x2.toNat:Int)<248))
       else
        some false:Option (Bool))>>=fun o8 =>
      if o8 then
       some (.inl ((IntKind.i32.wrap (bits .and .u8 (x2.toNat:Int) 7)),65536,3))
      else
       some (.inr 65533):Option ((Int×Int×Int)⊕Int))>>=fun o3 =>
  match o3 with
  | .inl y4 =>
   cutL p0 (wr (p1+1)) (p0.length:Int)>>=fun x9 =>
   Qpa x9 y4.1 y4.2.2>>=fun x10 =>
   ( if(!x10.2) then
     some true
    else
     if(decide (x10.1<y4.2.1)) then
      some true
     else
      Qyb x10.1>>=fun x12 =>
      some (!x12):Option (Bool))>>=fun o11 =>
   if o11 then
    some (65533,1)
   else
    some (x10.1,(wr (y4.2.2+1)))
  | .inr y5 =>
   some (y5,1)
theorem Q4g:∀ (p0:(List UInt8)) (p1:Int) (o:Int×Int),Qre p0 p1=some o→PCall Tryz.prog 186 [sV p0,iV p1] (Qjx o):=by
 intro p0 p1 o h
 unfold Qre at h
 refine PCall.ofB mixed tbOk Q4b Tryz.func186 rfl (by kernel_rfl) (Nat.le_of_ble_eq_true rfl) ?_
 refine Qag h (fun o1 ho hk=>?_)
 refine Exists.intro (JP1 _ _ o1 .normal (Qz1 p0 p1)) (And.intro ?_ (join1 ?_))
 ·have h:=ho
  refine Qae h (fun hb h=>?_) (fun hb h=>?_)
  ·refine JP1.a h ?_
   exact Le.tz 0 0 rfl rfl rfl
  ·refine vrfl ?_
   refine JP1.a h ?_
   exact Le.tz 0 0 rfl rfl rfl
 ·have h:=hk
  refine Qae h (fun hb h=>?_) (fun hb h=>?_)
  ·refine Qal (t:=Qjx) h ?_
   exact .refl _
  ·refine Qfx h (fun x2 hi h=>?_)
   refine Qag h (fun o3 ho hk=>?_)
   refine Exists.intro (JP2 _ _ o3 .normal (Qz2 p0 p1) .ret (Qz3 p0 p1)) (And.intro ?_ (join2 (fun y4 hy=>?_) (fun y5 hy=>?_)))
   ·have h:=ho
    refine Qae h (fun hb h=>?_) (fun hb h=>?_)
    ·refine vrfl ?_
     refine JP2.b h ?_
     exact Le.tz 0 0 rfl rfl rfl
    ·refine Qag h (fun o6 ho hk=>?_)
     refine Exists.intro (JP1 _ _ o6 .normal (Qz4 p0 p1 x2)) (And.intro ?_ (join1 ?_))
     ·have h:=ho
      refine Qae h (fun hb h=>?_) (fun hb h=>?_)
      ·refine JP1.a h ?_
       exact Le.tz 0 0 rfl rfl rfl
      ·refine JP1.a h ?_
       exact Le.tz 0 0 rfl rfl rfl
     ·have h:=hk
      refine Qae h (fun hb h=>?_) (fun hb h=>?_)
      ·refine vrfl ?_
       refine JP2.a h ?_
       exact Le.tz 0 0 rfl rfl rfl
      ·refine Qag h (fun o7 ho hk=>?_)
       refine Exists.intro (JP1 _ _ o7 .normal (Qz5 p0 p1 x2)) (And.intro ?_ (join1 ?_))
       ·have h:=ho
        refine Qae h (fun hb h=>?_) (fun hb h=>?_)
        ·refine JP1.a h ?_
         exact Le.tz 0 0 rfl rfl rfl
        ·refine JP1.a h ?_
         exact Le.tz 0 0 rfl rfl rfl
       ·have h:=hk
        refine Qae h (fun hb h=>?_) (fun hb h=>?_)
        ·refine vrfl ?_
         refine JP2.a h ?_
         exact Le.tz 0 0 rfl rfl rfl
        ·refine Qag h (fun o8 ho hk=>?_)
         refine Exists.intro (JP1 _ _ o8 .normal (Qz6 p0 p1 x2)) (And.intro ?_ (join1 ?_))
         ·have h:=ho
          refine Qae h (fun hb h=>?_) (fun hb h=>?_)
          ·refine JP1.a h ?_
           exact Le.tz 0 0 rfl rfl rfl
          ·refine JP1.a h ?_
           exact Le.tz 0 0 rfl rfl rfl
         ·have h:=hk
          refine Qae h (fun hb h=>?_) (fun hb h=>?_)
          ·refine vrfl ?_
           refine JP2.a h ?_
           exact Le.tz 0 0 rfl rfl rfl
          ·refine JP2.b h ?_
           exact Le.tz 0 0 rfl rfl rfl
   ·have h:=(by rw[hy] at hk; exact hk)
    refine Qn0 (some (wr (p1+1))) none h (fun x9 hi h=>?_)
    refine Qah [sV x9,nV .i32 y4.1,iV y4.2.2] Ql7 h (fun x10 hy=>(Q4f x9 y4.1 y4.2.2 x10 hy)) (fun x10 hy h=>?_)
    refine Qag h (fun o11 ho hk=>?_)
    refine Exists.intro (JP1 _ _ o11 .normal (Qz7 y4 x10)) (And.intro ?_ (join1 ?_))
    ·have h:=ho
     refine Qae h (fun hb h=>?_) (fun hb h=>?_)
     ·refine bT ?_
      refine JP1.a h ?_
      exact Le.tz 0 0 rfl rfl rfl
     ·refine Qae h (fun hb h=>?_) (fun hb h=>?_)
      ·refine JP1.a h ?_
       exact Le.tz 0 0 rfl rfl rfl
      ·refine Qah [nV .i32 x10.1] Qz8 h (fun x12 hy=>(Q7r x10.1 x12 hy)) (fun x12 hy h=>?_)
       refine JP1.a h ?_
       exact Le.tz 0 0 rfl rfl rfl
    ·have h:=hk
     refine Qae h (fun hb h=>?_) (fun hb h=>?_)
     ·refine Qal (t:=Qjx) h ?_
      exact .refl _
     ·refine Qal (t:=Qjx) h ?_
      exact .refl _
   ·have h:=(by rw[hy] at hk; exact hk)
    refine Qal (t:=Qjx) h ?_
    exact .refl _
noncomputable def Qdu (p0:(List UInt8)) (v3:Int):Option ((List (Int×Int))×(Unit)) :=
 if(decide (v3<(p0.length:Int))) then
  Qre p0 v3>>=fun x3 =>
  ( Qdu p0 (wr (v3+x3.2)))>>=fun q=>some ((x3.1,x3.2)::q.1,q.2)
 else
  some ([],())
 partial_fixpoint
theorem Qtn:∀ (p0:(List UInt8)),(∀ (v3:Int) (o2:(List (Int×Int))×(Unit)),Qdu p0 v3=some o2→∀ (gxs gp gpost gq1:List (List V)),gxs=gp++(o2.1.map Qe7++gpost)→gxs=gq1++gpost→TL (0,1) Tryz.prog 24 Qpy (Qs (0,1) 24 gxs (JP1 (0,1) 24 o2.2 (.exit 0) (Qks p0 gxs gq1))) (Qhb p0 v3 gxs gp)):=by
 intro p0
 refine Qdu.partial_correctness p0 _ ?_
 intro Qdu' iQdu v3 o2 h
 intro gxs gp gpost gq1 hx hq
 refine TL.round (Qai mixed tbOk (lv:=Qsw) _ _ _ ?_)
 refine vrfl ?_
 refine Qae h (fun hb h=>?_) (fun hb h=>?_)
 ·refine Qah [sV p0,iV v3] Qjx h (fun x3 hy=>(Q4g p0 v3 x3 hy)) (fun x3 hy h=>?_)
  refine Q7e (c:=Qe7) h hx (.refl _) (by exact rfl) (by exact rfl) (fun _ h hx=>?_) ?_
  ·refine bF ?_
   refine TL.le (τ := Qhb p0 (wr (v3+x3.2)) gxs (gp++[Qe7 (x3.1,x3.2)])) ?_ ((iQdu (wr (v3+x3.2)) _ h) _ _ _ _ hx hq)
   exact Le.tz 0 1 rfl rfl rfl
  ·refine bT ?_
   exact .inr ⟨rfl,_,(Le.env0 _).trans (Le.tow 0 1 rfl .nil (.refl _) rfl),rfl,rfl,rfl⟩
 ·exact .inl (JP1.a (sndI h) (Le.tz 0 1 rfl rfl (liveQ h hx hq rfl)))
theorem Qvz:∀ (p0:(List UInt8)) (v3:Int) (o2:(List (Int×Int))×(Unit)),Qdu p0 v3=some o2→∀ (gxs gp gpost gq1:List (List V)),gxs=gp++(o2.1.map Qe7++gpost)→gxs=gq1++gpost→TL (0,1) Tryz.prog 24 Qpy (Qs (0,1) 24 gxs (JP1 (0,1) 24 o2.2 (.exit 0) (Qks p0 gxs gq1))) (Qhb p0 v3 gxs gp):=fun p0 v3=>(Qtn p0) v3
noncomputable def Qrf (p0:(List UInt8)):Option ((List (Int×Int))×Unit) :=
 ( Qdu p0 0)>>=fun o2=>(
  some ([],()))>>=fun q=>some (o2.1++q.1,q.2)
theorem Q2s:∀ (p0:(List UInt8)) (o:(List (Int×Int))×Unit),Qrf p0=some o→∀ gxs:List (List V),gxs=o.1.map Qe7→IterOK Tryz.prog 185 [.ep [sV p0]] gxs:=by
 intro p0 o h
 unfold Qrf at h
 intro gxs hg
 have hx:gxs=[]++(o.1.map Qe7++[]):=by simp[hg]
 refine IterOK.ofB mixed tbOk Qsw Tryz.func185 rfl (by kernel_rfl) (Nat.le_of_ble_eq_true rfl) rfl ?_
 refine Qty h hx (fun o2 lgq1 gq1 ho hk hxa hjgq1=>?_)
 refine Exists.intro (Qs _ _ gxs (JP1 _ _ o2.2 (.exit 0) (Qks p0 gxs gq1))) (And.intro (T_le (τ := Qhb p0 0 gxs ([]:List (List V))) ?_ (TL.loop ((Qvz p0 0 o2 ho) _ _ _ _ hxa hjgq1))) (joinS (join1 ?_) ?_))
 ·exact Le.tz 0 1 rfl rfl rfl
 ·have h:=hk
  have hx:=hjgq1
  exact Q7d h hx (.inl rfl) rfl
 ·exact fun s1 h1 h2 hs=>Q5c (.inr rfl) hs
noncomputable def Q2t (p0:(List UInt8)):Option (Bool) :=
 Q0j p0>>=fun x1 =>
 Qrf x1>>=fun y5 =>
 (Qhi x1 y5.1)>>=fun o6 =>
 match o6 with
 | .inl y7 =>
  some true
 | .inr y8 =>
  some false
theorem Q7s:∀ (p0:(List UInt8)) (o:Bool),Q2t p0=some o→PCall Tryz.prog 168 [sV p0] (Qt1 o):=by
 intro p0 o h
 unfold Q2t at h
 refine PCall.ofB mixed tbOk Qu9 Tryz.func168 rfl (by kernel_rfl) (Nat.le_of_ble_eq_true rfl) ?_
 refine Qah [sV p0] Qva h (fun x1 hy=>(Q6e p0 x1 hy)) (fun x1 hy h=>?_)
 refine Qag h (fun y5 hy5 h=>?_)
 refine Qag h (fun o6 ho hk=>?_)
 refine Exists.intro (JP2 _ _ o6 .normal (Qol x1) .ret (Qom x1)) (And.intro (T_le (τ := Qgm x1) ?_ (Qy1 (g:=185) (cap:=[.ep [sV x1]]) rfl ((Q2s x1 y5 hy5) _ rfl) (mapSize fun _=>rfl) rfl (Nat.le_of_ble_eq_true rfl) (Nat.le_of_ble_eq_true rfl) (Q2r x1 y5.1 o6 ho))) (join2 (fun y7 hy=>?_) (fun y8 hy=>?_)))
 ·exact Le.tz 1 0 rfl rfl rfl
 ·have h:=(by rw[hy] at hk; exact hk)
  refine Qal (t:=Qt1) h ?_
  exact .refl _
 ·have h:=(by rw[hy] at hk; exact hk)
  refine Qal (t:=Qt1) h ?_
  exact .refl _
noncomputable def Qiy (p0:(List UInt8)):Option ((List UInt8)×Bool) :=
 ( Q2t p0>>=fun x2 =>
  if(!x2) then
   some true
  else
   strings_IndexByte p0 13>>=fun x3 =>
   some (decide (x3 ≥ 0)):Option (Bool))>>=fun o1 =>
 if o1 then
  some ([],false)
 else
  (Qb1 p0 [34] 0)>>=fun o4 =>
  appL 1 o4 [34]>>=fun x11 =>
  b2s x11>>=fun x12 =>
  some (x12,true)
theorem Q2u:∀ (p0:(List UInt8)) (o:(List UInt8)×Bool),Qiy p0=some o→PCall Tryz.prog 154 [sV p0] (Qmu o):=by
 intro p0 o h
 unfold Qiy at h
 refine PCall.ofB mixed tbOk Qsv Tryz.func154 rfl (by kernel_rfl) (Nat.le_of_ble_eq_true rfl) ?_
 refine Qag h (fun o1 ho hk=>?_)
 refine Exists.intro (JP1 _ _ o1 .normal (Qws p0)) (And.intro ?_ (join1 ?_))
 ·have h:=ho
  refine Qah [sV p0] Qt1 h (fun x2 hy=>(Q7s p0 x2 hy)) (fun x2 hy h=>?_)
  refine Qae h (fun hb h=>?_) (fun hb h=>?_)
  ·refine JP1.a h ?_
   exact Le.tz 0 0 rfl rfl rfl
  ·refine Qah [sV p0,nV .u8 13] Qga h (fun x3 hy=>(Qpg p0 13 x3 hy)) (fun x3 hy h=>?_)
   refine JP1.a h ?_
   exact Le.tz 0 0 rfl rfl rfl
 ·have h:=hk
  refine Qae h (fun hb h=>?_) (fun hb h=>?_)
  ·refine Qal (t:=Qmu) h ?_
   exact .refl _
  ·refine vrfl ?_
   refine Qag h (fun o4 ho hk=>?_)
   refine Exists.intro (JP1 _ _ o4 (.exit 0) (Qkp p0)) (And.intro (T_le (τ := Qc5 p0 [34] 0) ?_ (TL.loop (Qvx p0 [34] 0 o4 ho))) (join1 ?_))
   ·exact Le.trans (τ := ⟨[(0,.p (sV p0)),(4,.p (.sl true ([34].map (cNum .u8)))),(17,.p (iV (p0.length:Int))),(18,.p (iV 0))],⟨[],[]⟩⟩) (Le.tz 0 0 rfl rfl rfl) ((Le.ownW 4 5 1 rfl (mapSize fun _=>rfl)).trans (Le.tz 0 1 rfl rfl rfl))
   have h:=hk
   refine Qlc (a:=o4) (b:=[34]) (c:=(cNum .u8)) h (.refl _) (fun _=>rfl) rfl (fun x11 hi h=>?_)
   refine Q1u (l:=x11) h (fun x12 hi h=>?_)
   refine Qal (t:=Qmu) h ?_
   exact .refl _
noncomputable def Qgp (p0:Qab):Option (Qcn) :=
 some (Qcn.mk (!(p0.Name==[])) (!(p0.Text==[])) (p0.N != 0) (decide ((p0.Then.length:Int)>0)) (decide ((p0.Else.length:Int)>0)) (p0.L.length:Int))
theorem Qot:∀ (p0:Qab) (o:Qcn),Qgp p0=some o→PCall Tryz.prog 126 [.agg [iV p0.Kind,sV p0.Name,sV p0.Text,iV p0.N,.sl false (p0.L.map Qaa),.sl false (p0.Then.map Qaa),.sl false (p0.Else.map Qaa)]] (Qim o):=by
 intro p0 o h
 unfold Qgp at h
 refine PCall.ofB mixed tbOk Qu8 Tryz.func126 rfl (by kernel_rfl) (Nat.le_of_ble_eq_true rfl) ?_
 refine view (lenMap _ _) rfl ?_
 refine view (lenMap _ _) rfl ?_
 refine view (lenMap _ _) rfl ?_
 refine Qal (t:=Qim) h ?_
 exact .refl _
mutual
noncomputable def Qat (p0:(List Qab)):Option (Bool) :=
 Qbb p0>>=fun x1 =>
 some (decide (x1 ≥ 0))
 partial_fixpoint
noncomputable def Qbb (p0:(List Qab)):Option (Int) :=
 (Qan p0 0)>>=fun o1 =>
 match o1 with
 | .inl y2 =>
  some (-1)
 | .inr y3 =>
  some y3
 partial_fixpoint
noncomputable def Qan (p0:(List Qab)) (v8:Int):Option (Unit⊕Int) :=
 if(decide (v8<(p0.length:Int))) then
  idx p0 v8>>=fun x4 =>
  Qqf x4>>=fun x5 =>
  if x5 then
   some (.inr v8)
  else
   Qan p0 (wr (v8+1))
 else
  some (.inl ())
 partial_fixpoint
noncomputable def Qqf (p0:Qab):Option (Bool) :=
 Qeo p0>>=fun x1 =>
 some (!x1)
 partial_fixpoint
noncomputable def Qeo (p0:Qab):Option (Bool) :=
 Qgp p0>>=fun x1 =>
 if(p0.Kind==1) then
  Qiy p0.Text>>=fun x2 =>
  ( if x2.2 then
    some ((x1.name_==false)&&((x1.text_==x1.text_)&&((x1.num_==false)&&((x1.then_==false)&&((x1.other_==false)&&((x1.l_==0)&&true))))))
   else
    some false:Option (Bool))>>=fun o3 =>
  some o3
 else
  if(p0.Kind==2) then
   some ((x1.name_==false)&&((x1.text_==false)&&((x1.num_==x1.num_)&&((x1.then_==false)&&((x1.other_==false)&&((x1.l_==0)&&true))))))
  else
   if(p0.Kind==3) then
    ( if((bits .andNot .i64 p0.N 1)==0) then
      some ((x1.name_==false)&&((x1.text_==false)&&((x1.num_==x1.num_)&&((x1.then_==false)&&((x1.other_==false)&&((x1.l_==0)&&true))))))
     else
      some false:Option (Bool))>>=fun o4 =>
    some o4
   else
    if(p0.Kind==4) then
     ( Qhg p0.Name>>=fun x6 =>
      if x6 then
       some ((x1.name_==true)&&((x1.text_==false)&&((x1.num_==false)&&((x1.then_==false)&&((x1.other_==false)&&((x1.l_==0)&&true))))))
      else
       some false:Option (Bool))>>=fun o5 =>
     some o5
    else
     if(p0.Kind==7) then
      ( Qm4 p0.Name>>=fun x8 =>
       if x8 then
        some ((x1.name_==true)&&((x1.text_==false)&&((x1.num_==false)&&((x1.then_==false)&&((x1.other_==false)&&((x1.l_==0)&&true))))))
       else
        some false:Option (Bool))>>=fun o7 =>
      some o7
     else
      if(p0.Kind==5) then
       ( Qm4 p0.Name>>=fun x10 =>
        if x10 then
         if((x1.name_==true)&&((x1.text_==false)&&((x1.num_==false)&&((x1.then_==false)&&((x1.other_==false)&&((x1.l_==1)&&true)))))) then
          idx p0.L 0>>=fun x11 =>
          Qeo x11>>=fun x12 =>
          some x12
         else
          some false
        else
         some false:Option (Bool))>>=fun o9 =>
       some o9
      else
       if(p0.Kind==6) then
        ( Qhg p0.Name>>=fun x14 =>
         if x14 then
          if((x1.name_==true)&&((x1.text_==false)&&((x1.num_==false)&&((x1.then_==false)&&((x1.other_==false)&&((x1.l_==(if 3<x1.l_ then 3 else x1.l_))&&true)))))) then
           Qat p0.L>>=fun x15 =>
           some (!x15)
          else
           some false
         else
          some false:Option (Bool))>>=fun o13 =>
        some o13
       else
        some false
 partial_fixpoint
end
theorem Qct:(∀ (p0:(List Qab)) (o:Bool),Qat p0=some o→CallOK Tryz.prog 56 [.p (.sl false (p0.map Qaa)),.fn (.func 155) [] []] ⟨[],[]⟩ (Qbk o) ⟨[],[]⟩)∧(∀ (p0:(List Qab)) (o:Int),Qbb p0=some o→CallOK Tryz.prog 83 [.p (.sl false (p0.map Qaa)),.fn (.func 155) [] []] ⟨[],[]⟩ (Qa9 o) ⟨[],[]⟩)∧(∀ (p0:(List Qab)) (v8:Int) (o1:Unit⊕Int),Qan p0 v8=some o1→TL (0,0) Tryz.prog 19 Qc6 (JP2 (0,0) 19 o1 (.exit 0) (Qbh p0) .ret (Qbi p0)) (Qa1 p0 v8))∧(∀ (p0:Qab) (o:Bool),Qqf p0=some o→PCall Tryz.prog 155 [.agg [iV p0.Kind,sV p0.Name,sV p0.Text,iV p0.N,.sl false (p0.L.map Qaa),.sl false (p0.Then.map Qaa),.sl false (p0.Else.map Qaa)]] (Qmx o))∧(∀ (p0:Qab) (o:Bool),Qeo p0=some o→PCall Tryz.prog 128 [.agg [iV p0.Kind,sV p0.Name,sV p0.Text,iV p0.N,.sl false (p0.L.map Qaa),.sl false (p0.Then.map Qaa),.sl false (p0.Else.map Qaa)]] (Qcb o)):=by
 refine Qat.mutual_partial_correctness _ _ _ _ _ ?_ ?_ ?_ ?_ ?_
 ·intro Qbb' iQbb p0 o h
  refine CallOK.ofB mixed tbOk Qc2 Tryz.func56 rfl (by kernel_rfl) (Nat.le_of_ble_eq_true rfl) rfl rfl rfl ?_
  refine Qch _ _ h (fun x1 hy=>((iQbb p0 x1 hy).fr [] [] rfl rfl rfl)) (fun x1 hy h=>?_)
  refine Exists.intro _ (And.intro (Le.refl _ _ _) ?_)
  exact Qf6 (t:=Qbk) (ss:=fun o=>⟨[],[]⟩) h ⟨[],rfl,.refl _,.refl _,rfl⟩
 ·intro Qan' iQan p0 o h
  refine CallOK.ofB mixed tbOk Qbp Tryz.func83 rfl (by kernel_rfl) (Nat.le_of_ble_eq_true rfl) rfl rfl rfl ?_
  refine view (lenMap _ _) rfl ?_
  refine Qag h (fun o1 ho hk=>?_)
  refine Exists.intro (JP2 _ _ o1 (.exit 0) (Qbh p0) .ret (Qbi p0)) (And.intro (T_le (τ := Qa1 p0 0) ?_ (TL.loop (iQan p0 0 o1 ho))) (join2 (fun y2 hy=>?_) (fun y3 hy=>?_)))
  ·exact Le.tz 0 0 rfl rfl rfl
  ·have h:=(by rw[hy] at hk; exact hk)
   refine Exists.intro _ (And.intro (Le.refl _ _ _) ?_)
   exact Qf6 (t:=Qa9) (ss:=fun o=>⟨[],[]⟩) h ⟨[],rfl,.refl _,.refl _,rfl⟩
  ·have h:=(by rw[hy] at hk; exact hk)
   refine Exists.intro _ (And.intro (Le.refl _ _ _) ?_)
   exact Qf6 (t:=Qa9) (ss:=fun o=>⟨[],[]⟩) h ⟨[],rfl,.refl _,.refl _,rfl⟩
 ·intro Qan' Qqf' iQan iQqf p0 v8 o1 h
  refine TL.round (Qai mixed tbOk (lv:=Qbp) _ _ _ ?_)
  refine Qae h (fun hb h=>?_) (fun hb h=>?_)
  ·refine Qa5 (l:=p0) (c:=Qaa) (c' := Qa7) h Qam (fun _=>rfl) (by decide) (fun x4 hi h=>?_)
   refine Qah [.agg [iV x4.Kind,sV x4.Name,sV x4.Text,iV x4.N,.sl false (x4.L.map Qaa),.sl false (x4.Then.map Qaa),.sl false (x4.Else.map Qaa)]] Qmx h (fun x5 hy=>(iQqf x4 x5 hy)) (fun x5 hy h=>?_)
   refine Qae h (fun hb h=>?_) (fun hb h=>?_)
   ·exact JP2.b h (Le.tz 0 0 rfl rfl rfl)
   ·refine TL.le (τ := Qa1 p0 (wr (v8+1))) ?_ ((iQan p0 (wr (v8+1)) _ h))
    exact Le.tz 0 0 rfl rfl rfl
  ·exact JP2.a h (Le.tz 0 0 rfl rfl rfl)
 ·intro Qeo' iQeo p0 o h
  refine PCall.ofB mixed tbOk Qw2 Tryz.func155 rfl (by kernel_rfl) (Nat.le_of_ble_eq_true rfl) ?_
  refine Qah [.agg [iV p0.Kind,sV p0.Name,sV p0.Text,iV p0.N,.sl false (p0.L.map Qaa),.sl false (p0.Then.map Qaa),.sl false (p0.Else.map Qaa)]] Qcb h (fun x1 hy=>(iQeo p0 x1 hy)) (fun x1 hy h=>?_)
  refine Qal (t:=Qmx) h ?_
  exact .refl _
 ·intro Qat' Qeo' iQat iQeo p0 o h
  refine PCall.ofB mixed tbOk Q18 Tryz.func128 rfl (by kernel_rfl) (Nat.le_of_ble_eq_true rfl) ?_
  refine Qah [.agg [iV p0.Kind,sV p0.Name,sV p0.Text,iV p0.N,.sl false (p0.L.map Qaa),.sl false (p0.Then.map Qaa),.sl false (p0.Else.map Qaa)]] Qim h (fun x1 hy=>(Qot p0 x1 hy)) (fun x1 hy h=>?_)
  refine Qae h (fun hb h=>?_) (fun hb h=>?_)
  ·refine Qah [sV p0.Text] Qmu h (fun x2 hy=>(Q2u p0.Text x2 hy)) (fun x2 hy h=>?_)
   refine Qag h (fun o3 ho hk=>?_)
   refine Exists.intro (JP1 _ _ o3 .normal (Qww p0 x1)) (And.intro ?_ (join1 ?_))
   ·have h:=ho
    refine Qae h (fun hb h=>?_) (fun hb h=>?_)
    ·refine And.intro rfl ?_
     refine JP1.a h ?_
     exact Le.tz 3 0 rfl rfl rfl
    ·refine JP1.a h ?_
     exact Le.tz 3 0 rfl rfl rfl
   ·have h:=hk
    refine Qal (t:=Qcb) h ?_
    exact .refl _
  ·refine Qae h (fun hb h=>?_) (fun hb h=>?_)
   ·refine And.intro rfl ?_
    refine Qal (t:=Qcb) h ?_
    exact .refl _
   ·refine Qae h (fun hb h=>?_) (fun hb h=>?_)
    ·refine Qag h (fun o4 ho hk=>?_)
     refine Exists.intro (JP1 _ _ o4 .normal (Qwx p0 x1)) (And.intro ?_ (join1 ?_))
     ·have h:=ho
      refine Qae h (fun hb h=>?_) (fun hb h=>?_)
      ·refine And.intro rfl ?_
       refine JP1.a h ?_
       exact Le.tz 3 0 rfl rfl rfl
      ·refine JP1.a h ?_
       exact Le.tz 3 0 rfl rfl rfl
     ·have h:=hk
      refine Qal (t:=Qcb) h ?_
      exact .refl _
    ·refine Qae h (fun hb h=>?_) (fun hb h=>?_)
     ·refine Qag h (fun o5 ho hk=>?_)
      refine Exists.intro (JP1 _ _ o5 .normal (Qwy p0 x1)) (And.intro ?_ (join1 ?_))
      ·have h:=ho
       refine Qah [sV p0.Name] Qe5 h (fun x6 hy=>(Qix p0.Name x6 hy)) (fun x6 hy h=>?_)
       refine Qae h (fun hb h=>?_) (fun hb h=>?_)
       ·refine And.intro rfl ?_
        refine JP1.a h ?_
        exact Le.tz 3 0 rfl rfl rfl
       ·refine JP1.a h ?_
        exact Le.tz 3 0 rfl rfl rfl
      ·have h:=hk
       refine Qal (t:=Qcb) h ?_
       exact .refl _
     ·refine Qae h (fun hb h=>?_) (fun hb h=>?_)
      ·refine Qag h (fun o7 ho hk=>?_)
       refine Exists.intro (JP1 _ _ o7 .normal (Qwz p0 x1)) (And.intro ?_ (join1 ?_))
       ·have h:=ho
        refine Qah [sV p0.Name] Qjw h (fun x8 hy=>(Qqe p0.Name x8 hy)) (fun x8 hy h=>?_)
        refine Qae h (fun hb h=>?_) (fun hb h=>?_)
        ·refine And.intro rfl ?_
         refine JP1.a h ?_
         exact Le.tz 3 0 rfl rfl rfl
        ·refine JP1.a h ?_
         exact Le.tz 3 0 rfl rfl rfl
       ·have h:=hk
        refine Qal (t:=Qcb) h ?_
        exact .refl _
      ·refine Qae h (fun hb h=>?_) (fun hb h=>?_)
       ·refine Qag h (fun o9 ho hk=>?_)
        refine Exists.intro (JP1 _ _ o9 .normal (Qw0 p0 x1)) (And.intro ?_ (join1 ?_))
        ·have h:=ho
         refine Qah [sV p0.Name] Qjw h (fun x10 hy=>(Qqe p0.Name x10 hy)) (fun x10 hy h=>?_)
         refine Qae h (fun hb h=>?_) (fun hb h=>?_)
         ·refine And.intro rfl ?_
          refine Qae h (fun hb h=>?_) (fun hb h=>?_)
          ·refine Qa5 (l:=p0.L) (c:=Qaa) (c' := Qa7) h Qam (fun _=>rfl) (by decide) (fun x11 hi h=>?_)
           refine Qah [.agg [iV x11.Kind,sV x11.Name,sV x11.Text,iV x11.N,.sl false (x11.L.map Qaa),.sl false (x11.Then.map Qaa),.sl false (x11.Else.map Qaa)]] Qcb h (fun x12 hy=>(iQeo x11 x12 hy)) (fun x12 hy h=>?_)
           refine JP1.a h ?_
           exact Le.tz 3 0 rfl rfl rfl
          ·refine JP1.a h ?_
           exact Le.tz 3 0 rfl rfl rfl
         ·refine bF ?_
          refine JP1.a h ?_
          exact Le.tz 3 0 rfl rfl rfl
        ·have h:=hk
         refine Qal (t:=Qcb) h ?_
         exact .refl _
       ·refine Qae h (fun hb h=>?_) (fun hb h=>?_)
        ·refine Qag h (fun o13 ho hk=>?_)
         refine Exists.intro (JP1 _ _ o13 .normal (Qw1 p0 x1)) (And.intro ?_ (join1 ?_))
         ·have h:=ho
          refine Qah [sV p0.Name] Qe5 h (fun x14 hy=>(Qix p0.Name x14 hy)) (fun x14 hy h=>?_)
          refine Qae h (fun hb h=>?_) (fun hb h=>?_)
          ·refine And.intro rfl ?_
           refine Qae h (fun hb h=>?_) (fun hb h=>?_)
           ·refine Qch _ _ h (fun x15 hy=>((iQat p0.L x15 hy).fr [] [] rfl rfl rfl)) (fun x15 hy h=>?_)
            refine JP1.a h ?_
            exact Le.tz 3 0 rfl rfl rfl
           ·refine JP1.a h ?_
            exact Le.tz 3 0 rfl rfl rfl
          ·refine bF ?_
           refine JP1.a h ?_
           exact Le.tz 3 0 rfl rfl rfl
         ·have h:=hk
          refine Qal (t:=Qcb) h ?_
          exact .refl _
        ·refine Qal (t:=Qcb) h ?_
         exact .refl _
theorem Q2v:∀ (p0:Qab) (o:Bool),Qeo p0=some o→PCall Tryz.prog 128 [.agg [iV p0.Kind,sV p0.Name,sV p0.Text,iV p0.N,.sl false (p0.L.map Qaa),.sl false (p0.Then.map Qaa),.sl false (p0.Else.map Qaa)]] (Qcb o):=fun p0=>Qct.2.2.2.2 p0
mutual
noncomputable def Qgq (p0:(List Qab)) (p1:Bool):Option (Bool) :=
 (Qfu p0 p1 0)>>=fun o1 =>
 match o1 with
 | .inl y2 =>
  some true
 | .inr y3 =>
  some false
 partial_fixpoint
noncomputable def Qfu (p0:(List Qab)) (p1:Bool) (v10:Int):Option (Unit⊕Unit) :=
 if(decide (v10<(p0.length:Int))) then
  idx p0 v10>>=fun x4 =>
  Qou x4>>=fun x5 =>
  if(!x5) then
   some (.inr ())
  else
   ( if(x4.Kind==8) then
     if(!(v10==(wr ((p0.length:Int)-1)))) then
      idx p0 (wr (v10+1))>>=fun x7 =>
      if(x7.Kind==8) then
       some true
      else
       if(v10==(wr ((p0.length:Int)-1))) then
        if(!p1) then
         strings_HasSuffix x4.Text [123]>>=fun x8 =>
         some x8
        else
         some false
       else
        strings_HasSuffix x4.Text [123]>>=fun x9 =>
        some x9
     else
      if(v10==(wr ((p0.length:Int)-1))) then
       if(!p1) then
        strings_HasSuffix x4.Text [123]>>=fun x10 =>
        some x10
       else
        some false
      else
       strings_HasSuffix x4.Text [123]>>=fun x11 =>
       some x11
    else
     some false:Option (Bool))>>=fun o6 =>
   if o6 then
    some (.inr ())
   else
    Qfu p0 p1 (wr (v10+1))
 else
  some (.inl ())
 partial_fixpoint
noncomputable def Qou (p0:Qab):Option (Bool) :=
 Qgp p0>>=fun x1 =>
 ( if(p0.Kind==8) then
   ( if((x1.name_==false)&&((x1.text_==true)&&((x1.num_==false)&&((x1.then_==false)&&((x1.other_==false)&&((x1.l_==0)&&true)))))) then
     strings_Contains p0.Text [123,123]>>=fun x6 =>
     some (!x6)
    else
     some false:Option (Bool))>>=fun o5 =>
   some (.inr o5)
  else
   if(p0.Kind==9) then
    some (.inl (false,false,false))
   else
    if(p0.Kind==10) then
     some (.inl (false,x1.then_,x1.other_))
    else
     ( if(p0.Kind==11) then
       some (p0.Kind==11)
      else
       some (p0.Kind==12):Option (Bool))>>=fun o7 =>
     if o7 then
      Qhg p0.Name>>=fun x8 =>
      some (.inl (x8,x1.then_,false))
     else
      if(p0.Kind==13) then
       Qhg p0.Name>>=fun x9 =>
       some (.inl (x9,false,false))
      else
       some (.inr false):Option ((Bool×Bool×Bool)⊕Bool))>>=fun o2 =>
 match o2 with
 | .inl y3 =>
  ( if(p0.Kind==11) then
    some true
   else
    if(p0.Kind==12) then
     some true
    else
     some (p0.Kind==13):Option (Bool))>>=fun o10 =>
  ( if(y3.1==o10) then
    if((x1.name_==y3.1)&&((x1.text_==false)&&((x1.num_==false)&&((x1.then_==y3.2.1)&&((x1.other_==y3.2.2)&&((x1.l_==1)&&true)))))) then
     idx p0.L 0>>=fun x12 =>
     Qeo x12>>=fun x13 =>
     if x13 then
      Qgq p0.Then false>>=fun x14 =>
      if x14 then
       Qgq p0.Else false>>=fun x15 =>
       some x15
      else
       some false
     else
      some false
    else
     some false
   else
    some false:Option (Bool))>>=fun o11 =>
  some o11
 | .inr y4 =>
  some y4
 partial_fixpoint
end
theorem Qxl:(∀ (p0:(List Qab)) (p1:Bool) (o:Bool),Qgq p0 p1=some o→PCall Tryz.prog 72 [.sl false (p0.map Qaa),bV p1] (Qe6 o))∧(∀ (p0:(List Qab)) (p1:Bool) (v10:Int) (o1:Unit⊕Unit),Qfu p0 p1 v10=some o1→TL (0,0) Tryz.prog 52 Qu7 (JP2 (0,0) 52 o1 (.exit 0) (Qnk p0 p1) .ret (Qnl p0 p1)) (Qja p0 p1 v10))∧(∀ (p0:Qab) (o:Bool),Qou p0=some o→PCall Tryz.prog 97 [.agg [iV p0.Kind,sV p0.Name,sV p0.Text,iV p0.N,.sl false (p0.L.map Qaa),.sl false (p0.Then.map Qaa),.sl false (p0.Else.map Qaa)]] (Qmy o)):=by
 refine Qgq.mutual_partial_correctness _ _ _ ?_ ?_ ?_
 ·intro Qfu' iQfu p0 p1 o h
  refine PCall.ofB mixed tbOk Qq7 Tryz.func72 rfl (by kernel_rfl) (Nat.le_of_ble_eq_true rfl) ?_
  refine view (lenMap _ _) rfl ?_
  refine Qag h (fun o1 ho hk=>?_)
  refine Exists.intro (JP2 _ _ o1 (.exit 0) (Qnk p0 p1) .ret (Qnl p0 p1)) (And.intro (T_le (τ := Qja p0 p1 0) ?_ (TL.loop (iQfu p0 p1 0 o1 ho))) (join2 (fun y2 hy=>?_) (fun y3 hy=>?_)))
  ·exact Le.tz 0 0 rfl rfl rfl
  ·have h:=(by rw[hy] at hk; exact hk)
   refine Qal (t:=Qe6) h ?_
   exact .refl _
  ·have h:=(by rw[hy] at hk; exact hk)
   refine Qal (t:=Qe6) h ?_
   exact .refl _
 ·intro Qfu' Qou' iQfu iQou p0 p1 v10 o1 h
  refine TL.round (Qai mixed tbOk (lv:=Qq7) _ _ _ ?_)
  refine Qae h (fun hb h=>?_) (fun hb h=>?_)
  ·refine Qa5 (l:=p0) (c:=Qaa) (c' := Qa7) h Qam (fun _=>rfl) (by decide) (fun x4 hi h=>?_)
   refine Qah [.agg [iV x4.Kind,sV x4.Name,sV x4.Text,iV x4.N,.sl false (x4.L.map Qaa),.sl false (x4.Then.map Qaa),.sl false (x4.Else.map Qaa)]] Qmy h (fun x5 hy=>(iQou x4 x5 hy)) (fun x5 hy h=>?_)
   refine Qae h (fun hb h=>?_) (fun hb h=>?_)
   ·exact JP2.b h (Le.tz 0 0 rfl rfl rfl)
   ·refine view (lenMap _ _) rfl ?_
    refine Qag h (fun o6 ho hk=>?_)
    refine Exists.intro (JP1 _ _ o6 .normal (Qu6 p0 p1 v10 x4)) (And.intro ?_ (join1 ?_))
    ·have h:=ho
     refine Qae h (fun hb h=>?_) (fun hb h=>?_)
     ·refine Qae h (fun hb h=>?_) (fun hb h=>?_)
      ·refine Qa5 (l:=p0) (c:=Qaa) (c' := Qa7) h Qam (fun _=>rfl) (by decide) (fun x7 hi h=>?_)
       refine Qae h (fun hb h=>?_) (fun hb h=>?_)
       ·refine JP1.a h ?_
        exact Le.tz 1 0 rfl rfl rfl
       ·refine Qae h (fun hb h=>?_) (fun hb h=>?_)
        ·refine Qae h (fun hb h=>?_) (fun hb h=>?_)
         ·refine Qah [sV x4.Text,sV [123]] Qca h (fun x8 hy=>(Qdz x4.Text [123] x8 hy)) (fun x8 hy h=>?_)
          refine JP1.a h ?_
          exact Le.tz 1 0 rfl rfl rfl
         ·refine JP1.a h ?_
          exact Le.tz 1 0 rfl rfl rfl
        ·refine bT ?_
         refine Qah [sV x4.Text,sV [123]] Qca h (fun x9 hy=>(Qdz x4.Text [123] x9 hy)) (fun x9 hy h=>?_)
         refine JP1.a h ?_
         exact Le.tz 1 0 rfl rfl rfl
      ·refine bF ?_
       refine Qae h (fun hb h=>?_) (fun hb h=>?_)
       ·refine Qae h (fun hb h=>?_) (fun hb h=>?_)
        ·refine Qah [sV x4.Text,sV [123]] Qca h (fun x10 hy=>(Qdz x4.Text [123] x10 hy)) (fun x10 hy h=>?_)
         refine JP1.a h ?_
         exact Le.tz 1 0 rfl rfl rfl
        ·refine JP1.a h ?_
         exact Le.tz 1 0 rfl rfl rfl
       ·refine bT ?_
        refine Qah [sV x4.Text,sV [123]] Qca h (fun x11 hy=>(Qdz x4.Text [123] x11 hy)) (fun x11 hy h=>?_)
        refine JP1.a h ?_
        exact Le.tz 1 0 rfl rfl rfl
     ·refine JP1.a h ?_
      exact Le.tz 1 0 rfl rfl rfl
    ·have h:=hk
     refine Qae h (fun hb h=>?_) (fun hb h=>?_)
     ·exact JP2.b h (Le.tz 0 0 rfl rfl rfl)
     ·refine TL.le (τ := Qja p0 p1 (wr (v10+1))) ?_ ((iQfu p0 p1 (wr (v10+1)) _ h))
      exact Le.tz 0 0 rfl rfl rfl
  ·exact JP2.a h (Le.tz 0 0 rfl rfl rfl)
 ·intro Qgq' iQgq p0 o h
  refine PCall.ofB mixed tbOk Q19 Tryz.func97 rfl (by kernel_rfl) (Nat.le_of_ble_eq_true rfl) ?_
  refine Qah [.agg [iV p0.Kind,sV p0.Name,sV p0.Text,iV p0.N,.sl false (p0.L.map Qaa),.sl false (p0.Then.map Qaa),.sl false (p0.Else.map Qaa)]] Qim h (fun x1 hy=>(Qot p0 x1 hy)) (fun x1 hy h=>?_)
  refine Qag h (fun o2 ho hk=>?_)
  refine Exists.intro (JP2 _ _ o2 .normal (Qw3 p0 x1) .ret (Qw4 p0 x1)) (And.intro ?_ (join2 (fun y3 hy=>?_) (fun y4 hy=>?_)))
  ·have h:=ho
   refine Qae h (fun hb h=>?_) (fun hb h=>?_)
   ·refine Qag h (fun o5 ho hk=>?_)
    refine Exists.intro (JP1 _ _ o5 .normal (Qw5 p0 x1)) (And.intro ?_ (join1 ?_))
    ·have h:=ho
     refine And.intro rfl ?_
     refine Qae h (fun hb h=>?_) (fun hb h=>?_)
     ·refine Qah [sV p0.Text,sV [123,123]] Qg9 h (fun x6 hy=>(Qqd p0.Text [123,123] x6 hy)) (fun x6 hy h=>?_)
      refine JP1.a h ?_
      exact Le.tz 3 0 rfl rfl rfl
     ·refine JP1.a h ?_
      exact Le.tz 3 0 rfl rfl rfl
    ·have h:=hk
     refine JP2.b h ?_
     exact Le.tz 3 0 rfl rfl rfl
   ·refine Qae h (fun hb h=>?_) (fun hb h=>?_)
    ·refine JP2.a h ?_
     exact Le.tz 3 0 rfl rfl rfl
    ·refine Qae h (fun hb h=>?_) (fun hb h=>?_)
     ·refine And.intro (by decide +kernel) (And.intro rfl ?_)
      refine JP2.a h ?_
      exact Le.tz 3 0 rfl rfl rfl
     ·refine Qag h (fun o7 ho hk=>?_)
      refine Exists.intro (JP1 _ _ o7 .normal (Qw6 p0 x1)) (And.intro ?_ (join1 ?_))
      ·have h:=ho
       refine Qae h (fun hb h=>?_) (fun hb h=>?_)
       ·refine JP1.a h ?_
        exact Le.tz 3 0 rfl rfl rfl
       ·refine JP1.a h ?_
        exact Le.tz 3 0 rfl rfl rfl
      ·have h:=hk
       refine Qae h (fun hb h=>?_) (fun hb h=>?_)
       ·refine And.intro (by decide +kernel) (And.intro rfl ?_)
        refine Qfn [sV p0.Name] Qe5 h (fun x8 hy=>(Qix p0.Name x8 hy)) (fun x8 hy h=>?_)
        refine JP2.a h ?_
        exact Le.tz 3 0 rfl rfl rfl
       ·refine Qae h (fun hb h=>?_) (fun hb h=>?_)
        ·refine Qah [sV p0.Name] Qe5 h (fun x9 hy=>(Qix p0.Name x9 hy)) (fun x9 hy h=>?_)
         refine JP2.a h ?_
         exact Le.tz 3 0 rfl rfl rfl
        ·refine JP2.b h ?_
         exact Le.tz 3 0 rfl rfl rfl
  ·have h:=(by rw[hy] at hk; exact hk)
   refine Qag h (fun o10 ho hk=>?_)
   refine Exists.intro (JP1 _ _ o10 .normal (Qw7 p0 x1 y3)) (And.intro ?_ (join1 ?_))
   ·have h:=ho
    refine Qae h (fun hb h=>?_) (fun hb h=>?_)
    ·refine bT ?_
     refine JP1.a h ?_
     exact Le.tz 3 0 rfl rfl rfl
    ·refine Qae h (fun hb h=>?_) (fun hb h=>?_)
     ·refine JP1.a h ?_
      exact Le.tz 3 0 rfl rfl rfl
     ·refine JP1.a h ?_
      exact Le.tz 3 0 rfl rfl rfl
   ·have h:=hk
    refine Qag h (fun o11 ho hk=>?_)
    refine Exists.intro (JP1 _ _ o11 .normal (Qw8 p0 x1 y3)) (And.intro ?_ (join1 ?_))
    ·have h:=ho
     refine Qae h (fun hb h=>?_) (fun hb h=>?_)
     ·refine And.intro rfl ?_
      refine Qae h (fun hb h=>?_) (fun hb h=>?_)
      ·refine Qa5 (l:=p0.L) (c:=Qaa) (c' := Qa7) h Qam (fun _=>rfl) (by decide) (fun x12 hi h=>?_)
       refine Qah [.agg [iV x12.Kind,sV x12.Name,sV x12.Text,iV x12.N,.sl false (x12.L.map Qaa),.sl false (x12.Then.map Qaa),.sl false (x12.Else.map Qaa)]] Qcb h (fun x13 hy=>(Q2v x12 x13 hy)) (fun x13 hy h=>?_)
       refine Qae h (fun hb h=>?_) (fun hb h=>?_)
       ·refine Qah [.sl false (p0.Then.map Qaa),bV false] Qe6 h (fun x14 hy=>(iQgq p0.Then false x14 hy)) (fun x14 hy h=>?_)
        refine Qae h (fun hb h=>?_) (fun hb h=>?_)
        ·refine Qah [.sl false (p0.Else.map Qaa),bV false] Qe6 h (fun x15 hy=>(iQgq p0.Else false x15 hy)) (fun x15 hy h=>?_)
         refine JP1.a h ?_
         exact Le.tz 3 0 rfl rfl rfl
        ·refine JP1.a h ?_
         exact Le.tz 3 0 rfl rfl rfl
       ·refine bF ?_
        refine JP1.a h ?_
        exact Le.tz 3 0 rfl rfl rfl
      ·refine bF ?_
       refine bF ?_
       refine JP1.a h ?_
       exact Le.tz 3 0 rfl rfl rfl
     ·refine bF ?_
      refine bF ?_
      refine bF ?_
      refine JP1.a h ?_
      exact Le.tz 3 0 rfl rfl rfl
    ·have h:=hk
     refine Qal (t:=Qmy) h ?_
     exact .refl _
  ·have h:=(by rw[hy] at hk; exact hk)
   refine Qal (t:=Qmy) h ?_
   exact .refl _
theorem Q0k:∀ (p0:(List Qab)) (p1:Bool) (o:Bool),Qgq p0 p1=some o→PCall Tryz.prog 72 [.sl false (p0.map Qaa),bV p1] (Qe6 o):=fun p0 p1=>Qxl.1 p0 p1
noncomputable def Qv0 (p0:(List Qab)):Option (Bool) :=
 ( Qos p0>>=fun x2 =>
  if(decide (x2≤12)) then
   Qmd p0>>=fun x3 =>
   if(decide (x3≤1024)) then
    Qgq p0 true>>=fun x4 =>
    some x4
   else
    some false
  else
   some false:Option (Bool))>>=fun o1 =>
 some o1
theorem Q6f:∀ (p0:(List Qab)) (o:Bool),Qv0 p0=some o→PCall Tryz.prog 38 [.sl false (p0.map Qaa)] (Qu3 o):=by
 intro p0 o h
 unfold Qv0 at h
 refine PCall.ofB mixed tbOk Q6b Tryz.func38 rfl (by kernel_rfl) (Nat.le_of_ble_eq_true rfl) ?_
 refine Qag h (fun o1 ho hk=>?_)
 refine Exists.intro (JP1 _ _ o1 .normal (Q16 )) (And.intro ?_ (join1 ?_))
 ·have h:=ho
  refine Qah [.sl false (p0.map Qaa)] Qqa h (fun x2 hy=>(Q2q p0 x2 hy)) (fun x2 hy h=>?_)
  refine Qae h (fun hb h=>?_) (fun hb h=>?_)
  ·refine Qah [.sl false (p0.map Qaa)] Qoj h (fun x3 hy=>(Q0g p0 x3 hy)) (fun x3 hy h=>?_)
   refine Qae h (fun hb h=>?_) (fun hb h=>?_)
   ·refine Qah [.sl false (p0.map Qaa),bV true] Qe6 h (fun x4 hy=>(Q0k p0 true x4 hy)) (fun x4 hy h=>?_)
    refine JP1.a h ?_
    exact Le.tz 0 0 rfl rfl rfl
   ·refine JP1.a h ?_
    exact Le.tz 0 0 rfl rfl rfl
  ·refine bF ?_
   refine JP1.a h ?_
   exact Le.tz 0 0 rfl rfl rfl
 ·have h:=hk
  refine Qal (t:=Qu3) h ?_
  exact .refl _
noncomputable def Qcv (p0:(List Qac)) (v22:Int):Option (Unit⊕((List UInt8)×Int)) :=
 if(decide (v22<(p0.length:Int))) then
  idx p0 v22>>=fun x4 =>
  ( Qhg x4.Name>>=fun x6 =>
   if(!x6) then
    some true
   else
    Qv0 x4.L>>=fun x7 =>
    some (!x7):Option (Bool))>>=fun o5 =>
  if o5 then
   some (.inr (x4.Name,7))
  else
   cutL p0 0 v22>>=fun x8 =>
   Qjy x8 x4.Name>>=fun x9 =>
   if x9.2 then
    some (.inr (x4.Name,9))
   else
    Qcv p0 (wr (v22+1))
 else
  some (.inl ())
 partial_fixpoint
theorem Qrg:∀ (p0:(List Qac)),(∀ (v22:Int) (o1:Unit⊕((List UInt8)×Int)),Qcv p0 v22=some o1→TL (0,0) Tryz.prog 102 Qnb (JP2 (0,0) 102 o1 (.exit 0) (Qhv p0) .ret (Qhw p0)) (Qfo p0 v22)):=by
 intro p0
 refine Qcv.partial_correctness p0 _ ?_
 intro Qcv' iQcv v22 o1 h
 refine TL.round (Qai mixed tbOk (lv:=Qfz) _ _ _ ?_)
 refine Qae h (fun hb h=>?_) (fun hb h=>?_)
 ·refine Qa5 (l:=p0) (c:=Qaf) (c' := Qaf) h (fun _=>rfl) (fun _=>rfl) (by decide) (fun x4 hi h=>?_)
  refine Qag h (fun o5 ho hk=>?_)
  refine Exists.intro (JP1 _ _ o5 .normal (Qs4 p0 v22 x4)) (And.intro ?_ (join1 ?_))
  ·have h:=ho
   refine Qah [sV x4.Name] Qe5 h (fun x6 hy=>(Qix x4.Name x6 hy)) (fun x6 hy h=>?_)
   refine Qae h (fun hb h=>?_) (fun hb h=>?_)
   ·refine JP1.a h ?_
    exact Le.tz 1 0 rfl rfl rfl
   ·refine Qah [.sl false (x4.L.map Qaa)] Qu3 h (fun x7 hy=>(Q6f x4.L x7 hy)) (fun x7 hy h=>?_)
    refine JP1.a h ?_
    exact Le.tz 1 0 rfl rfl rfl
  ·have h:=hk
   refine Qae h (fun hb h=>?_) (fun hb h=>?_)
   ·exact JP2.b h (Le.tz 0 0 rfl rfl rfl)
   ·refine And.intro (by decide +kernel) (And.intro rfl ?_)
    refine Q48 (c:=Qaf) none (some v22) h (fun _=>rfl) (fun x8 hi h=>?_)
    refine Qfn [.sl false (x8.map Qaf),sV x4.Name] Qis h (fun x9 hy=>(Qrc x8 x4.Name x9 hy)) (fun x9 hy h=>?_)
    refine Qae h (fun hb h=>?_) (fun hb h=>?_)
    ·exact JP2.b h (Le.tz 0 0 rfl rfl rfl)
    ·refine TL.le (τ := Qfo p0 (wr (v22+1))) ?_ ((iQcv (wr (v22+1)) _ h))
     exact Le.tz 0 0 rfl rfl rfl
 ·exact JP2.a h (Le.tz 0 0 rfl rfl rfl)
theorem Qsc:∀ (p0:(List Qac)) (v22:Int) (o1:Unit⊕((List UInt8)×Int)),Qcv p0 v22=some o1→TL (0,0) Tryz.prog 102 Qnb (JP2 (0,0) 102 o1 (.exit 0) (Qhv p0) .ret (Qhw p0)) (Qfo p0 v22):=fun p0 v22=>(Qrg p0) v22
noncomputable def Qcw (p0:(List Qac)) (x10:(List ((List UInt8)×(List (List UInt8))))) (v56:Int) (x14:Qac) (v66:Int):Option (Unit⊕Unit) :=
 if(decide (v66<(((mget (fun a b=>a==b) x14.Name x10).getD []).length:Int))) then
  idx ((mget (fun a b=>a==b) x14.Name x10).getD []) v66>>=fun x18 =>
  if(!((mget (fun a b=>a==b) x18 x10).isSome)) then
   some (.inr ())
  else
   Qcw p0 x10 v56 x14 (wr (v66+1))
 else
  some (.inl ())
 partial_fixpoint
theorem Qrh:∀ (p0:(List Qac)) (x10:(List ((List UInt8)×(List (List UInt8))))) (v56:Int) (x14:Qac),(∀ (v66:Int) (o15:Unit⊕Unit),Qcw p0 x10 v56 x14 v66=some o15→TL (0,0) Tryz.prog 102 Qnc (JP2 (0,0) 102 o15 (.exit 4) (Qhx p0 x10 v56 x14) .ret (Qhy p0 x10 v56 x14)) (Qfp p0 x10 v56 x14 v66)):=by
 intro p0 x10 v56 x14
 refine Qcw.partial_correctness p0 x10 v56 x14 _ ?_
 intro Qcw' iQcw v66 o15 h
 refine TL.round (Qai mixed tbOk (lv:=Qfz) _ _ _ ?_)
 refine Qae h (fun hb h=>?_) (fun hb h=>?_)
 ·refine Qa5 (l:=((mget (fun a b=>a==b) x14.Name x10).getD [])) (c:=cStr) (c' := cStr) h (fun _=>rfl) (fun _=>rfl) (by decide) (fun x18 hi h=>?_)
  refine Qp4 (l:=x10) (k:=x18) (fun a b=>a==b) (ck:=sV) (ca:=(fun x =>.sl false (x.map cStr))) (z0:=[]) (by exact rfl) (by exact rfl) (by exact rfl) (by exact fun _ _=>rfl) (by exact rfl) (by exact .not) ?_
  refine Qae h (fun hb h=>?_) (fun hb h=>?_)
  ·exact JP2.b h (Le.tz 3 0 rfl rfl rfl)
  ·refine TL.le (τ := Qfp p0 x10 v56 x14 (wr (v66+1))) ?_ ((iQcw (wr (v66+1)) _ h))
   exact Le.tz 3 0 rfl rfl rfl
 ·exact JP2.a h (Le.tz 3 0 rfl rfl rfl)
theorem Qsd:∀ (p0:(List Qac)) (x10:(List ((List UInt8)×(List (List UInt8))))) (v56:Int) (x14:Qac) (v66:Int) (o15:Unit⊕Unit),Qcw p0 x10 v56 x14 v66=some o15→TL (0,0) Tryz.prog 102 Qnc (JP2 (0,0) 102 o15 (.exit 4) (Qhx p0 x10 v56 x14) .ret (Qhy p0 x10 v56 x14)) (Qfp p0 x10 v56 x14 v66):=fun p0 x10 v56 x14 v66=>(Qrh p0 x10 v56 x14) v66
noncomputable def Qcx (p0:(List Qac)) (x10:(List ((List UInt8)×(List (List UInt8))))) (v56:Int):Option (Unit⊕(List UInt8)) :=
 if(decide (v56<(p0.length:Int))) then
  idx p0 v56>>=fun x14 =>
  (Qcw p0 x10 v56 x14 0)>>=fun o15 =>
  match o15 with
  | .inl y16 =>
   Qcx p0 x10 (wr (v56+1))
  | .inr y17 =>
   some (.inr x14.Name)
 else
  some (.inl ())
 partial_fixpoint
theorem Qri:∀ (p0:(List Qac)) (x10:(List ((List UInt8)×(List (List UInt8))))),(∀ (v56:Int) (o11:Unit⊕(List UInt8)),Qcx p0 x10 v56=some o11→TL (0,0) Tryz.prog 102 Qnd (JP2 (0,0) 102 o11 (.exit 2) (Qhz p0 x10) .ret (Qh0 p0 x10)) (Qfq p0 x10 v56)):=by
 intro p0 x10
 refine Qcx.partial_correctness p0 x10 _ ?_
 intro Qcx' iQcx v56 o11 h
 refine TL.round (Qai mixed tbOk (lv:=Qfz) _ _ _ ?_)
 refine Qae h (fun hb h=>?_) (fun hb h=>?_)
 ·refine Qa5 (l:=p0) (c:=Qaf) (c' := Qaf) h (fun _=>rfl) (fun _=>rfl) (by decide) (fun x14 hi h=>?_)
  refine Qp4 (l:=x10) (k:=x14.Name) (fun a b=>a==b) (ck:=sV) (ca:=(fun x =>.sl false (x.map cStr))) (z0:=[]) (by exact rfl) (by exact rfl) (by exact rfl) (by exact fun _ _=>rfl) (by exact rfl) (by exact .not) ?_
  refine view (lenMap _ _) rfl ?_
  refine Qag h (fun o15 ho hk=>?_)
  refine Exists.intro (JP2 _ _ o15 (.exit 4) (Qhx p0 x10 v56 x14) .ret (Qhy p0 x10 v56 x14)) (And.intro (T_le (τ := Qfp p0 x10 v56 x14 0) ?_ (TL.loop (Qsd p0 x10 v56 x14 0 o15 ho))) (join2 (fun y16 hy=>?_) (fun y17 hy=>?_)))
  ·exact Le.tz 3 0 rfl rfl rfl
  ·have h:=(by rw[hy] at hk; exact hk)
   refine TL.le (τ := Qfq p0 x10 (wr (v56+1))) ?_ ((iQcx (wr (v56+1)) _ h))
   exact Le.tz 2 0 rfl rfl rfl
  ·have h:=(by rw[hy] at hk; exact hk)
   exact JP2.b h (Le.tz 2 0 rfl rfl rfl)
 ·exact JP2.a h (Le.tz 2 0 rfl rfl rfl)
theorem Qse:∀ (p0:(List Qac)) (x10:(List ((List UInt8)×(List (List UInt8))))) (v56:Int) (o11:Unit⊕(List UInt8)),Qcx p0 x10 v56=some o11→TL (0,0) Tryz.prog 102 Qnd (JP2 (0,0) 102 o11 (.exit 2) (Qhz p0 x10) .ret (Qh0 p0 x10)) (Qfq p0 x10 v56):=fun p0 x10 v56=>(Qri p0 x10) v56
noncomputable def Qbn (h0_0:(List ((List UInt8)×(List (List UInt8))))) (x1:(List (List UInt8))) (v17:Int) (h2_0:(List ((List UInt8)×Int))):Option (((List ((List UInt8)×Int)))) :=
 if(decide (v17<(x1.length:Int))) then
  idx x1 v17>>=fun x3 =>
  Qbn h0_0 x1 (wr (v17+1)) (mset (fun a b=>a==b) x3 1 h2_0)
 else
  some h2_0
 partial_fixpoint
theorem Qm5:∀ (h0_0:(List ((List UInt8)×(List (List UInt8))))) (x1:(List (List UInt8))),(∀ (v17:Int) (h2_0:(List ((List UInt8)×Int))) (o2:((List ((List UInt8)×Int)))),Qbn h0_0 x1 v17 h2_0=some o2→TL (1,0) Tryz.prog 56 Qit (JP1 (1,0) 56 o2 (.exit 0) (Qet h0_0 x1)) (Qdd h0_0 x1 v17 h2_0)):=by
 intro h0_0 x1
 refine Qbn.partial_correctness h0_0 x1 _ ?_
 intro Qbn' iQbn v17 h2_0 o2 h
 refine TL.round (Qai mixed tbOk (lv:=Qeh) _ _ _ ?_)
 refine Qae h (fun hb h=>?_) (fun hb h=>?_)
 ·refine Qy7 (l:=x1) (c:=cStr) (c' := cStr) h rfl (fun _=>rfl) (fun _=>rfl) (by decide) (fun x3 hi h=>?_)
  refine And.intro rfl (And.intro (Nat.le_of_ble_eq_true rfl) ?_)
  refine Q7m (l:=h2_0) (k:=x3) (x:=1) (fun a b=>a==b) (ck:=sV) (ca:=iV) (by exact rfl) (by exact rfl) (by exact rfl) (by exact .refl _) (by exact fun _ _=>rfl) ?_
  refine TL.le (τ := Qdd h0_0 x1 (wr (v17+1)) (mset (fun a b=>a==b) x3 1 h2_0)) ?_ ((iQbn (wr (v17+1)) (mset (fun a b=>a==b) x3 1 h2_0) _ h))
  exact Le.tz 3 1 rfl rfl rfl
 ·exact JP1.a h (Le.tz 3 1 rfl rfl rfl)
theorem Qnq:∀ (h0_0:(List ((List UInt8)×(List (List UInt8))))) (x1:(List (List UInt8))) (v17:Int) (h2_0:(List ((List UInt8)×Int))) (o2:((List ((List UInt8)×Int)))),Qbn h0_0 x1 v17 h2_0=some o2→TL (1,0) Tryz.prog 56 Qit (JP1 (1,0) 56 o2 (.exit 0) (Qet h0_0 x1)) (Qdd h0_0 x1 v17 h2_0):=fun h0_0 x1 v17 h2_0=>(Qm5 h0_0 x1) v17 h2_0
noncomputable def Qbd (h0_0:(List ((List UInt8)×(List (List UInt8))))) (v9:Int) (x5:(List UInt8)) (v6_:(List (List UInt8))) (v38:Int) (h2_0_:(List ((List UInt8)×Int))):Option (((List (List UInt8))×(List ((List UInt8)×Int)))) :=
 if(decide (v38<(((mget (fun a b=>a==b) x5 h0_0).getD []).length:Int))) then
  idx ((mget (fun a b=>a==b) x5 h0_0).getD []) v38>>=fun x7 =>
  if(((mget (fun a b=>a==b) x7 h2_0_).getD 0)==0) then
   appL 16 v6_ [x7]>>=fun x8 =>
   Qbd h0_0 v9 x5 x8 (wr (v38+1)) (mset (fun a b=>a==b) x7 1 h2_0_)
  else
   Qbd h0_0 v9 x5 v6_ (wr (v38+1)) h2_0_
 else
  some (v6_,h2_0_)
 partial_fixpoint
theorem Qm6:∀ (h0_0:(List ((List UInt8)×(List (List UInt8))))) (v9:Int) (x5:(List UInt8)),(∀ (v6_:(List (List UInt8))) (v38:Int) (h2_0_:(List ((List UInt8)×Int))) (o6:((List (List UInt8))×(List ((List UInt8)×Int)))),Qbd h0_0 v9 x5 v6_ v38 h2_0_=some o6→TL (1,0) Tryz.prog 56 Qiu (JP1 (1,0) 56 o6 (.exit 4) (Qeu h0_0 v9 x5)) (Qb8 h0_0 v9 x5 v6_ v38 h2_0_)):=by
 intro h0_0 v9 x5
 refine Qbd.partial_correctness h0_0 v9 x5 _ ?_
 intro Qbd' iQbd v6_ v38 h2_0_ o6 h
 refine TL.round (Qai mixed tbOk (lv:=Qeh) _ _ _ ?_)
 refine Qae h (fun hb h=>?_) (fun hb h=>?_)
 ·refine Qa5 (l:=((mget (fun a b=>a==b) x5 h0_0).getD [])) (c:=cStr) (c' := cStr) h (fun _=>rfl) (fun _=>rfl) (by decide) (fun x7 hi h=>?_)
  refine Qp4 (l:=h2_0_) (k:=x7) (fun a b=>a==b) (ck:=sV) (ca:=iV) (z0:=0) (by exact rfl) (by exact rfl) (by exact rfl) (by exact fun _ _=>rfl) (by exact rfl) (by exact .refl _) ?_
  refine Qae h (fun hb h=>?_) (fun hb h=>?_)
  ·refine Q7m (l:=h2_0_) (k:=x7) (x:=1) (fun a b=>a==b) (ck:=sV) (ca:=iV) (by exact rfl) (by exact rfl) (by exact rfl) (by exact .refl _) (by exact fun _ _=>rfl) ?_
   refine Q7f (a:=v6_) (b:=[x7]) (c:=cStr) h (.refl _) (fun _=>rfl) rfl (fun x8 hi h=>?_)
   refine TL.le (τ := Qb8 h0_0 v9 x5 x8 (wr (v38+1)) (mset (fun a b=>a==b) x7 1 h2_0_)) ?_ ((iQbd x8 (wr (v38+1)) (mset (fun a b=>a==b) x7 1 h2_0_) _ h))
   exact Le.trans (τ := ⟨[(2,.ptr 1 0),(5,.mh 2),(6,.x 0 2 (.sl 9 1 (x8.map cStr))),(9,.p (iV v9)),(36,.p (.sl false (((mget (fun a b=>a==b) x5 h0_0).getD []).map cStr))),(37,.p (iV (((mget (fun a b=>a==b) x5 h0_0).getD []).length:Int))),(38,.p (iV (wr (v38+1))))],⟨[[mpD sV (fun x =>.sl false (x.map cStr)) h0_0],[.mh 0],[mpD sV iV (mset (fun a b=>a==b) x7 1 h2_0_)]],[2]⟩⟩) (Le.tz 3 1 rfl rfl rfl) ((Le.ver (.s 6) 0 2 1 rfl rfl rfl rfl).trans (Le.tz 3 1 rfl rfl rfl))
  ·refine TL.le (τ := Qb8 h0_0 v9 x5 v6_ (wr (v38+1)) h2_0_) ?_ ((iQbd v6_ (wr (v38+1)) h2_0_ _ h))
   exact Le.tz 3 1 rfl rfl rfl
 ·exact JP1.a h (Le.tz 3 1 rfl rfl rfl)
theorem Qnr:∀ (h0_0:(List ((List UInt8)×(List (List UInt8))))) (v9:Int) (x5:(List UInt8)) (v6_:(List (List UInt8))) (v38:Int) (h2_0_:(List ((List UInt8)×Int))) (o6:((List (List UInt8))×(List ((List UInt8)×Int)))),Qbd h0_0 v9 x5 v6_ v38 h2_0_=some o6→TL (1,0) Tryz.prog 56 Qiu (JP1 (1,0) 56 o6 (.exit 4) (Qeu h0_0 v9 x5)) (Qb8 h0_0 v9 x5 v6_ v38 h2_0_):=fun h0_0 v9 x5 v6_ v38 h2_0_=>(Qm6 h0_0 v9 x5) v6_ v38 h2_0_
noncomputable def Qbe (h0_0:(List ((List UInt8)×(List (List UInt8))))) (v6:(List (List UInt8))) (v9:Int) (h2_0:(List ((List UInt8)×Int))):Option (((List (List UInt8))×(List ((List UInt8)×Int)))) :=
 if(decide (v9<(v6.length:Int))) then
  idx v6 v9>>=fun x5 =>
  (Qbd h0_0 v9 x5 v6 0 h2_0)>>=fun o6 =>
  Qbe h0_0 o6.1 (wr (v9+1)) o6.2
 else
  some (v6,h2_0)
 partial_fixpoint
theorem Qm7:∀ (h0_0:(List ((List UInt8)×(List (List UInt8))))),(∀ (v6:(List (List UInt8))) (v9:Int) (h2_0:(List ((List UInt8)×Int))) (o4:((List (List UInt8))×(List ((List UInt8)×Int)))),Qbe h0_0 v6 v9 h2_0=some o4→TL (1,0) Tryz.prog 56 Qiv (JP1 (1,0) 56 o4 (.exit 2) (Qev h0_0)) (Qde h0_0 v6 v9 h2_0)):=by
 intro h0_0
 refine Qbe.partial_correctness h0_0 _ ?_
 intro Qbe' iQbe v6 v9 h2_0 o4 h
 refine TL.round (Qai mixed tbOk (lv:=Qeh) _ _ _ ?_)
 refine And.intro rfl (Exists.intro _ (And.intro (List.length_map _) ?_))
 refine Qae h (fun hb h=>?_) (fun hb h=>?_)
 ·refine And.intro (by decide +kernel) (And.intro rfl ?_)
  refine And.intro rfl ?_
  refine Qy7 (l:=v6) (c:=cStr) (c' := cStr) h rfl (fun _=>rfl) (fun _=>rfl) (by decide) (fun x5 hi h=>?_)
  refine And.intro rfl ?_
  refine And.intro rfl (And.intro (Nat.le_of_ble_eq_true rfl) ?_)
  refine And.intro rfl ?_
  refine Qp4 (l:=h0_0) (k:=x5) (fun a b=>a==b) (ck:=sV) (ca:=(fun x =>.sl false (x.map cStr))) (z0:=[]) (by exact rfl) (by exact rfl) (by exact rfl) (by exact fun _ _=>rfl) (by exact rfl) (by exact .not) ?_
  refine view (lenMap _ _) rfl ?_
  refine Qag h (fun o6 ho hk=>?_)
  refine Exists.intro (JP1 _ _ o6 (.exit 4) (Qeu h0_0 v9 x5)) (And.intro (T_le (τ := Qb8 h0_0 v9 x5 v6 0 h2_0) ?_ (TL.loop (Qnr h0_0 v9 x5 v6 0 h2_0 o6 ho))) (join1 ?_))
  ·exact Le.tz 3 1 rfl rfl rfl
  have h:=hk
  refine TL.le (τ := Qde h0_0 o6.1 (wr (v9+1)) o6.2) ?_ ((iQbe o6.1 (wr (v9+1)) o6.2 _ h))
  exact Le.tz 3 1 rfl rfl rfl
 ·exact JP1.a h (Le.tz 3 1 rfl rfl rfl)
theorem Qns:∀ (h0_0:(List ((List UInt8)×(List (List UInt8))))) (v6:(List (List UInt8))) (v9:Int) (h2_0:(List ((List UInt8)×Int))) (o4:((List (List UInt8))×(List ((List UInt8)×Int)))),Qbe h0_0 v6 v9 h2_0=some o4→TL (1,0) Tryz.prog 56 Qiv (JP1 (1,0) 56 o4 (.exit 2) (Qev h0_0)) (Qde h0_0 v6 v9 h2_0):=fun h0_0 v6 v9 h2_0=>(Qm7 h0_0) v6 v9 h2_0
noncomputable def Qb6 (p0:(List (List UInt8))):Option ((List (List UInt8))) :=
 appL 16 [] p0
theorem Qjc:∀ (p0:(List (List UInt8))) (o:(List (List UInt8))),Qb6 p0=some o→CallOK Tryz.prog 75 [.p (.sl false (p0.map cStr))] ⟨[],[]⟩ (Qcs o) ⟨[],[1]⟩:=by
 intro p0 o h
 unfold Qb6 at h
 have h:(appL 16 ([]:List (List UInt8)) p0>>=fun r=>some r)=some o:=by rw[h]; rfl
 refine CallOK.ofB mixed tbOk Qi5 Tryz.func75 rfl (by kernel_rfl) (Nat.le_of_ble_eq_true rfl) rfl rfl rfl ?_
 refine⟨rfl,rfl,rfl,fun b hb=>?_⟩
 cases b with
 | true =>
  refine bT ?_
  obtain rfl:=List.map_eq_nil_iff.1 (hb rfl)
  have h:some ([]:List (List UInt8))=some o:=h
  refine Exists.intro _ (And.intro (Le.xnil (.s 2) 9 1 rfl) ?_)
  exact Qf6 (t:=Qcs) (ss:=fun o=>⟨[],[1]⟩) h ⟨[0],rfl,.refl _,.refl _,rfl⟩
 | false =>
  refine bF ?_
  refine Q8u (a:=([]:List (List UInt8))) (b:=p0) (c:=cStr) h (.refl _) (.refl _) (fun _=>rfl) (.inl rfl) (fun r hi h=>?_)
  refine Exists.intro _ (And.intro (Le.refl _ _ _) ?_)
  exact Qf6 (t:=Qcs) (ss:=fun o=>⟨[],[1]⟩) h ⟨[0],rfl,.refl _,.refl _,rfl⟩
noncomputable def Qdk (p1:(List (List UInt8))) (h0_0:(List ((List UInt8)×(List (List UInt8))))):Option ((List (List UInt8))) :=
 Qb6 p1>>=fun x1 =>
 (Qbn h0_0 x1 0 [])>>=fun o2 =>
 (Qbe h0_0 x1 0 o2)>>=fun o4 =>
 need (o4.1.length<4611686018427387904)>>=fun _ =>
 some (srtL o4.1)
theorem Qky:∀ (p1:(List (List UInt8))) (h0_0:(List ((List UInt8)×(List (List UInt8))))) (o:(List (List UInt8))),Qdk p1 h0_0=some o→CallOK Tryz.prog 42 [.agg [.mh 0],.p (.sl false (p1.map cStr))] ⟨[[mpD sV (fun x =>.sl false (x.map cStr)) h0_0]],[]⟩ (Qg6 o) ⟨[[mpD sV (fun x =>.sl false (x.map cStr)) h0_0]],[]⟩:=by
 intro p1 h0_0 o h
 unfold Qdk at h
 refine CallOK.ofB mixed tbOk Qeh Tryz.func42 rfl (by kernel_rfl) (Nat.le_of_ble_eq_true rfl) rfl rfl rfl ?_
 refine And.intro rfl (Exists.intro false ?_)
 refine Qch _ _ h (fun x1 hy=>((Qjc p1 x1 hy).fr [] [] rfl rfl rfl)) (fun x1 hy h=>?_)
 refine And.intro rfl (Exists.intro _ (And.intro (List.length_map _) ?_))
 refine Qag h (fun o2 ho hk=>?_)
 refine Exists.intro (JP1 _ _ o2 (.exit 0) (Qet h0_0 x1)) (And.intro (T_le (τ := Qdd h0_0 x1 0 []) ?_ (TL.loop (Qnq h0_0 x1 0 [] o2 ho))) (join1 ?_))
 ·exact Le.tz 3 1 rfl rfl rfl
 have h:=hk
 refine Qag h (fun o4 ho hk=>?_)
 refine Exists.intro (JP1 _ _ o4 (.exit 2) (Qev h0_0)) (And.intro (T_le (τ := Qde h0_0 x1 0 o2) ?_ (TL.loop (Qns h0_0 x1 0 o2 o4 ho))) (join1 ?_))
 ·exact Le.tz 3 1 rfl rfl rfl
 have h:=hk
 refine Qjn h (fun hn0 h=>?_)
 refine Or.inl ?_
 refine⟨rfl,rfl,_,false,o4.1,(srtL o4.1),_,rfl,rfl,sortFn  hn0 ,rfl,rfl,?_⟩
 refine Exists.intro _ (And.intro (Le.trans (τ := ⟨[(4,.x 0 2 (.sl 9 1 ((srtL o4.1).map cStr)))],⟨[[mpD sV (fun x =>.sl false (x.map cStr)) h0_0]],[2]⟩⟩) (Le.tz 1 1 rfl rfl rfl) (Le.trans (τ := ⟨[(4,.x 0 2 (.sl 9 1 ((srtL o4.1).map cStr)))],⟨[[mpD sV (fun x =>.sl false (x.map cStr)) h0_0]],[2]⟩⟩) (Le.tz 1 1 rfl rfl rfl) ((Le.frzv (.s 4) 0 2 rfl rfl rfl rfl).trans (Le.refl _ _ _)))) ?_)
 refine Qf6 (t:=Qg6) (ss:=fun o=>⟨[[mpD sV (fun x =>.sl false (x.map cStr)) h0_0]],[]⟩) h ?_
 exact⟨[],rfl,.refl _,.refl _,rfl⟩
noncomputable def Qas (p0:(List (List UInt8))) (p1:(List UInt8)) (v8:Int):Option (Unit⊕Int) :=
 if(decide (v8<(p0.length:Int))) then
  idx p0 v8>>=fun x4 =>
  if(p1==x4) then
   some (.inr v8)
  else
   Qas p0 p1 (wr (v8+1))
 else
  some (.inl ())
 partial_fixpoint
theorem Qhj:∀ (p0:(List (List UInt8))) (p1:(List UInt8)),(∀ (v8:Int) (o1:Unit⊕Int),Qas p0 p1 v8=some o1→TL (0,0) Tryz.prog 19 Qd2 (JP2 (0,0) 19 o1 (.exit 0) (Qb3 p0 p1) .ret (Qb4 p0 p1)) (Qbj p0 p1 v8)):=by
 intro p0 p1
 refine Qas.partial_correctness p0 p1 _ ?_
 intro Qas' iQas v8 o1 h
 refine TL.round (Qai mixed tbOk (lv:=Qen) _ _ _ ?_)
 refine Qae h (fun hb h=>?_) (fun hb h=>?_)
 ·refine Qa5 (l:=p0) (c:=cStr) (c' := cStr) h (fun _=>rfl) (fun _=>rfl) (by decide) (fun x4 hi h=>?_)
  refine Qae h (fun hb h=>?_) (fun hb h=>?_)
  ·exact JP2.b h (Le.tz 0 0 rfl rfl rfl)
  ·refine TL.le (τ := Qbj p0 p1 (wr (v8+1))) ?_ ((iQas (wr (v8+1)) _ h))
   exact Le.tz 0 0 rfl rfl rfl
 ·exact JP2.a h (Le.tz 0 0 rfl rfl rfl)
theorem Qhn:∀ (p0:(List (List UInt8))) (p1:(List UInt8)) (v8:Int) (o1:Unit⊕Int),Qas p0 p1 v8=some o1→TL (0,0) Tryz.prog 19 Qd2 (JP2 (0,0) 19 o1 (.exit 0) (Qb3 p0 p1) .ret (Qb4 p0 p1)) (Qbj p0 p1 v8):=fun p0 p1 v8=>(Qhj p0 p1) v8
noncomputable def Qb7 (p0:(List (List UInt8))) (p1:(List UInt8)):Option (Int) :=
 (Qas p0 p1 0)>>=fun o1 =>
 match o1 with
 | .inl y2 =>
  some (-1)
 | .inr y3 =>
  some y3
theorem Qjd:∀ (p0:(List (List UInt8))) (p1:(List UInt8)) (o:Int),Qb7 p0 p1=some o→PCall Tryz.prog 74 [.sl false (p0.map cStr),sV p1] (Qbz o):=by
 intro p0 p1 o h
 unfold Qb7 at h
 refine PCall.ofB mixed tbOk Qen Tryz.func74 rfl (by kernel_rfl) (Nat.le_of_ble_eq_true rfl) ?_
 refine view (lenMap _ _) rfl ?_
 refine Qag h (fun o1 ho hk=>?_)
 refine Exists.intro (JP2 _ _ o1 (.exit 0) (Qb3 p0 p1) .ret (Qb4 p0 p1)) (And.intro (T_le (τ := Qbj p0 p1 0) ?_ (TL.loop (Qhn p0 p1 0 o1 ho))) (join2 (fun y2 hy=>?_) (fun y3 hy=>?_)))
 ·exact Le.tz 0 0 rfl rfl rfl
 ·have h:=(by rw[hy] at hk; exact hk)
  refine Qal (t:=Qbz) h ?_
  exact .refl _
 ·have h:=(by rw[hy] at hk; exact hk)
  refine Qal (t:=Qbz) h ?_
  exact .refl _
noncomputable def Qa8 (p0:(List (List UInt8))) (p1:(List UInt8)):Option (Bool) :=
 Qb7 p0 p1>>=fun x1 =>
 some (decide (x1 ≥ 0))
theorem Qdy:∀ (p0:(List (List UInt8))) (p1:(List UInt8)) (o:Bool),Qa8 p0 p1=some o→PCall Tryz.prog 41 [.sl false (p0.map cStr),sV p1] (Qbo o):=by
 intro p0 p1 o h
 unfold Qa8 at h
 refine PCall.ofB mixed tbOk Qhm Tryz.func41 rfl (by kernel_rfl) (Nat.le_of_ble_eq_true rfl) ?_
 refine Qah [.sl false (p0.map cStr),sV p1] Qbz h (fun x1 hy=>(Qjd p0 p1 x1 hy)) (fun x1 hy h=>?_)
 refine Qal (t:=Qbo) h ?_
 exact .refl _
noncomputable def Qcy (p0:(List Qac)) (x10:(List ((List UInt8)×(List (List UInt8))))) (v85:Int):Option (Unit⊕(List UInt8)) :=
 if(decide (v85<(p0.length:Int))) then
  idx p0 v85>>=fun x22 =>
  Qdk ((mget (fun a b=>a==b) x22.Name x10).getD []) x10>>=fun x23 =>
  Qa8 x23 x22.Name>>=fun x24 =>
  if x24 then
   some (.inr x22.Name)
  else
   Qcy p0 x10 (wr (v85+1))
 else
  some (.inl ())
 partial_fixpoint
end Go.Proofs.YtfgegilhjlnohaaGreat
end
