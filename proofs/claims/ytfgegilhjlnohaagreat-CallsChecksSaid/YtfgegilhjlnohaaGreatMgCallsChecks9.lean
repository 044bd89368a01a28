/- The proof's texts, part 9 of 11: the walks by a logic in which data are by value, the plain laws, and at the end the law, for every input. -/
import Derived.Test.YtfgegilhjlnohaaGreatMgCallsChecks8

section
set_option linter.unusedVariables false
set_option linter.unusedSimpArgs false
set_option maxRecDepth 100000
set_option maxHeartbeats 4000000
namespace Go.Proofs.YtfgegilhjlnohaaGreat
open Go.RowKit
theorem Qy3:(∀ (p0:(List Qab)) (p1:Bool) (o:Bool),Qgu p0 p1=some o→PCall Tryz.prog 78 [.sl false (p0.map Qaa),bV p1] (Qel o))∧(∀ (p0:(List Qab)) (p1:Bool) (v5:Int) (o1:Unit⊕Unit),Qev p0 p1 v5=some o1→TL (0,0) Tryz.prog 62 Qvc (JP2 (0,0) 62 o1 (.exit 0) (Qm5 p0 p1) .ret (Qm6 p0 p1)) (Qgc p0 p1 v5))∧(∀ (p0:Qab) (o:Bool),Qp5 p0=some o→PCall Tryz.prog 103 [.agg [iV p0.Kind,sV p0.Name,sV p0.Text,iV p0.N,.sl false (p0.L.map Qaa),.sl false (p0.Then.map Qaa),.sl false (p0.Else.map Qaa)]] (Qf3 o)):=by
 refine Qgu.mutual_partial_correctness _ _ _ ?_ ?_ ?_
 ·intro Qev' iQev p0 p1 o h
  refine PCall.ofB mixed tbOk Qrn Tryz.func78 rfl (by kernel_rfl) (Nat.le_of_ble_eq_true rfl) ?_
  refine Qag h (fun o1 ho hk=>?_)
  refine Exists.intro (JP2 _ _ o1 (.exit 0) (Qm5 p0 p1) .ret (Qm6 p0 p1)) (And.intro (T_le (τ := Qgc p0 p1 0) ?_ (TL.loop (iQev p0 p1 0 o1 ho))) (join2 (fun y2 hy=>?_) (fun y3 hy=>?_)))
  ·exact Le.tz 0 0 rfl rfl rfl
  ·have h:=(by rw[hy] at hk; exact hk)
   refine Qal (t:=Qel) h ?_
   exact .refl _
  ·have h:=(by rw[hy] at hk; exact hk)
   refine Qal (t:=Qel) h ?_
   exact .refl _
 ·intro Qev' Qp5' iQev iQp5 p0 p1 v5 o1 h
  refine TL.round (Qaj mixed tbOk (lv:=Qrn) _ _ _ ?_)
  refine view (lenMap _ _) rfl ?_
  refine Qae h (fun hb h=>?_) (fun hb h=>?_)
  ·refine Qa6 (l:=p0) (c:=Qaa) (c' := Qa4) h Qam (fun _=>rfl) (by decide) (fun x4 hi h=>?_)
   refine Qah [.agg [iV x4.Kind,sV x4.Name,sV x4.Text,iV x4.N,.sl false (x4.L.map Qaa),.sl false (x4.Then.map Qaa),.sl false (x4.Else.map Qaa)]] Qf3 h (fun x5 hy=>(iQp5 x4 x5 hy)) (fun x5 hy h=>?_)
   refine Qae h (fun hb h=>?_) (fun hb h=>?_)
   ·exact JP2.b h (Le.tz 0 0 rfl rfl rfl)
   ·refine Qa6 (l:=p0) (c:=Qaa) (c' := Qa4) h Qam (fun _=>rfl) (by decide) (fun x6 hi h=>?_)
    refine Qae h (fun hb h=>?_) (fun hb h=>?_)
    ·refine TL.le (τ := Qgc p0 p1 (wr (v5+1))) ?_ ((iQev p0 p1 (wr (v5+1)) _ h))
     exact Le.tz 0 0 rfl rfl rfl
    ·refine Qa6 (l:=p0) (c:=Qaa) (c' := Qa4) h Qam (fun _=>rfl) (by decide) (fun x7 hi h=>?_)
     refine view (lenMap _ _) rfl ?_
     refine Qag h (fun o8 ho hk=>?_)
     refine Exists.intro (JP1 _ _ o8 .normal (Qvb p0 p1 v5)) (And.intro ?_ (join1 ?_))
     ·have h:=ho
      refine Qae h (fun hb h=>?_) (fun hb h=>?_)
      ·refine Qa6 (l:=p0) (c:=Qaa) (c' := Qa4) h Qam (fun _=>rfl) (by decide) (fun x9 hi h=>?_)
       refine Qae h (fun hb h=>?_) (fun hb h=>?_)
       ·refine JP1.a h ?_
        exact Le.tz 0 0 rfl rfl rfl
       ·refine Qae h (fun hb h=>?_) (fun hb h=>?_)
        ·refine bT ?_
         refine vrfl ?_
         refine Qfg h (fun x10 hi h=>?_)
         refine JP1.a h ?_
         exact Le.tz 0 0 rfl rfl rfl
        ·refine Qae h (fun hb h=>?_) (fun hb h=>?_)
         ·refine vrfl ?_
          refine Qfg h (fun x11 hi h=>?_)
          refine JP1.a h ?_
          exact Le.tz 0 0 rfl rfl rfl
         ·refine JP1.a h ?_
          exact Le.tz 0 0 rfl rfl rfl
      ·refine bF ?_
       refine Qae h (fun hb h=>?_) (fun hb h=>?_)
       ·refine bT ?_
        refine vrfl ?_
        refine Qfg h (fun x12 hi h=>?_)
        refine JP1.a h ?_
        exact Le.tz 0 0 rfl rfl rfl
       ·refine Qae h (fun hb h=>?_) (fun hb h=>?_)
        ·refine vrfl ?_
         refine Qfg h (fun x13 hi h=>?_)
         refine JP1.a h ?_
         exact Le.tz 0 0 rfl rfl rfl
        ·refine JP1.a h ?_
         exact Le.tz 0 0 rfl rfl rfl
     ·have h:=hk
      refine Qae h (fun hb h=>?_) (fun hb h=>?_)
      ·exact JP2.b h (Le.tz 0 0 rfl rfl rfl)
      ·refine TL.le (τ := Qgc p0 p1 (wr (v5+1))) ?_ ((iQev p0 p1 (wr (v5+1)) _ h))
       exact Le.tz 0 0 rfl rfl rfl
  ·exact JP2.a h (Le.tz 0 0 rfl rfl rfl)
 ·intro Qgu' iQgu p0 o h
  refine PCall.ofB mixed tbOk Q2v Tryz.func103 rfl (by kernel_rfl) (Nat.le_of_ble_eq_true rfl) ?_
  refine Qag h (fun o1 ho hk=>?_)
  refine Exists.intro (JP1 _ _ o1 .normal (Qye p0)) (And.intro ?_ (join1 ?_))
  ·have h:=ho
   refine view (lenMap _ _) rfl ?_
   refine Qae h (fun hb h=>?_) (fun hb h=>?_)
   ·refine Qah [.sl false (p0.L.map Qaa)] Qfs h (fun x2 hy=>(Q08 p0.L x2 hy)) (fun x2 hy h=>?_)
    refine JP1.a h ?_
    exact Le.tz 1 0 rfl rfl rfl
   ·refine JP1.a h ?_
    exact Le.tz 1 0 rfl rfl rfl
  ·have h:=hk
   refine Qae h (fun hb h=>?_) (fun hb h=>?_)
   ·refine Qag h (fun o3 ho hk=>?_)
    refine Exists.intro (JP1 _ _ o3 .normal (Qyf p0)) (And.intro ?_ (join1 ?_))
    ·have h:=ho
     refine Qae h (fun hb h=>?_) (fun hb h=>?_)
     ·refine Qah [sV p0.Text,sV [123,123]] Qka h (fun x4 hy=>(Qy2 p0.Text [123,123] x4 hy)) (fun x4 hy h=>?_)
      refine Qae h (fun hb h=>?_) (fun hb h=>?_)
      ·refine Qah [.agg [iV p0.Kind,sV p0.Name,sV p0.Text,iV p0.N,.sl false (p0.L.map Qaa),.sl false (p0.Then.map Qaa),.sl false (p0.Else.map Qaa)],bV false,bV true,bV false,bV false,bV false] Qb5 h (fun x5 hy=>(Qb8 p0 false true false false false x5 hy)) (fun x5 hy h=>?_)
       refine JP1.a h ?_
       exact Le.tz 1 0 rfl rfl rfl
      ·refine JP1.a h ?_
       exact Le.tz 1 0 rfl rfl rfl
     ·refine bF ?_
      refine JP1.a h ?_
      exact Le.tz 1 0 rfl rfl rfl
    ·have h:=hk
     refine Qal (t:=Qf3) h ?_
     exact .refl _
   ·refine Qae h (fun hb h=>?_) (fun hb h=>?_)
    ·refine Qag h (fun o6 ho hk=>?_)
     refine Exists.intro (JP1 _ _ o6 .normal (Qyg p0)) (And.intro ?_ (join1 ?_))
     ·have h:=ho
      refine Qae h (fun hb h=>?_) (fun hb h=>?_)
      ·refine Qah [.agg [iV p0.Kind,sV p0.Name,sV p0.Text,iV p0.N,.sl false (p0.L.map Qaa),.sl false (p0.Then.map Qaa),.sl false (p0.Else.map Qaa)],bV false,bV false,bV false,bV true,bV false] Qb5 h (fun x7 hy=>(Qb8 p0 false false false true false x7 hy)) (fun x7 hy h=>?_)
       refine JP1.a h ?_
       exact Le.tz 1 0 rfl rfl rfl
      ·refine JP1.a h ?_
       exact Le.tz 1 0 rfl rfl rfl
     ·have h:=hk
      refine Qal (t:=Qf3) h ?_
      exact .refl _
    ·refine Qae h (fun hb h=>?_) (fun hb h=>?_)
     ·refine Qag h (fun o8 ho hk=>?_)
      refine Exists.intro (JP1 _ _ o8 .normal (Qyh p0)) (And.intro ?_ (join1 ?_))
      ·have h:=ho
       refine Qae h (fun hb h=>?_) (fun hb h=>?_)
       ·refine Qah [.sl false (p0.Then.map Qaa),bV true] Qel h (fun x9 hy=>(iQgu p0.Then true x9 hy)) (fun x9 hy h=>?_)
        refine Qae h (fun hb h=>?_) (fun hb h=>?_)
        ·refine Qah [.sl false (p0.Else.map Qaa),bV true] Qel h (fun x10 hy=>(iQgu p0.Else true x10 hy)) (fun x10 hy h=>?_)
         refine Qae h (fun hb h=>?_) (fun hb h=>?_)
         ·refine Qah [.agg [iV p0.Kind,sV p0.Name,sV p0.Text,iV p0.N,.sl false (p0.L.map Qaa),.sl false (p0.Then.map Qaa),.sl false (p0.Else.map Qaa)],bV false,bV false,bV false,bV true,bV true] Qb5 h (fun x11 hy=>(Qb8 p0 false false false true true x11 hy)) (fun x11 hy h=>?_)
          refine JP1.a h ?_
          exact Le.tz 1 0 rfl rfl rfl
         ·refine JP1.a h ?_
          exact Le.tz 1 0 rfl rfl rfl
        ·refine bF ?_
         refine JP1.a h ?_
         exact Le.tz 1 0 rfl rfl rfl
       ·refine bF ?_
        refine bF ?_
        refine JP1.a h ?_
        exact Le.tz 1 0 rfl rfl rfl
      ·have h:=hk
       refine Qal (t:=Qf3) h ?_
       exact .refl _
     ·refine Qag h (fun o12 ho hk=>?_)
      refine Exists.intro (JP1 _ _ o12 .normal (Qyi p0 o1)) (And.intro ?_ (join1 ?_))
      ·have h:=ho
       refine Qae h (fun hb h=>?_) (fun hb h=>?_)
       ·refine JP1.a h ?_
        exact Le.tz 1 0 rfl rfl rfl
       ·refine JP1.a h ?_
        exact Le.tz 1 0 rfl rfl rfl
      ·have h:=hk
       refine Qae h (fun hb h=>?_) (fun hb h=>?_)
       ·refine Qag h (fun o13 ho hk=>?_)
        refine Exists.intro (JP1 _ _ o13 .normal (Qyj p0)) (And.intro ?_ (join1 ?_))
        ·have h:=ho
         refine Qah [sV p0.Name] Qf2 h (fun x14 hy=>(Qj0 p0.Name x14 hy)) (fun x14 hy h=>?_)
         refine Qae h (fun hb h=>?_) (fun hb h=>?_)
         ·refine Qae h (fun hb h=>?_) (fun hb h=>?_)
          ·refine Qah [.sl false (p0.Then.map Qaa),bV true] Qel h (fun x15 hy=>(iQgu p0.Then true x15 hy)) (fun x15 hy h=>?_)
           refine Qae h (fun hb h=>?_) (fun hb h=>?_)
           ·refine Qah [.agg [iV p0.Kind,sV p0.Name,sV p0.Text,iV p0.N,.sl false (p0.L.map Qaa),.sl false (p0.Then.map Qaa),.sl false (p0.Else.map Qaa)],bV true,bV false,bV false,bV true,bV true] Qb5 h (fun x16 hy=>(Qb8 p0 true false false true true x16 hy)) (fun x16 hy h=>?_)
            refine JP1.a h ?_
            exact Le.tz 1 0 rfl rfl rfl
           ·refine JP1.a h ?_
            exact Le.tz 1 0 rfl rfl rfl
          ·refine bF ?_
           refine JP1.a h ?_
           exact Le.tz 1 0 rfl rfl rfl
         ·refine bF ?_
          refine bF ?_
          refine JP1.a h ?_
          exact Le.tz 1 0 rfl rfl rfl
        ·have h:=hk
         refine Qal (t:=Qf3) h ?_
         exact .refl _
       ·refine Qae h (fun hb h=>?_) (fun hb h=>?_)
        ·refine Qag h (fun o17 ho hk=>?_)
         refine Exists.intro (JP1 _ _ o17 .normal (Qyk p0)) (And.intro ?_ (join1 ?_))
         ·have h:=ho
          refine Qah [sV p0.Name] Qf2 h (fun x18 hy=>(Qj0 p0.Name x18 hy)) (fun x18 hy h=>?_)
          refine Qae h (fun hb h=>?_) (fun hb h=>?_)
          ·refine Qae h (fun hb h=>?_) (fun hb h=>?_)
           ·refine Qah [.agg [iV p0.Kind,sV p0.Name,sV p0.Text,iV p0.N,.sl false (p0.L.map Qaa),.sl false (p0.Then.map Qaa),.sl false (p0.Else.map Qaa)],bV true,bV false,bV false,bV true,bV false] Qb5 h (fun x19 hy=>(Qb8 p0 true false false true false x19 hy)) (fun x19 hy h=>?_)
            refine JP1.a h ?_
            exact Le.tz 1 0 rfl rfl rfl
           ·refine JP1.a h ?_
            exact Le.tz 1 0 rfl rfl rfl
          ·refine bF ?_
           refine JP1.a h ?_
           exact Le.tz 1 0 rfl rfl rfl
         ·have h:=hk
          refine Qal (t:=Qf3) h ?_
          exact .refl _
        ·refine Qal (t:=Qf3) h ?_
         exact .refl _
theorem Q09:∀ (p0:(List Qab)) (p1:Bool) (o:Bool),Qgu p0 p1=some o→PCall Tryz.prog 78 [.sl false (p0.map Qaa),bV p1] (Qel o):=fun p0 p1=>Qy3.1 p0 p1
noncomputable def Q1a (p0:(List Qab)):Option (Bool) :=
 ( Qgu p0 false>>=fun x2 =>
  if x2 then
   Qgt p0>>=fun x3 =>
   if(decide (x3≤12)) then
    Qet p0>>=fun x4 =>
    some (decide (x4≤1024))
   else
    some false
  else
   some false:Option (Bool))>>=fun o1 =>
 some o1
theorem Q6e:∀ (p0:(List Qab)) (o:Bool),Q1a p0=some o→PCall Tryz.prog 44 [.sl false (p0.map Qaa)] (Qx6 o):=by
 intro p0 o h
 unfold Q1a at h
 refine PCall.ofB mixed tbOk Q6b Tryz.func44 rfl (by kernel_rfl) (Nat.le_of_ble_eq_true rfl) ?_
 refine Qag h (fun o1 ho hk=>?_)
 refine Exists.intro (JP1 _ _ o1 .normal (Q2s )) (And.intro ?_ (join1 ?_))
 ·have h:=ho
  refine Qah [.sl false (p0.map Qaa),bV false] Qel h (fun x2 hy=>(Q09 p0 false x2 hy)) (fun x2 hy h=>?_)
  refine Qae h (fun hb h=>?_) (fun hb h=>?_)
  ·refine Qah [.sl false (p0.map Qaa)] Qha h (fun x3 hy=>(Q21 p0 x3 hy)) (fun x3 hy h=>?_)
   refine Qae h (fun hb h=>?_) (fun hb h=>?_)
   ·refine Qah [.sl false (p0.map Qaa)] Qfr h (fun x4 hy=>(Q04 p0 x4 hy)) (fun x4 hy h=>?_)
    refine JP1.a h ?_
    exact Le.tz 0 0 rfl rfl rfl
   ·refine JP1.a h ?_
    exact Le.tz 0 0 rfl rfl rfl
  ·refine bF ?_
   refine JP1.a h ?_
   exact Le.tz 0 0 rfl rfl rfl
 ·have h:=hk
  refine Qal (t:=Qx6) h ?_
  exact .refl _
noncomputable def Qew (p0:(List Qac)) (p1:(List UInt8)) (v6:Int):Option (Unit⊕(List Qab)) :=
 if(decide (v6<(p0.length:Int))) then
  idx p0 v6>>=fun x4 =>
  if(x4.Name==p1) then
   idx p0 v6>>=fun x5 =>
   some (.inr x5.L)
  else
   Qew p0 p1 (wr (v6+1))
 else
  some (.inl ())
 partial_fixpoint
theorem Qua:∀ (p0:(List Qac)) (p1:(List UInt8)),(∀ (v6:Int) (o1:Unit⊕(List Qab)),Qew p0 p1 v6=some o1→TL (0,0) Tryz.prog 25 Qps (JP2 (0,0) 25 o1 (.exit 0) (Qkt p0 p1) .ret (Qku p0 p1)) (Qhx p0 p1 v6)):=by
 intro p0 p1
 refine Qew.partial_correctness p0 p1 _ ?_
 intro Qew' iQew v6 o1 h
 refine TL.round (Qaj mixed tbOk (lv:=Qtn) _ _ _ ?_)
 refine view (lenMap _ _) rfl ?_
 refine Qae h (fun hb h=>?_) (fun hb h=>?_)
 ·refine Qa6 (l:=p0) (c:=Qaf) (c' := Qaf) h (fun _=>rfl) (fun _=>rfl) (by decide) (fun x4 hi h=>?_)
  refine Qae h (fun hb h=>?_) (fun hb h=>?_)
  ·refine Qa6 (l:=p0) (c:=Qaf) (c' := Qaf) h (fun _=>rfl) (fun _=>rfl) (by decide) (fun x5 hi h=>?_)
   exact JP2.b h (Le.tz 0 0 rfl rfl rfl)
  ·refine TL.le (τ := Qhx p0 p1 (wr (v6+1))) ?_ ((iQew (wr (v6+1)) _ h))
   exact Le.tz 0 0 rfl rfl rfl
 ·exact JP2.a h (Le.tz 0 0 rfl rfl rfl)
theorem Qv2:∀ (p0:(List Qac)) (p1:(List UInt8)) (v6:Int) (o1:Unit⊕(List Qab)),Qew p0 p1 v6=some o1→TL (0,0) Tryz.prog 25 Qps (JP2 (0,0) 25 o1 (.exit 0) (Qkt p0 p1) .ret (Qku p0 p1)) (Qhx p0 p1 v6):=fun p0 p1 v6=>(Qua p0 p1) v6
noncomputable def Qkf (p0:(List Qac)) (p1:(List UInt8)):Option ((List Qab)×Bool) :=
 (Qew p0 p1 0)>>=fun o1 =>
 match o1 with
 | .inl y2 =>
  some ([],false)
 | .inr y3 =>
  some (y3,true)
theorem Ql1:∀ (p0:(List Qac)) (p1:(List UInt8)) (o:(List Qab)×Bool),Qkf p0 p1=some o→PCall Tryz.prog 31 [.sl false (p0.map Qaf),sV p1] (Qhb o):=by
 intro p0 p1 o h
 unfold Qkf at h
 refine PCall.ofB mixed tbOk Qtn Tryz.func31 rfl (by kernel_rfl) (Nat.le_of_ble_eq_true rfl) ?_
 refine Qag h (fun o1 ho hk=>?_)
 refine Exists.intro (JP2 _ _ o1 (.exit 0) (Qkt p0 p1) .ret (Qku p0 p1)) (And.intro (T_le (τ := Qhx p0 p1 0) ?_ (TL.loop (Qv2 p0 p1 0 o1 ho))) (join2 (fun y2 hy=>?_) (fun y3 hy=>?_)))
 ·exact Le.tz 0 0 rfl rfl rfl
 ·have h:=(by rw[hy] at hk; exact hk)
  refine Qal (t:=Qhb) h ?_
  exact .tup (xs:=[.sl true [],bV false]) (ys:=[.sl false [],bV false]) (.cons (.not) (.cons (.refl _) (.nil)))
 ·have h:=(by rw[hy] at hk; exact hk)
  refine Qal (t:=Qhb) h ?_
  exact .refl _
noncomputable def Qdv (p0:(List Qac)) (v4:Int):Option (Unit⊕((List UInt8)×Int)) :=
 if(decide (v4<(p0.length:Int))) then
  ( idx p0 v4>>=fun x5 =>
   Qi2 x5.Name>>=fun x6 =>
   if(!x6) then
    some true
   else
    idx p0 v4>>=fun x7 =>
    Q1a x7.L>>=fun x8 =>
    some (!x8):Option (Bool))>>=fun o4 =>
  if o4 then
   idx p0 v4>>=fun x9 =>
   some (.inr (x9.Name,7))
  else
   cutL p0 0 v4>>=fun x10 =>
   idx p0 v4>>=fun x11 =>
   Qkf x10 x11.Name>>=fun x12 =>
   if x12.2 then
    idx p0 v4>>=fun x13 =>
    some (.inr (x13.Name,9))
   else
    Qdv p0 (wr (v4+1))
 else
  some (.inl ())
 partial_fixpoint
theorem Qr2:∀ (p0:(List Qac)),(∀ (v4:Int) (o1:Unit⊕((List UInt8)×Int)),Qdv p0 v4=some o1→TL (0,0) Tryz.prog 119 Qoj (JP2 (0,0) 119 o1 (.exit 0) (Qjj p0) .ret (Qjk p0)) (Qgd p0 v4)):=by
 intro p0
 refine Qdv.partial_correctness p0 _ ?_
 intro Qdv' iQdv v4 o1 h
 refine TL.round (Qaj mixed tbOk (lv:=Qh7) _ _ _ ?_)
 refine view (lenMap _ _) rfl ?_
 refine Qae h (fun hb h=>?_) (fun hb h=>?_)
 ·refine Qag h (fun o4 ho hk=>?_)
  refine Exists.intro (JP1 _ _ o4 .normal (Qve p0 v4)) (And.intro ?_ (join1 ?_))
  ·have h:=ho
   refine Qa6 (l:=p0) (c:=Qaf) (c' := Qaf) h (fun _=>rfl) (fun _=>rfl) (by decide) (fun x5 hi h=>?_)
   refine Qah [sV x5.Name] Qf2 h (fun x6 hy=>(Qj0 x5.Name x6 hy)) (fun x6 hy h=>?_)
   refine Qae h (fun hb h=>?_) (fun hb h=>?_)
   ·refine JP1.a h ?_
    exact Le.tz 0 0 rfl rfl rfl
   ·refine Qa6 (l:=p0) (c:=Qaf) (c' := Qaf) h (fun _=>rfl) (fun _=>rfl) (by decide) (fun x7 hi h=>?_)
    refine Qah [.sl false (x7.L.map Qaa)] Qx6 h (fun x8 hy=>(Q6e x7.L x8 hy)) (fun x8 hy h=>?_)
    refine JP1.a h ?_
    exact Le.tz 0 0 rfl rfl rfl
  ·have h:=hk
   refine Qae h (fun hb h=>?_) (fun hb h=>?_)
   ·refine Qa6 (l:=p0) (c:=Qaf) (c' := Qaf) h (fun _=>rfl) (fun _=>rfl) (by decide) (fun x9 hi h=>?_)
    exact JP2.b h (Le.tz 0 0 rfl rfl rfl)
   ·refine And.intro (by decide +kernel) (And.intro rfl ?_)
    refine Q3v (c:=Qaf) none (some v4) h (fun _=>rfl) (fun x10 hi h=>?_)
    refine Qa6 (l:=p0) (c:=Qaf) (c' := Qaf) h (fun _=>rfl) (fun _=>rfl) (by decide) (fun x11 hi h=>?_)
    refine Qe6 [.sl false (x10.map Qaf),sV x11.Name] Qhb h (fun x12 hy=>(Ql1 x10 x11.Name x12 hy)) (fun x12 hy h=>?_)
    refine Qae h (fun hb h=>?_) (fun hb h=>?_)
    ·refine Qa6 (l:=p0) (c:=Qaf) (c' := Qaf) h (fun _=>rfl) (fun _=>rfl) (by decide) (fun x13 hi h=>?_)
     exact JP2.b h (Le.tz 0 0 rfl rfl rfl)
    ·refine TL.le (τ := Qgd p0 (wr (v4+1))) ?_ ((iQdv (wr (v4+1)) _ h))
     exact Le.tz 0 0 rfl rfl rfl
 ·exact JP2.a h (Le.tz 0 0 rfl rfl rfl)
theorem Qub:∀ (p0:(List Qac)) (v4:Int) (o1:Unit⊕((List UInt8)×Int)),Qdv p0 v4=some o1→TL (0,0) Tryz.prog 119 Qoj (JP2 (0,0) 119 o1 (.exit 0) (Qjj p0) .ret (Qjk p0)) (Qgd p0 v4):=fun p0 v4=>(Qr2 p0) v4
noncomputable def Qdw (p0:(List Qac)) (v7:Int) (x18:(List (List UInt8))) (v9:Int):Option (Unit⊕(List UInt8)) :=
 if(decide (v9<(x18.length:Int))) then
  idx x18 v9>>=fun x22 =>
  Qkf p0 x22>>=fun x23 =>
  if(!x23.2) then
   idx p0 v7>>=fun x24 =>
   some (.inr x24.Name)
  else
   Qdw p0 v7 x18 (wr (v9+1))
 else
  some (.inl ())
 partial_fixpoint
theorem Qr3:∀ (p0:(List Qac)) (v7:Int) (x18:(List (List UInt8))),(∀ (v9:Int) (o19:Unit⊕(List UInt8)),Qdw p0 v7 x18 v9=some o19→TL (0,0) Tryz.prog 119 Qok (JP2 (0,0) 119 o19 (.exit 4) (Qjl p0 v7 x18) .ret (Qjm p0 v7 x18)) (Qge p0 v7 x18 v9)):=by
 intro p0 v7 x18
 refine Qdw.partial_correctness p0 v7 x18 _ ?_
 intro Qdw' iQdw v9 o19 h
 refine TL.round (Qaj mixed tbOk (lv:=Qh7) _ _ _ ?_)
 refine view (lenMap _ _) rfl ?_
 refine Qae h (fun hb h=>?_) (fun hb h=>?_)
 ·refine Qa6 (l:=x18) (c:=cStr) (c' := cStr) h (fun _=>rfl) (fun _=>rfl) (by decide) (fun x22 hi h=>?_)
  refine Qah [.sl false (p0.map Qaf),sV x22] Qhb h (fun x23 hy=>(Ql1 p0 x22 x23 hy)) (fun x23 hy h=>?_)
  refine Qae h (fun hb h=>?_) (fun hb h=>?_)
  ·refine Qa6 (l:=p0) (c:=Qaf) (c' := Qaf) h (fun _=>rfl) (fun _=>rfl) (by decide) (fun x24 hi h=>?_)
   exact JP2.b h (Le.tz 0 1 rfl rfl rfl)
  ·refine TL.le (τ := Qge p0 v7 x18 (wr (v9+1))) ?_ ((iQdw (wr (v9+1)) _ h))
   exact Le.tz 0 1 rfl rfl rfl
 ·exact JP2.a h (Le.tz 0 1 rfl rfl rfl)
theorem Quc:∀ (p0:(List Qac)) (v7:Int) (x18:(List (List UInt8))) (v9:Int) (o19:Unit⊕(List UInt8)),Qdw p0 v7 x18 v9=some o19→TL (0,0) Tryz.prog 119 Qok (JP2 (0,0) 119 o19 (.exit 4) (Qjl p0 v7 x18) .ret (Qjm p0 v7 x18)) (Qge p0 v7 x18 v9):=fun p0 v7 x18 v9=>(Qr3 p0 v7 x18) v9
noncomputable def Qic (p0:(List (List UInt8))) (p1:(List UInt8)) (v5:Int):Option (Unit⊕Unit) :=
 if(decide (v5<(p0.length:Int))) then
  idx p0 v5>>=fun x4 =>
  if(x4==p1) then
   some (.inr ())
  else
   Qic p0 p1 (wr (v5+1))
 else
  some (.inl ())
 partial_fixpoint
theorem Qy4:∀ (p0:(List (List UInt8))) (p1:(List UInt8)),(∀ (v5:Int) (o1:Unit⊕Unit),Qic p0 p1 v5=some o1→TL (0,0) Tryz.prog 18 Qto (JP2 (0,0) 18 o1 (.exit 0) (Qna p0 p1) .ret (Qnb p0 p1)) (Qkb p0 p1 v5)):=by
 intro p0 p1
 refine Qic.partial_correctness p0 p1 _ ?_
 intro Qic' iQic v5 o1 h
 refine TL.round (Qaj mixed tbOk (lv:=Q0t) _ _ _ ?_)
 refine view (lenMap _ _) rfl ?_
 refine Qae h (fun hb h=>?_) (fun hb h=>?_)
 ·refine Qa6 (l:=p0) (c:=cStr) (c' := cStr) h (fun _=>rfl) (fun _=>rfl) (by decide) (fun x4 hi h=>?_)
  refine Qae h (fun hb h=>?_) (fun hb h=>?_)
  ·exact JP2.b h (Le.tz 0 0 rfl rfl rfl)
  ·refine TL.le (τ := Qkb p0 p1 (wr (v5+1))) ?_ ((iQic (wr (v5+1)) _ h))
   exact Le.tz 0 0 rfl rfl rfl
 ·exact JP2.a h (Le.tz 0 0 rfl rfl rfl)
theorem Q1b:∀ (p0:(List (List UInt8))) (p1:(List UInt8)) (v5:Int) (o1:Unit⊕Unit),Qic p0 p1 v5=some o1→TL (0,0) Tryz.prog 18 Qto (JP2 (0,0) 18 o1 (.exit 0) (Qna p0 p1) .ret (Qnb p0 p1)) (Qkb p0 p1 v5):=fun p0 p1 v5=>(Qy4 p0 p1) v5
noncomputable def Qp6 (p0:(List (List UInt8))) (p1:(List UInt8)):Option (Bool) :=
 (Qic p0 p1 0)>>=fun o1 =>
 match o1 with
 | .inl y2 =>
  some false
 | .inr y3 =>
  some true
theorem Q1c:∀ (p0:(List (List UInt8))) (p1:(List UInt8)) (o:Bool),Qp6 p0 p1=some o→PCall Tryz.prog 21 [.sl false (p0.map cStr),sV p1] (Qpt o):=by
 intro p0 p1 o h
 unfold Qp6 at h
 refine PCall.ofB mixed tbOk Q0t Tryz.func21 rfl (by kernel_rfl) (Nat.le_of_ble_eq_true rfl) ?_
 refine Qag h (fun o1 ho hk=>?_)
 refine Exists.intro (JP2 _ _ o1 (.exit 0) (Qna p0 p1) .ret (Qnb p0 p1)) (And.intro (T_le (τ := Qkb p0 p1 0) ?_ (TL.loop (Q1b p0 p1 0 o1 ho))) (join2 (fun y2 hy=>?_) (fun y3 hy=>?_)))
 ·exact Le.tz 0 0 rfl rfl rfl
 ·have h:=(by rw[hy] at hk; exact hk)
  refine Qal (t:=Qpt) h ?_
  exact .refl _
 ·have h:=(by rw[hy] at hk; exact hk)
  refine Qal (t:=Qpt) h ?_
  exact .refl _
noncomputable def Qex (p0:(List (List UInt8))) (p1:(List UInt8)) (v5:Int):Option (Int) :=
 ( if(decide (v5<(p0.length:Int))) then
   idx p0 v5>>=fun x4 =>
   some (Op.bytesLess x4 p1)
  else
   some false:Option (Bool))>>=fun o3 =>
 if o3 then
  Qex p0 p1 (wr (v5+1))
 else
  some v5
 partial_fixpoint
theorem Qud:∀ (p0:(List (List UInt8))) (p1:(List UInt8)),(∀ (v5:Int) (o2:Int),Qex p0 p1 v5=some o2→TL (0,1) Tryz.prog 36 Qpv (JP1 (0,1) 36 o2 (.exit 0) (Qkx p0 p1)) (Qhz p0 p1 v5)):=by
 intro p0 p1
 refine Qex.partial_correctness p0 p1 _ ?_
 intro Qex' iQex v5 o2 h
 refine TL.round (Qaj mixed tbOk (lv:=Qtq) _ _ _ ?_)
 refine Qag h (fun o3 ho hk=>?_)
 refine Exists.intro (JP1 _ _ o3 .normal (Qyn p0 p1 v5)) (And.intro ?_ (join1 ?_))
 ·have h:=ho
  refine view (lenMap _ _) rfl ?_
  refine Qae h (fun hb h=>?_) (fun hb h=>?_)
  ·refine Qa6 (l:=p0) (c:=cStr) (c' := cStr) h (fun _=>rfl) (fun _=>rfl) (by decide) (fun x4 hi h=>?_)
   refine JP1.a h ?_
   exact Le.tz 0 1 rfl rfl rfl
  ·refine JP1.a h ?_
   exact Le.tz 0 1 rfl rfl rfl
 ·have h:=hk
  refine Qae h (fun hb h=>?_) (fun hb h=>?_)
  ·refine TL.le (τ := Qhz p0 p1 (wr (v5+1))) ?_ ((iQex (wr (v5+1)) _ h))
   exact Le.tz 0 1 rfl rfl rfl
  ·exact JP1.a h (Le.tz 0 1 rfl rfl rfl)
theorem Qv3:∀ (p0:(List (List UInt8))) (p1:(List UInt8)) (v5:Int) (o2:Int),Qex p0 p1 v5=some o2→TL (0,1) Tryz.prog 36 Qpv (JP1 (0,1) 36 o2 (.exit 0) (Qkx p0 p1)) (Qhz p0 p1 v5):=fun p0 p1 v5=>(Qud p0 p1) v5
noncomputable def Ql2 (p0:(List (List UInt8))) (p1:(List UInt8)):Option ((List (List UInt8))) :=
 Qp6 p0 p1>>=fun x1 =>
 if x1 then
  some p0
 else
  (Qex p0 p1 0)>>=fun o2 =>
  cutL p0 0 o2>>=fun x5 =>
  appL 16 [] x5>>=fun x6 =>
  appL 16 x6 [p1]>>=fun x7 =>
  cutL p0 o2 (p0.length:Int)>>=fun x8 =>
  appL 16 x7 x8>>=fun x9 =>
  need (((p0.map cStr).length)<((x9.map cStr).length))>>=fun _ =>
  some x9
theorem Qo4:∀ (p0:(List (List UInt8))) (p1:(List UInt8)) (o:(List (List UInt8))),Ql2 p0 p1=some o→CallOK Tryz.prog 55 [.own 0 9 1 (p0.map cStr),.p (sV p1)] ⟨[],[(p0.map cStr).length]⟩ (Qqy o) ⟨[],[(o.map cStr).length]⟩:=by
 intro p0 p1 o h
 unfold Ql2 at h
 refine CallOK.ofBN mixed tbOk Qtq Tryz.func55 rfl (by kernel_rfl) (Nat.le_of_ble_eq_true rfl) rfl rfl (Nat.le_of_ble_eq_true rfl) ?_
 refine Qah [.sl false (p0.map cStr),sV p1] Qpt h (fun x1 hy=>(Q1c p0 p1 x1 hy)) (fun x1 hy h=>?_)
 refine Qae h (fun hb h=>?_) (fun hb h=>?_)
 ·refine Exists.intro _ (And.intro (Le.refl _ _ _) ?_)
  exact Qtg (t:=Qqy) (ss:=fun o=>⟨[],[(o.map cStr).length]⟩) h ⟨[],[0],rfl,rfl,.refl _,.refl _,rfl,rfl⟩
 ·refine Qag h (fun o2 ho hk=>?_)
  refine Exists.intro (JP1 _ _ o2 (.exit 0) (Qkx p0 p1)) (And.intro (T_le (τ := Qhz p0 p1 0) ?_ (TL.loop (Qv3 p0 p1 0 o2 ho))) (join1 ?_))
  ·exact Le.tz 0 1 rfl rfl rfl
  have h:=hk
  refine And.intro (by decide +kernel) (And.intro rfl ?_)
  refine Q3v (full:=false) (c:=cStr) none (some o2) h (fun _=>rfl) (fun x5 hi h=>?_)
  refine Q5z (a:=([]:List (List UInt8))) (b:=x5) (c:=cStr) h (.refl _) (.refl _) (fun _=>rfl) (.inl rfl) (fun x6 hi h=>?_)
  refine Qls (a:=x6) (b:=[p1]) (c:=cStr) h (.refl _) (fun _=>rfl) rfl (fun x7 hi h=>?_)
  refine Q3v (full:=false) (c:=cStr) (some o2) none h (fun _=>rfl) (fun x8 hi h=>?_)
  refine Qls (a:=x7) (b:=x8) (c:=cStr) h (.refl _) (fun _=>rfl) rfl (fun x9 hi h=>?_)
  refine Qiz h (fun hn h=>?_)
  refine Exists.intro _ (And.intro ((Le.into 4 0 0 1 _ _ rfl rfl rfl rfl rfl hn (by decide)).trans (Le.refl _ _ _)) ?_)
  exact Qtg (t:=Qqy) (ss:=fun o=>⟨[],[(o.map cStr).length]⟩) h ⟨[],[0],rfl,rfl,.refl _,.refl _,rfl,rfl⟩
noncomputable def Qd6 (p0:(List Qab)) (v4:Int) (x9:(List (List UInt8))) (x10:(List (List UInt8))) (v3_:(List (List UInt8))) (v6:Int):Option ((List (List UInt8))) :=
 if(decide (v6<(x10.length:Int))) then
  idx x10 v6>>=fun x12 =>
  Ql2 v3_ x12>>=fun x13 =>
  Qd6 p0 v4 x9 x10 x13 (wr (v6+1))
 else
  some v3_
 partial_fixpoint
theorem Que:∀ (p0:(List Qab)) (v4:Int) (x9:(List (List UInt8))) (x10:(List (List UInt8))),(∀ (v3_:(List (List UInt8))) (v6:Int) (o11:(List (List UInt8))),Qd6 p0 v4 x9 x10 v3_ v6=some o11→TL (0,0) Tryz.prog 53 Qpu (JP1 (0,0) 53 o11 (.exit 2) (Qkv p0 v4 x9 x10)) (Qhy p0 v4 x9 x10 v3_ v6)):=by
 intro p0 v4 x9 x10
 refine Qd6.partial_correctness p0 v4 x9 x10 _ ?_
 intro Qd6' iQd6 v3_ v6 o11 h
 refine TL.round (Qaj mixed tbOk (lv:=Qo0) _ _ _ ?_)
 refine view (lenMap _ _) rfl ?_
 refine Qae h (fun hb h=>?_) (fun hb h=>?_)
 ·refine Qa6 (l:=x10) (c:=cStr) (c' := cStr) h (fun _=>rfl) (fun _=>rfl) (by decide) (fun x12 hi h=>?_)
  refine Or.inr ?_
  refine Qxx _ _ h (fun x13 hy=>((Qo4 v3_ x12 x13 hy).fr [] [0] rfl rfl rfl)) (fun x13 hy h=>?_)
  refine TL.le (τ := Qhy p0 v4 x9 x10 x13 (wr (v6+1))) ?_ ((iQd6 x13 (wr (v6+1)) _ h))
  exact Le.tz 0 3 rfl rfl rfl
 ·exact JP1.a h (Le.tz 0 3 rfl rfl rfl)
theorem Qv4:∀ (p0:(List Qab)) (v4:Int) (x9:(List (List UInt8))) (x10:(List (List UInt8))) (v3_:(List (List UInt8))) (v6:Int) (o11:(List (List UInt8))),Qd6 p0 v4 x9 x10 v3_ v6=some o11→TL (0,0) Tryz.prog 53 Qpu (JP1 (0,0) 53 o11 (.exit 2) (Qkv p0 v4 x9 x10)) (Qhy p0 v4 x9 x10 v3_ v6):=fun p0 v4 x9 x10 v3_ v6=>(Que p0 v4 x9 x10) v3_ v6
mutual
noncomputable def Qc5 (p0:(List Qab)):Option ((List (List UInt8))) :=
 (Qey p0 [] 0)>>=fun o1 =>
 some o1
 partial_fixpoint
noncomputable def Qey (p0:(List Qab)) (v3:(List (List UInt8))) (v4:Int):Option ((List (List UInt8))) :=
 if(decide (v4<(p0.length:Int))) then
  ( idx p0 v4>>=fun x3 =>
   if(x3.Kind==13) then
    idx p0 v4>>=fun x4 =>
    Ql2 v3 x4.Name>>=fun x5 =>
    some x5
   else
    some v3:Option ((List (List UInt8))))>>=fun o2 =>
  idx p0 v4>>=fun x6 =>
  Qc5 x6.Then>>=fun x7 =>
  idx p0 v4>>=fun x8 =>
  Qc5 x8.Else>>=fun x9 =>
  appL 16 x7 x9>>=fun x10 =>
  (Qd6 p0 v4 x9 x10 o2 0)>>=fun o11 =>
  Qey p0 o11 (wr (v4+1))
 else
  some v3
 partial_fixpoint
end
theorem Q1d:(∀ (p0:(List Qab)) (o:(List (List UInt8))),Qc5 p0=some o→CallOK Tryz.prog 45 [.p (.sl false (p0.map Qaa))] ⟨[],[]⟩ (Qqx o) ⟨[],[(o.map cStr).length]⟩)∧(∀ (p0:(List Qab)) (v3:(List (List UInt8))) (v4:Int) (o1:(List (List UInt8))),Qey p0 v3 v4=some o1→TL (0,0) Tryz.prog 53 Qym (JP1 (0,0) 53 o1 (.exit 0) (Qon p0)) (Qkw p0 v3 v4)):=by
 refine Qc5.mutual_partial_correctness _ _ ?_ ?_
 ·intro Qey' iQey p0 o h
  refine CallOK.ofBN mixed tbOk Qo0 Tryz.func45 rfl (by kernel_rfl) (Nat.le_of_ble_eq_true rfl) rfl rfl (Nat.le_of_ble_eq_true rfl) ?_
  refine Qag h (fun o1 ho hk=>?_)
  refine Exists.intro (JP1 _ _ o1 (.exit 0) (Qon p0)) (And.intro (T_le (τ := Qkw p0 [] 0) ?_ (TL.loop (iQey p0 [] 0 o1 ho))) (join1 ?_))
  ·exact Le.trans (τ := ⟨[(0,.p (.sl false (p0.map Qaa))),(3,.p (.sl true [])),(4,.p (iV 0))],⟨[],[]⟩⟩) (Le.tz 0 0 rfl rfl rfl) ((Le.own 3 9 1 rfl sizeNil).trans (Le.tz 0 1 rfl rfl rfl))
  have h:=hk
  refine Exists.intro _ (And.intro (Le.refl _ _ _) ?_)
  exact Qtg (t:=Qqx) (ss:=fun o=>⟨[],[(o.map cStr).length]⟩) h ⟨[],[0],rfl,rfl,.refl _,.refl _,rfl,rfl⟩
 ·intro Qc5' Qey' iQc5 iQey p0 v3 v4 o1 h
  refine TL.round (Qaj mixed tbOk (lv:=Qo0) _ _ _ ?_)
  refine view (lenMap _ _) rfl ?_
  refine Qae h (fun hb h=>?_) (fun hb h=>?_)
  ·refine Qag h (fun o2 ho hk=>?_)
   refine Exists.intro (JP1 _ _ o2 .normal (Qyl p0 v4)) (And.intro ?_ (join1 ?_))
   ·have h:=ho
    refine Qa6 (l:=p0) (c:=Qaa) (c' := Qa4) h Qam (fun _=>rfl) (by decide) (fun x3 hi h=>?_)
    refine Qae h (fun hb h=>?_) (fun hb h=>?_)
    ·refine Qa6 (l:=p0) (c:=Qaa) (c' := Qa4) h Qam (fun _=>rfl) (by decide) (fun x4 hi h=>?_)
     refine Or.inr ?_
     refine Qxx _ _ h (fun x5 hy=>((Qo4 v3 x4.Name x5 hy).fr [] [0] rfl rfl rfl)) (fun x5 hy h=>?_)
     refine JP1.a h ?_
     exact Le.tz 0 1 rfl rfl rfl
    ·refine JP1.a h ?_
     exact Le.tz 0 1 rfl rfl rfl
   ·have h:=hk
    refine And.intro (by decide +kernel) (And.intro rfl ?_)
    refine Qa6 (l:=p0) (c:=Qaa) (c' := Qa4) h Qam (fun _=>rfl) (by decide) (fun x6 hi h=>?_)
    refine Qxu _ _ h (fun x7 hy=>((iQc5 x6.Then x7 hy).ft rfl [] rfl rfl rfl)) (fun x7 hy h=>?_)
    refine Qa6 (l:=p0) (c:=Qaa) (c' := Qa4) h Qam (fun _=>rfl) (by decide) (fun x8 hi h=>?_)
    refine Qxu _ _ h (fun x9 hy=>((iQc5 x8.Else x9 hy).ft rfl [] rfl rfl rfl)) (fun x9 hy h=>?_)
    refine Qls (a:=x7) (b:=x9) (c:=cStr) h (.refl _) (fun _=>rfl) rfl (fun x10 hi h=>?_)
    refine Qag h (fun o11 ho hk=>?_)
    refine Exists.intro (JP1 _ _ o11 (.exit 2) (Qkv p0 v4 x9 x10)) (And.intro (T_le (τ := Qhy p0 v4 x9 x10 o2 0) ?_ (TL.loop (Qv4 p0 v4 x9 x10 o2 0 o11 ho))) (join1 ?_))
    ·exact Le.tz 0 3 rfl rfl rfl
    have h:=hk
    refine TL.le (τ := Qkw p0 o11 (wr (v4+1))) ?_ ((iQey p0 o11 (wr (v4+1)) _ h))
    exact Le.tz 0 1 rfl rfl rfl
  ·exact JP1.a h (Le.tz 0 1 rfl rfl rfl)
theorem Qo5:∀ (p0:(List Qab)) (o:(List (List UInt8))),Qc5 p0=some o→CallOK Tryz.prog 45 [.p (.sl false (p0.map Qaa))] ⟨[],[]⟩ (Qqx o) ⟨[],[(o.map cStr).length]⟩:=fun p0=>Q1d.1 p0
noncomputable def Qdx (p0:(List Qac)) (v7:Int):Option (Unit⊕(List UInt8)) :=
 if(decide (v7<(p0.length:Int))) then
  idx p0 v7>>=fun x17 =>
  Qc5 x17.L>>=fun x18 =>
  (Qdw p0 v7 x18 0)>>=fun o19 =>
  match o19 with
  | .inl y20 =>
   Qdx p0 (wr (v7+1))
  | .inr y21 =>
   some (.inr y21)
 else
  some (.inl ())
 partial_fixpoint
theorem Qr4:∀ (p0:(List Qac)),(∀ (v7:Int) (o14:Unit⊕(List UInt8)),Qdx p0 v7=some o14→TL (0,0) Tryz.prog 119 Qol (JP2 (0,0) 119 o14 (.exit 2) (Qjn p0) .ret (Qjo p0)) (Qgf p0 v7)):=by
 intro p0
 refine Qdx.partial_correctness p0 _ ?_
 intro Qdx' iQdx v7 o14 h
 refine TL.round (Qaj mixed tbOk (lv:=Qh7) _ _ _ ?_)
 refine view (lenMap _ _) rfl ?_
 refine Qae h (fun hb h=>?_) (fun hb h=>?_)
 ·refine Qa6 (l:=p0) (c:=Qaf) (c' := Qaf) h (fun _=>rfl) (fun _=>rfl) (by decide) (fun x17 hi h=>?_)
  refine Qc2 _ _ h (fun x18 hy=>((Qo5 x17.L x18 hy).fr [] [] rfl rfl rfl)) (fun x18 hy h=>?_)
  refine Qag h (fun o19 ho hk=>?_)
  refine Exists.intro (JP2 _ _ o19 (.exit 4) (Qjl p0 v7 x18) .ret (Qjm p0 v7 x18)) (And.intro (T_le (τ := Qge p0 v7 x18 0) ?_ (TL.loop (Quc p0 v7 x18 0 o19 ho))) (join2 (fun y20 hy=>?_) (fun y21 hy=>?_)))
  ·exact Le.tz 0 1 rfl rfl rfl
  ·have h:=(by rw[hy] at hk; exact hk)
   refine TL.le (τ := Qgf p0 (wr (v7+1))) ?_ ((iQdx (wr (v7+1)) _ h))
   exact Le.tz 0 0 rfl rfl rfl
  ·have h:=(by rw[hy] at hk; exact hk)
   exact JP2.b h (Le.tz 0 0 rfl rfl rfl)
 ·exact JP2.a h (Le.tz 0 0 rfl rfl rfl)
theorem Quf:∀ (p0:(List Qac)) (v7:Int) (o14:Unit⊕(List UInt8)),Qdx p0 v7=some o14→TL (0,0) Tryz.prog 119 Qol (JP2 (0,0) 119 o14 (.exit 2) (Qjn p0) .ret (Qjo p0)) (Qgf p0 v7):=fun p0 v7=>(Qr4 p0) v7
noncomputable def Qdy (p0:(List Qac)) (v7:(List (List UInt8))) (v8:Int) (v10:Int) (x7:(List (List UInt8))) (v7__:(List (List UInt8))) (v14:Int):Option ((List (List UInt8))) :=
 if(decide (v14<(x7.length:Int))) then
  idx x7 v14>>=fun x9 =>
  Ql2 v7__ x9>>=fun x10 =>
  Qdy p0 v7 v8 v10 x7 x10 (wr (v14+1))
 else
  some v7__
 partial_fixpoint
theorem Qr5:∀ (p0:(List Qac)) (v7:(List (List UInt8))) (v8:Int) (v10:Int) (x7:(List (List UInt8))),(∀ (v7__:(List (List UInt8))) (v14:Int) (o8:(List (List UInt8))),Qdy p0 v7 v8 v10 x7 v7__ v14=some o8→TL (0,0) Tryz.prog 60 Qoo (JP1 (0,0) 60 o8 (.exit 4) (Qjr p0 v7 v8 v10 x7)) (Qgh p0 v7 v8 v10 x7 v7__ v14)):=by
 intro p0 v7 v8 v10 x7
 refine Qdy.partial_correctness p0 v7 v8 v10 x7 _ ?_
 intro Qdy' iQdy v7__ v14 o8 h
 refine TL.round (Qaj mixed tbOk (lv:=Qkc) _ _ _ ?_)
 refine view (lenMap _ _) rfl ?_
 refine Qae h (fun hb h=>?_) (fun hb h=>?_)
 ·refine Qa6 (l:=x7) (c:=cStr) (c' := cStr) h (fun _=>rfl) (fun _=>rfl) (by decide) (fun x9 hi h=>?_)
  refine Or.inr ?_
  refine Qxx _ _ h (fun x10 hy=>((Qo4 v7__ x9 x10 hy).fr [] [0] rfl rfl rfl)) (fun x10 hy h=>?_)
  refine TL.le (τ := Qgh p0 v7 v8 v10 x7 x10 (wr (v14+1))) ?_ ((iQdy x10 (wr (v14+1)) _ h))
  exact Le.tz 0 2 rfl rfl rfl
 ·exact JP1.a h (Le.tz 0 2 rfl rfl rfl)
theorem Qug:∀ (p0:(List Qac)) (v7:(List (List UInt8))) (v8:Int) (v10:Int) (x7:(List (List UInt8))) (v7__:(List (List UInt8))) (v14:Int) (o8:(List (List UInt8))),Qdy p0 v7 v8 v10 x7 v7__ v14=some o8→TL (0,0) Tryz.prog 60 Qoo (JP1 (0,0) 60 o8 (.exit 4) (Qjr p0 v7 v8 v10 x7)) (Qgh p0 v7 v8 v10 x7 v7__ v14):=fun p0 v7 v8 v10 x7 v7__ v14=>(Qr5 p0 v7 v8 v10 x7) v7__ v14
noncomputable def Qdz (p0:(List Qac)) (v7:(List (List UInt8))) (v8:Int) (v7_:(List (List UInt8))) (v10:Int):Option ((List (List UInt8))) :=
 if(decide (v10<(v7.length:Int))) then
  idx v7 v10>>=fun x5 =>
  Qkf p0 x5>>=fun x6 =>
  Qc5 x6.1>>=fun x7 =>
  (Qdy p0 v7 v8 v10 x7 v7_ 0)>>=fun o8 =>
  Qdz p0 v7 v8 o8 (wr (v10+1))
 else
  some v7_
 partial_fixpoint
theorem Qr6:∀ (p0:(List Qac)) (v7:(List (List UInt8))) (v8:Int),(∀ (v7_:(List (List UInt8))) (v10:Int) (o4:(List (List UInt8))),Qdz p0 v7 v8 v7_ v10=some o4→TL (0,0) Tryz.prog 60 Qop (JP1 (0,0) 60 o4 (.exit 2) (Qjs p0 v7 v8)) (Qgi p0 v7 v8 v7_ v10)):=by
 intro p0 v7 v8
 refine Qdz.partial_correctness p0 v7 v8 _ ?_
 intro Qdz' iQdz v7_ v10 o4 h
 refine TL.round (Qaj mixed tbOk (lv:=Qkc) _ _ _ ?_)
 refine view (lenMap _ _) rfl ?_
 refine Qae h (fun hb h=>?_) (fun hb h=>?_)
 ·refine Qa6 (l:=v7) (c:=cStr) (c' := cStr) h (fun _=>rfl) (fun _=>rfl) (by decide) (fun x5 hi h=>?_)
  refine Qah [.sl false (p0.map Qaf),sV x5] Qhb h (fun x6 hy=>(Ql1 p0 x5 x6 hy)) (fun x6 hy h=>?_)
  refine Qc2 _ _ h (fun x7 hy=>((Qo5 x6.1 x7 hy).fr [] [] rfl rfl rfl)) (fun x7 hy h=>?_)
  refine Qag h (fun o8 ho hk=>?_)
  refine Exists.intro (JP1 _ _ o8 (.exit 4) (Qjr p0 v7 v8 v10 x7)) (And.intro (T_le (τ := Qgh p0 v7 v8 v10 x7 v7_ 0) ?_ (TL.loop (Qug p0 v7 v8 v10 x7 v7_ 0 o8 ho))) (join1 ?_))
  ·exact Le.tz 0 2 rfl rfl rfl
  have h:=hk
  refine TL.le (τ := Qgi p0 v7 v8 o8 (wr (v10+1))) ?_ ((iQdz o8 (wr (v10+1)) _ h))
  exact Le.tz 0 1 rfl rfl rfl
 ·exact JP1.a h (Le.tz 0 1 rfl rfl rfl)
theorem Quh:∀ (p0:(List Qac)) (v7:(List (List UInt8))) (v8:Int) (v7_:(List (List UInt8))) (v10:Int) (o4:(List (List UInt8))),Qdz p0 v7 v8 v7_ v10=some o4→TL (0,0) Tryz.prog 60 Qop (JP1 (0,0) 60 o4 (.exit 2) (Qjs p0 v7 v8)) (Qgi p0 v7 v8 v7_ v10):=fun p0 v7 v8 v7_ v10=>(Qr6 p0 v7 v8) v7_ v10
noncomputable def Qd0 (p0:(List Qac)) (v7:(List (List UInt8))) (v8:Int):Option ((List (List UInt8))) :=
 if(decide (v8<(p0.length:Int))) then
  (Qdz p0 v7 v8 v7 0)>>=fun o4 =>
  Qd0 p0 o4 (wr (v8+1))
 else
  some v7
 partial_fixpoint
theorem Qr7:∀ (p0:(List Qac)),(∀ (v7:(List (List UInt8))) (v8:Int) (o3:(List (List UInt8))),Qd0 p0 v7 v8=some o3→TL (0,0) Tryz.prog 60 Qoq (JP1 (0,0) 60 o3 (.exit 0) (Qjt p0)) (Qgj p0 v7 v8)):=by
 intro p0
 refine Qd0.partial_correctness p0 _ ?_
 intro Qd0' iQd0 v7 v8 o3 h
 refine TL.round (Qaj mixed tbOk (lv:=Qkc) _ _ _ ?_)
 refine view (lenMap _ _) rfl ?_
 refine Qae h (fun hb h=>?_) (fun hb h=>?_)
 ·refine Qag h (fun o4 ho hk=>?_)
  refine Exists.intro (JP1 _ _ o4 (.exit 2) (Qjs p0 v7 v8)) (And.intro (T_le (τ := Qgi p0 v7 v8 v7 0) ?_ (TL.loop (Quh p0 v7 v8 v7 0 o4 ho))) (join1 ?_))
  ·exact Le.tow 0 1 rfl (.cons rfl (.refl _) (.cons rfl (.refl _) (.cons rfl (.refl _) (.cons rfl (.drop rfl (.refl _)) (.cons rfl (.refl _) (.nil)))))) (.refl _) rfl
  have h:=hk
  refine TL.le (τ := Qgj p0 o4 (wr (v8+1))) ?_ ((iQd0 o4 (wr (v8+1)) _ h))
  exact Le.tz 0 1 rfl rfl rfl
 ·exact JP1.a h (Le.tz 0 1 rfl rfl rfl)
theorem Qui:∀ (p0:(List Qac)) (v7:(List (List UInt8))) (v8:Int) (o3:(List (List UInt8))),Qd0 p0 v7 v8=some o3→TL (0,0) Tryz.prog 60 Qoq (JP1 (0,0) 60 o3 (.exit 0) (Qjt p0)) (Qgj p0 v7 v8):=fun p0 v7 v8=>(Qr7 p0) v7 v8
noncomputable def Qnl (p0:(List Qac)) (p1:(List UInt8)):Option ((List (List UInt8))) :=
 Qkf p0 p1>>=fun x1 =>
 Qc5 x1.1>>=fun x2 =>
 (Qd0 p0 x2 0)>>=fun o3 =>
 some o3
theorem Q1e:∀ (p0:(List Qac)) (p1:(List UInt8)) (o:(List (List UInt8))),Qnl p0 p1=some o→CallOK Tryz.prog 46 [.p (.sl false (p0.map Qaf)),.p (sV p1)] ⟨[],[]⟩ (Qtp o) ⟨[],[(o.map cStr).length]⟩:=by
 intro p0 p1 o h
 unfold Qnl at h
 refine CallOK.ofBN mixed tbOk Qkc Tryz.func46 rfl (by kernel_rfl) (Nat.le_of_ble_eq_true rfl) rfl rfl (Nat.le_of_ble_eq_true rfl) ?_
 refine Qah [.sl false (p0.map Qaf),sV p1] Qhb h (fun x1 hy=>(Ql1 p0 p1 x1 hy)) (fun x1 hy h=>?_)
 refine Qc2 _ _ h (fun x2 hy=>((Qo5 x1.1 x2 hy).fr [] [] rfl rfl rfl)) (fun x2 hy h=>?_)
 refine Qag h (fun o3 ho hk=>?_)
 refine Exists.intro (JP1 _ _ o3 (.exit 0) (Qjt p0)) (And.intro (T_le (τ := Qgj p0 x2 0) ?_ (TL.loop (Qui p0 x2 0 o3 ho))) (join1 ?_))
 ·exact Le.tz 0 1 rfl rfl rfl
 have h:=hk
 refine Exists.intro _ (And.intro (Le.refl _ _ _) ?_)
 exact Qtg (t:=Qtp) (ss:=fun o=>⟨[],[(o.map cStr).length]⟩) h ⟨[],[0],rfl,rfl,.refl _,.refl _,rfl,rfl⟩
noncomputable def Qd1 (p0:(List Qac)) (v12:Int):Option (Unit⊕(List UInt8)) :=
 if(decide (v12<(p0.length:Int))) then
  idx p0 v12>>=fun x28 =>
  Qnl p0 x28.Name>>=fun x29 =>
  idx p0 v12>>=fun x30 =>
  Qp6 x29 x30.Name>>=fun x31 =>
  if x31 then
   idx p0 v12>>=fun x32 =>
   some (.inr x32.Name)
  else
   Qd1 p0 (wr (v12+1))
 else
  some (.inl ())
 partial_fixpoint
theorem Qr8:∀ (p0:(List Qac)),(∀ (v12:Int) (o25:Unit⊕(List UInt8)),Qd1 p0 v12=some o25→TL (0,0) Tryz.prog 119 Qom (JP2 (0,0) 119 o25 (.exit 6) (Qjp p0) .ret (Qjq p0)) (Qgg p0 v12)):=by
 intro p0
 refine Qd1.partial_correctness p0 _ ?_
 intro Qd1' iQd1 v12 o25 h
 refine TL.round (Qaj mixed tbOk (lv:=Qh7) _ _ _ ?_)
 refine view (lenMap _ _) rfl ?_
 refine Qae h (fun hb h=>?_) (fun hb h=>?_)
 ·refine And.intro (by decide +kernel) (And.intro rfl ?_)
  refine Qa6 (l:=p0) (c:=Qaf) (c' := Qaf) h (fun _=>rfl) (fun _=>rfl) (by decide) (fun x28 hi h=>?_)
  refine Qxu _ _ h (fun x29 hy=>((Q1e p0 x28.Name x29 hy).ft rfl [] rfl rfl rfl)) (fun x29 hy h=>?_)
  refine Qa6 (l:=p0) (c:=Qaf) (c' := Qaf) h (fun _=>rfl) (fun _=>rfl) (by decide) (fun x30 hi h=>?_)
  refine Qe6 [.sl false (x29.map cStr),sV x30.Name] Qpt h (fun x31 hy=>(Q1c x29 x30.Name x31 hy)) (fun x31 hy h=>?_)
  refine Qae h (fun hb h=>?_) (fun hb h=>?_)
  ·refine Qa6 (l:=p0) (c:=Qaf) (c' := Qaf) h (fun _=>rfl) (fun _=>rfl) (by decide) (fun x32 hi h=>?_)
   exact JP2.b h (Le.tz 0 0 rfl rfl rfl)
  ·refine TL.le (τ := Qgg p0 (wr (v12+1))) ?_ ((iQd1 (wr (v12+1)) _ h))
   exact Le.tz 0 0 rfl rfl rfl
 ·exact JP2.a h (Le.tz 0 0 rfl rfl rfl)
theorem Quj:∀ (p0:(List Qac)) (v12:Int) (o25:Unit⊕(List UInt8)),Qd1 p0 v12=some o25→TL (0,0) Tryz.prog 119 Qom (JP2 (0,0) 119 o25 (.exit 6) (Qjp p0) .ret (Qjq p0)) (Qgg p0 v12):=fun p0 v12=>(Qr8 p0) v12
noncomputable def Qnm (p0:(List Qac)):Option ((List UInt8)×Int) :=
 if(decide ((p0.length:Int)>16)) then
  some ([],5)
 else
  (Qdv p0 0)>>=fun o1 =>
  match o1 with
  | .inl y2 =>
   (Qdx p0 0)>>=fun o14 =>
   match o14 with
   | .inl y15 =>
    (Qd1 p0 0)>>=fun o25 =>
    match o25 with
    | .inl y26 =>
     some ([],0)
    | .inr y27 =>
     some (y27,10)
   | .inr y16 =>
    some (y16,4)
  | .inr y3 =>
   some (y3.1,y3.2)
theorem Q1f:∀ (p0:(List Qac)) (o:(List UInt8)×Int),Qnm p0=some o→PCall Tryz.prog 14 [.sl false (p0.map Qaf)] (Qft o):=by
 intro p0 o h
 unfold Qnm at h
 refine PCall.ofB mixed tbOk Qh7 Tryz.func14 rfl (by kernel_rfl) (Nat.le_of_ble_eq_true rfl) ?_
 refine view (lenMap _ _) rfl ?_
 refine Qae h (fun hb h=>?_) (fun hb h=>?_)
 ·refine Qal (t:=Qft) h ?_
  exact .refl _
 ·refine Qag h (fun o1 ho hk=>?_)
  refine Exists.intro (JP2 _ _ o1 (.exit 0) (Qjj p0) .ret (Qjk p0)) (And.intro (T_le (τ := Qgd p0 0) ?_ (TL.loop (Qub p0 0 o1 ho))) (join2 (fun y2 hy=>?_) (fun y3 hy=>?_)))
  ·exact Le.tz 0 0 rfl rfl rfl
  ·have h:=(by rw[hy] at hk; exact hk)
   refine Qag h (fun o14 ho hk=>?_)
   refine Exists.intro (JP2 _ _ o14 (.exit 2) (Qjn p0) .ret (Qjo p0)) (And.intro (T_le (τ := Qgf p0 0) ?_ (TL.loop (Quf p0 0 o14 ho))) (join2 (fun y15 hy=>?_) (fun y16 hy=>?_)))
   ·exact Le.tz 0 0 rfl rfl rfl
   ·have h:=(by rw[hy] at hk; exact hk)
    refine Qag h (fun o25 ho hk=>?_)
    refine Exists.intro (JP2 _ _ o25 (.exit 6) (Qjp p0) .ret (Qjq p0)) (And.intro (T_le (τ := Qgg p0 0) ?_ (TL.loop (Quj p0 0 o25 ho))) (join2 (fun y26 hy=>?_) (fun y27 hy=>?_)))
    ·exact Le.tz 0 0 rfl rfl rfl
    ·have h:=(by rw[hy] at hk; exact hk)
     refine Qal (t:=Qft) h ?_
     exact .refl _
    ·have h:=(by rw[hy] at hk; exact hk)
     refine Qal (t:=Qft) h ?_
     exact .refl _
   ·have h:=(by rw[hy] at hk; exact hk)
    refine Qal (t:=Qft) h ?_
    exact .refl _
  ·have h:=(by rw[hy] at hk; exact hk)
   refine Qal (t:=Qft) h ?_
   exact .refl _
noncomputable def Qlf (p0:(List (List UInt8))) (p1:(List (List UInt8))) (v5:Int):Option (Unit⊕Unit) :=
 if(decide (v5<(p0.length:Int))) then
  idx p0 v5>>=fun x4 =>
  Qp6 p1 x4>>=fun x5 =>
  if(!x5) then
   some (.inr ())
  else
   Qlf p0 p1 (wr (v5+1))
 else
  some (.inl ())
 partial_fixpoint
noncomputable def Qy5 (p0:(List (List UInt8))) (p1:(List (List UInt8))):Option (Bool) :=
 (Qlf p0 p1 0)>>=fun o1 =>
 match o1 with
 | .inl y2 =>
  some true
 | .inr y3 =>
  some false
noncomputable def Qf6 (p0:(List Qac)) (v5:(List (List UInt8))) (v6:(List UInt8)) (v7:Int):Option ((List UInt8)) :=
 if(decide (v7<(p0.length:Int))) then
  idx p0 v7>>=fun x4 =>
  ( Qp6 v5 x4.Name>>=fun x6 =>
   if(!x6) then
    idx p0 v7>>=fun x7 =>
    Qc5 x7.L>>=fun x8 =>
    Qy5 x8 v5>>=fun x9 =>
    if x9 then
     if(v6==[]) then
      some true
     else
      some (Op.bytesLess x4.Name v6)
    else
     some false
   else
    some false:Option (Bool))>>=fun o5 =>
  if o5 then
   Qf6 p0 v5 x4.Name (wr (v7+1))
  else
   Qf6 p0 v5 v6 (wr (v7+1))
 else
  some v6
 partial_fixpoint
noncomputable def Qid (p0:(List Qac)) (v5:(List (List UInt8))):Option ((List (List UInt8))) :=
 if(decide ((v5.length:Int)<(p0.length:Int))) then
  (Qf6 p0 v5 [] 0)>>=fun o3 =>
  appL 16 v5 [o3]>>=fun x10 =>
  Qid p0 x10
 else
  some v5
 partial_fixpoint
noncomputable def Qde (p0:(List Qac)) (p1:(List UInt8)) (v10:Int):Option (Unit⊕(List Qab)) :=
 if(decide (v10<(p0.length:Int))) then
  idx p0 v10>>=fun x4 =>
  if(x4.Name==p1) then
   some (.inr x4.L)
  else
   Qde p0 p1 (wr (v10+1))
 else
  some (.inl ())
 partial_fixpoint
theorem Qq2:∀ (p0:(List Qac)) (p1:(List UInt8)),(∀ (v10:Int) (o1:Unit⊕(List Qab)),Qde p0 p1 v10=some o1→TL (0,0) Tryz.prog 21 Qnc (JP2 (0,0) 21 o1 (.exit 0) (Qii p0 p1) .ret (Qij p0 p1)) (Qfp p0 p1 v10)):=by
 intro p0 p1
 refine Qde.partial_correctness p0 p1 _ ?_
 intro Qde' iQde v10 o1 h
 refine TL.round (Qaj mixed tbOk (lv:=Qpw) _ _ _ ?_)
 refine Qae h (fun hb h=>?_) (fun hb h=>?_)
 ·refine Qa6 (l:=p0) (c:=Qaf) (c' := Qaf) h (fun _=>rfl) (fun _=>rfl) (by decide) (fun x4 hi h=>?_)
  refine Qae h (fun hb h=>?_) (fun hb h=>?_)
  ·exact JP2.b h (Le.tz 0 0 rfl rfl rfl)
  ·refine TL.le (τ := Qfp p0 p1 (wr (v10+1))) ?_ ((iQde (wr (v10+1)) _ h))
   exact Le.tz 0 0 rfl rfl rfl
 ·exact JP2.a h (Le.tz 0 0 rfl rfl rfl)
theorem Qr9:∀ (p0:(List Qac)) (p1:(List UInt8)) (v10:Int) (o1:Unit⊕(List Qab)),Qde p0 p1 v10=some o1→TL (0,0) Tryz.prog 21 Qnc (JP2 (0,0) 21 o1 (.exit 0) (Qii p0 p1) .ret (Qij p0 p1)) (Qfp p0 p1 v10):=fun p0 p1 v10=>(Qq2 p0 p1) v10
noncomputable def Qi8 (p0:(List Qac)) (p1:(List UInt8)):Option ((List Qab)×Bool) :=
 (Qde p0 p1 0)>>=fun o1 =>
 match o1 with
 | .inl y2 =>
  some ([],false)
 | .inr y3 =>
  some (y3,true)
theorem Qp7:∀ (p0:(List Qac)) (p1:(List UInt8)) (o:(List Qab)×Bool),Qi8 p0 p1=some o→PCall Tryz.prog 39 [.sl false (p0.map Qaf),sV p1] (Qh8 o):=by
 intro p0 p1 o h
 unfold Qi8 at h
 refine PCall.ofB mixed tbOk Qpw Tryz.func39 rfl (by kernel_rfl) (Nat.le_of_ble_eq_true rfl) ?_
 refine view (lenMap _ _) rfl ?_
 refine Qag h (fun o1 ho hk=>?_)
 refine Exists.intro (JP2 _ _ o1 (.exit 0) (Qii p0 p1) .ret (Qij p0 p1)) (And.intro (T_le (τ := Qfp p0 p1 0) ?_ (TL.loop (Qr9 p0 p1 0 o1 ho))) (join2 (fun y2 hy=>?_) (fun y3 hy=>?_)))
 ·exact Le.tz 0 0 rfl rfl rfl
 ·have h:=(by rw[hy] at hk; exact hk)
  refine Qal (t:=Qh8) h ?_
  exact .tup (xs:=[.sl true [],bV false]) (ys:=[.sl false [],bV false]) (.cons (.not) (.cons (.refl _) (.nil)))
 ·have h:=(by rw[hy] at hk; exact hk)
  refine Qal (t:=Qh8) h ?_
  exact .refl _
noncomputable def Qdf (x1:(List Qab)×Int) (l4:(List (Qab×Int))) (h0_0:Int):Option (Int) :=
 match l4 with
 | [] =>
  some h0_0
 | x2::r3 =>
  Qdf x1 r3 (wr (h0_0+1))
 partial_fixpoint
theorem Qq3:∀ (x1:(List Qab)×Int),(∀ (l4:(List (Qab×Int))) (h0_0:Int) (o6:Int),Qdf x1 l4 h0_0=some o6→RL 1 0 Tryz.prog 11 (rgP Qdq) (rgA Qdq) (rgB Qdq) (Qc7 x1 h0_0).env (JP1 (0,0) 11 o6 .normal (Qil x1)) (l4.map Qba) (Qc7 x1 h0_0).s):=by
 intro x1
 refine Qdf.partial_correctness x1 _ ?_
 intro Qdf' iQdf l4 h0_0 o6 h
 cases l4 with
 | nil =>
  refine Q3y ?_
  exact JP1.a h (Le.tz 1 0 rfl rfl rfl)
 | cons x2 r3 =>
  refine Qxv (Qaj mixed tbOk (lv:=Qlw) _ _ _ ?_)
  refine And.intro rfl (Qaj mixed tbOk (lv:=Qlw) _ _ _ ?_)
  exact Exists.intro (Qc7 x1 (wr (h0_0+1))).s (And.intro (Le.tz 1 0 rfl rfl rfl) (And.intro rfl (And.intro rfl ((iQdf r3 (wr (h0_0+1)) _ h)))))
theorem Qsa:∀ (x1:(List Qab)×Int) (l4:(List (Qab×Int))) (h0_0:Int) (o6:Int),Qdf x1 l4 h0_0=some o6→RL 1 0 Tryz.prog 11 (rgP Qdq) (rgA Qdq) (rgB Qdq) (Qc7 x1 h0_0).env (JP1 (0,0) 11 o6 .normal (Qil x1)) (l4.map Qba) (Qc7 x1 h0_0).s:=fun x1 l4 h0_0=>(Qq3 x1) l4 h0_0
noncomputable def Qh3 (p0:(List Qab)) (p1:Int):Option ((List Qab)×Int) :=
 some (p0,p1)
theorem Qo6:∀ (p0:(List Qab)) (p1:Int) (o:(List Qab)×Int),Qh3 p0 p1=some o→PCall Tryz.prog 96 [.sl false (p0.map Qaa),iV p1] (Qk9 o):=by
 intro p0 p1 o h
 unfold Qh3 at h
 refine PCall.ofM mixed tbOk Q2w Tryz.func96 rfl (by kernel_rfl) (Nat.le_of_ble_eq_true rfl) ?_
 refine Qal (t:=Qk9) h ?_
 exact .refl _
noncomputable def Qdg (p0:(List Qab)) (p1:Int) (v12:Int) (x3:Qab) (v28:Int) (x7:(List Qab)×Int) (l10:(List (Qab×Int))):Option ((List (Qab×Int))×(Unit)) :=
 match l10 with
 | [] =>
  some ([],())
 | x8::r9 =>
  ( Qdg p0 p1 v12 x3 v28 x7 r9 )>>=fun q=>some (((Qab.mk x8.1.Kind x8.1.Name x8.1.Text x8.1.N x8.1.L x8.1.Then x8.1.Else),x8.2)::q.1,q.2)
 partial_fixpoint
theorem Qq4:∀ (p0:(List Qab)) (p1:Int) (v12:Int) (x3:Qab) (v28:Int) (x7:(List Qab)×Int),(∀ (l10:(List (Qab×Int))) (o13:(List (Qab×Int))×(Unit)),Qdg p0 p1 v12 x3 v28 x7 l10=some o13→∀ (gxs gp gpost gq12:List (List V)),gxs=gp++(o13.1.map Qba++gpost)→gxs=gq12++gpost→RL 2 1 Tryz.prog 44 (rgP Qds) (rgA Qds) (rgB Qds) (Qc8 p0 p1 v12 x3 v28 x7 gxs gp).env (Qs (0,1) 44 gxs (JP1 (0,1) 44 o13.2 .normal (Qim p0 p1 v12 x3 v28 x7 gxs gq12))) (l10.map Qba) (Qc8 p0 p1 v12 x3 v28 x7 gxs gp).s):=by
 intro p0 p1 v12 x3 v28 x7
 refine Qdg.partial_correctness p0 p1 v12 x3 v28 x7 _ ?_
 intro Qdg' iQdg l10 o13 h
 intro gxs gp gpost gq12 hx hq
 cases l10 with
 | nil =>
  refine Q3y ?_
  exact .inl (JP1.a (sndI h) (Le.tz 2 1 rfl rfl (liveQ h hx hq rfl)))
 | cons x8 r9 =>
  refine Qxv (Qaj mixed tbOk (lv:=Qgq) _ _ _ ?_)
  refine And.intro rfl (Qaj mixed tbOk (lv:=Qgq) _ _ _ ?_)
  refine Q52 (c:=Qba) h hx (.refl _) (by exact rfl) (by exact rfl) (fun _ h hx=>?_) ?_
  ·refine bF ?_
   exact Exists.intro (Qc8 p0 p1 v12 x3 v28 x7  gxs (gp++[Qba ((Qab.mk x8.1.Kind x8.1.Name x8.1.Text x8.1.N x8.1.L x8.1.Then x8.1.Else),x8.2)])).s (And.intro (Le.tz 2 1 rfl rfl rfl) (And.intro rfl (And.intro rfl ((iQdg r9 _ h) _ _ _ _ hx hq))))
  ·refine bT ?_
   exact⟨_,(Le.env0 _).trans (Le.tow 2 1 rfl .nil (.refl _) rfl),rfl,rfl,.inr ⟨rfl,Q7g rfl⟩⟩
theorem Qsb:∀ (p0:(List Qab)) (p1:Int) (v12:Int) (x3:Qab) (v28:Int) (x7:(List Qab)×Int) (l10:(List (Qab×Int))) (o13:(List (Qab×Int))×(Unit)),Qdg p0 p1 v12 x3 v28 x7 l10=some o13→∀ (gxs gp gpost gq12:List (List V)),gxs=gp++(o13.1.map Qba++gpost)→gxs=gq12++gpost→RL 2 1 Tryz.prog 44 (rgP Qds) (rgA Qds) (rgB Qds) (Qc8 p0 p1 v12 x3 v28 x7 gxs gp).env (Qs (0,1) 44 gxs (JP1 (0,1) 44 o13.2 .normal (Qim p0 p1 v12 x3 v28 x7 gxs gq12))) (l10.map Qba) (Qc8 p0 p1 v12 x3 v28 x7 gxs gp).s:=fun p0 p1 v12 x3 v28 x7 l10=>(Qq4 p0 p1 v12 x3 v28 x7) l10
mutual
noncomputable def Qec (p0 : (List Qab)) (p1 : Int) : Option ((List (Qab × Int)) × Unit) :=
  ( Qd7 p0 p1 0) >>= fun o2 => (
    some ([], ())) >>= fun q => some (o2.1 ++ q.1, q.2)
  partial_fixpoint
noncomputable def Qd7 (p0 : (List Qab)) (p1 : Int) (v12 : Int) : Option ((List (Qab × Int)) × (Unit)) :=
  if (decide (v12 < (p0.length : Int))) then
    idx p0 v12 >>= fun x3 =>
    ( ( Qbt p0 p1 v12 x3 0) >>= fun o5 => (
        Qd7 p0 p1 (wr (v12 + 1))) >>= fun q => some (o5.1 ++ q.1, q.2)) >>= fun q => some ((x3, p1) :: q.1, q.2)
  else
    some ([], ())
  partial_fixpoint
noncomputable def Qbt (p0 : (List Qab)) (p1 : Int) (v12 : Int) (x3 : Qab) (v28 : Int) : Option ((List (Qab × Int)) × (Unit)) :=
  if (decide (v28 < 3)) then
    idx ([x3.L, x3.Then, x3.Else] : List (List Qab)) v28 >>= fun x6 =>
    Qh3 x6 (wr (p1 + 1)) >>= fun x7 =>
    Qec x7.1 x7.2 >>= fun y11 =>
    ( Qdg p0 p1 v12 x3 v28 x7 y11.1) >>= fun o13 => (
      Qbt p0 p1 v12 x3 (wr (v28 + 1))) >>= fun q => some (o13.1 ++ q.1, q.2)
  else
    some ([], ())
  partial_fixpoint
end
theorem Qv5:(∀ (p0:(List Qab)) (p1:Int) (o:(List (Qab×Int))×Unit),Qec p0 p1=some o→∀ gxs:List (List V),gxs=o.1.map Qba→IterOK Tryz.prog 125 [.ep [.sl false (p0.map Qaa)],.ep [iV p1]] gxs)∧(∀ (p0:(List Qab)) (p1:Int) (v12:Int) (o2:(List (Qab×Int))×(Unit)),Qd7 p0 p1 v12=some o2→∀ (gxs gp gpost gq1:List (List V)),gxs=gp++(o2.1.map Qba++gpost)→gxs=gq1++gpost→TL (0,1) Tryz.prog 44 Qtv (Qs (0,1) 44 gxs (JP1 (0,1) 44 o2.2 (.exit 0) (Qmi p0 p1 gxs gq1))) (Qio p0 p1 v12 gxs gp))∧(∀ (p0:(List Qab)) (p1:Int) (v12:Int) (x3:Qab) (v28:Int) (o5:(List (Qab×Int))×(Unit)),Qbt p0 p1 v12 x3 v28=some o5→∀ (gxs gp gpost gq4:List (List V)),gxs=gp++(o5.1.map Qba++gpost)→gxs=gq4++gpost→TL (0,1) Tryz.prog 44 Qtu (Qs (0,1) 44 gxs (JP1 (0,1) 44 o5.2 (.exit 2) (Qmh p0 p1 v12 x3 gxs gq4))) (Qin p0 p1 v12 x3 v28 gxs gp)):=by
 refine Qec.mutual_partial_correctness _ _ _ ?_ ?_ ?_
 ·intro Qd7' iQd7 p0 p1 o h
  intro gxs hg
  have hx:gxs=[]++(o.1.map Qba++[]):=by simp[hg]
  refine IterOK.ofB mixed tbOk Qgq Tryz.func125 rfl (by kernel_rfl) (Nat.le_of_ble_eq_true rfl) rfl ?_
  refine view (lenMap _ _) rfl ?_
  refine Qsq h hx (fun o2 lgq1 gq1 ho hk hxa hjgq1=>?_)
  refine Exists.intro (Qs _ _ gxs (JP1 _ _ o2.2 (.exit 0) (Qmi p0 p1 gxs gq1))) (And.intro (T_le (τ := Qio p0 p1 0 gxs ([]:List (List V))) ?_ (TL.loop ((iQd7 p0 p1 0 o2 ho) _ _ _ _ hxa hjgq1))) (joinS (join1 ?_) ?_))
  ·exact Le.tz 1 1 rfl rfl rfl
  ·have h:=hk
   have hx:=hjgq1
   exact Q51 h hx (.inl rfl) rfl
  ·exact fun s1 h1 h2 hs=>Q3z (.inr rfl) hs
 ·intro Qd7' Qbt' iQd7 iQbt p0 p1 v12 o2 h
  intro gxs gp gpost gq1 hx hq
  refine TL.round (Qaj mixed tbOk (lv:=Qgq) _ _ _ ?_)
  refine Qae h (fun hb h=>?_) (fun hb h=>?_)
  ·refine Qa6 (l:=p0) (c:=Qaa) (c' := Qa4) h Qam (fun _=>rfl) (by decide) (fun x3 hi h=>?_)
   refine Q52 (c:=Qba) h hx (.refl _) (by exact rfl) (by exact rfl) (fun _ h hx=>?_) ?_
   ·refine bF ?_
    refine Qsq h hx (fun o5 lgq4 gq4 ho hk hxa hjgq4=>?_)
    refine Exists.intro (Qs _ _ gxs (JP1 _ _ o5.2 (.exit 2) (Qmh p0 p1 v12 x3 gxs gq4))) (And.intro (T_le (τ := Qin p0 p1 v12 x3 0 gxs (gp++[Qba (x3,p1)])) ?_ (TL.loop ((iQbt p0 p1 v12 x3 0 o5 ho) _ _ _ _ hxa hjgq4))) (joinS (join1 ?_) ?_))
    ·exact Le.tz 2 1 rfl rfl rfl
    ·have h:=hk
     have hx:=hjgq4
     refine TL.le (τ := Qio p0 p1 (wr (v12+1)) gxs gq4) ?_ ((iQd7 p0 p1 (wr (v12+1)) _ h) _ _ _ _ hx hq)
     exact Le.tz 1 1 rfl rfl rfl
    ·exact fun s1 h1 h2 hs =>.inr ⟨rfl,s1,.refl _ _ _,h1,h2,hs⟩
   ·refine bT ?_
    exact .inr ⟨rfl,_,(Le.env0 _).trans (Le.tow 0 1 rfl .nil (.refl _) rfl),rfl,rfl,rfl⟩
  ·exact .inl (JP1.a (sndI h) (Le.tz 1 1 rfl rfl (liveQ h hx hq rfl)))
 ·intro Qec' Qbt' iQec iQbt p0 p1 v12 x3 v28 o5 h
  intro gxs gp gpost gq4 hx hq
  refine TL.round (Qaj mixed tbOk (lv:=Qgq) _ _ _ ?_)
  refine Qae h (fun hb h=>?_) (fun hb h=>?_)
  ·refine Q8d (l:=([x3.L,x3.Then,x3.Else]:List (List Qab))) (c:=fun x6 =>.sl false (x6.map Qaa)) h rfl rfl rfl rfl (fun x6 hi h=>?_)
   refine Qah [.sl false (x6.map Qaa),iV (wr (p1+1))] Qk9 h (fun x7 hy=>(Qo6 x6 (wr (p1+1)) x7 hy)) (fun x7 hy h=>?_)
   refine Qag h (fun y11 hy11 h=>?_)
   refine Qsq h hx (fun o13 lgq12 gq12 ho hk hxa hjgq12=>?_)
   refine Exists.intro (Qs _ _ gxs (JP1 _ _ o13.2 .normal (Qim p0 p1 v12 x3 v28 x7 gxs gq12))) (And.intro (T_le (τ := Qc8 p0 p1 v12 x3 v28 x7 gxs gp) ?_ (Qxq (g:=125) (cap:=[.ep [.sl false (x7.1.map Qaa)],.ep [iV x7.2]]) rfl ((iQec x7.1 x7.2 y11 hy11) _ rfl) (mapSize fun _=>rfl) rfl (Nat.le_of_ble_eq_true rfl) (Nat.le_of_ble_eq_true rfl) ((Qsb p0 p1 v12 x3 v28 x7 y11.1 o13 ho) _ _ _ _ hxa hjgq12))) (joinS (join1 ?_) ?_))
   ·exact Le.tz 2 1 rfl rfl rfl
   ·have h:=hk
    have hx:=hjgq12
    refine TL.le (τ := Qin p0 p1 v12 x3 (wr (v28+1)) gxs gq12) ?_ ((iQbt p0 p1 v12 x3 (wr (v28+1)) _ h) _ _ _ _ hx hq)
    exact Le.tz 2 1 rfl rfl rfl
   ·exact fun s1 h1 h2 hs =>.inr ⟨rfl,s1,.refl _ _ _,h1,h2,hs⟩
  ·exact .inl (JP1.a (sndI h) (Le.tz 2 1 rfl rfl (liveQ h hx hq rfl)))
theorem Qp8:∀ (p0:(List Qab)) (p1:Int) (o:(List (Qab×Int))×Unit),Qec p0 p1=some o→∀ gxs:List (List V),gxs=o.1.map Qba→IterOK Tryz.prog 125 [.ep [.sl false (p0.map Qaa)],.ep [iV p1]] gxs:=fun p0 p1=>Qv5.1 p0 p1
noncomputable def Qlg (p0:(List Qab)):Option (Int) :=
 Qh3 p0 1>>=fun x1 =>
 Qec x1.1 x1.2>>=fun y5 =>
 (Qdf x1 y5.1 0)>>=fun o6 =>
 some o6
theorem Qy6:∀ (p0:(List Qab)) (o:Int),Qlg p0=some o→PCall Tryz.prog 71 [.sl false (p0.map Qaa)] (Qng o):=by
 intro p0 o h
 unfold Qlg at h
 refine PCall.ofB mixed tbOk Qlw Tryz.func71 rfl (by kernel_rfl) (Nat.le_of_ble_eq_true rfl) ?_
 refine Qah [.sl false (p0.map Qaa),iV 1] Qk9 h (fun x1 hy=>(Qo6 p0 1 x1 hy)) (fun x1 hy h=>?_)
 refine Qag h (fun y5 hy5 h=>?_)
 refine Qag h (fun o6 ho hk=>?_)
 refine Exists.intro (JP1 _ _ o6 .normal (Qil x1)) (And.intro (T_le (τ := Qc7 x1 0) ?_ (Qxq (g:=125) (cap:=[.ep [.sl false (x1.1.map Qaa)],.ep [iV x1.2]]) rfl ((Qp8 x1.1 x1.2 y5 hy5) _ rfl) (mapSize fun _=>rfl) rfl (Nat.le_of_ble_eq_true rfl) (Nat.le_of_ble_eq_true rfl) (Qsa x1 y5.1 0 o6 ho))) (join1 ?_))
 ·exact Le.tz 1 0 rfl rfl rfl
 have h:=hk
 refine Qal (t:=Qng) h ?_
 exact .refl _
noncomputable def Qd2 (x1:(List Qab)×Int) (l4:(List (Qab×Int))) (h0_0:Int):Option (Int) :=
 match l4 with
 | [] =>
  some h0_0
 | x2::r3 =>
  Qd2 x1 r3 (if x2.2>h0_0 then x2.2 else h0_0)
 partial_fixpoint
theorem Qsc:∀ (x1:(List Qab)×Int),(∀ (l4:(List (Qab×Int))) (h0_0:Int) (o6:Int),Qd2 x1 l4 h0_0=some o6→RL 1 0 Tryz.prog 14 (rgP Qeb) (rgA Qeb) (rgB Qeb) (Qdr x1 h0_0).env (JP1 (0,0) 14 o6 .normal (Qjx x1)) (l4.map Qba) (Qdr x1 h0_0).s):=by
 intro x1
 refine Qd2.partial_correctness x1 _ ?_
 intro Qd2' iQd2 l4 h0_0 o6 h
 cases l4 with
 | nil =>
  refine Q3y ?_
  exact JP1.a h (Le.tz 1 0 rfl rfl rfl)
 | cons x2 r3 =>
  refine Qxv (Qaj mixed tbOk (lv:=Qnh) _ _ _ ?_)
  refine And.intro rfl (Qaj mixed tbOk (lv:=Qnh) _ _ _ ?_)
  exact Exists.intro (Qdr x1 (if x2.2>h0_0 then x2.2 else h0_0)).s (And.intro (Le.tz 1 0 rfl rfl rfl) (And.intro rfl (And.intro rfl ((iQd2 r3 (if x2.2>h0_0 then x2.2 else h0_0) _ h)))))
theorem Quk:∀ (x1:(List Qab)×Int) (l4:(List (Qab×Int))) (h0_0:Int) (o6:Int),Qd2 x1 l4 h0_0=some o6→RL 1 0 Tryz.prog 14 (rgP Qeb) (rgA Qeb) (rgB Qeb) (Qdr x1 h0_0).env (JP1 (0,0) 14 o6 .normal (Qjx x1)) (l4.map Qba) (Qdr x1 h0_0).s:=fun x1 l4 h0_0=>(Qsc x1) l4 h0_0
noncomputable def Qnn (p0:(List Qab)):Option (Int) :=
 Qh3 p0 1>>=fun x1 =>
 Qec x1.1 x1.2>>=fun y5 =>
 (Qd2 x1 y5.1 0)>>=fun o6 =>
 some o6
theorem Q1g:∀ (p0:(List Qab)) (o:Int),Qnn p0=some o→PCall Tryz.prog 70 [.sl false (p0.map Qaa)] (Qo2 o):=by
 intro p0 o h
 unfold Qnn at h
 refine PCall.ofB mixed tbOk Qnh Tryz.func70 rfl (by kernel_rfl) (Nat.le_of_ble_eq_true rfl) ?_
 refine Qah [.sl false (p0.map Qaa),iV 1] Qk9 h (fun x1 hy=>(Qo6 p0 1 x1 hy)) (fun x1 hy h=>?_)
 refine Qag h (fun y5 hy5 h=>?_)
 refine Qag h (fun o6 ho hk=>?_)
 refine Exists.intro (JP1 _ _ o6 .normal (Qjx x1)) (And.intro (T_le (τ := Qdr x1 0) ?_ (Qxq (g:=125) (cap:=[.ep [.sl false (x1.1.map Qaa)],.ep [iV x1.2]]) rfl ((Qp8 x1.1 x1.2 y5 hy5) _ rfl) (mapSize fun _=>rfl) rfl (Nat.le_of_ble_eq_true rfl) (Nat.le_of_ble_eq_true rfl) (Quk x1 y5.1 0 o6 ho))) (join1 ?_))
 ·exact Le.tz 1 0 rfl rfl rfl
 have h:=hk
 refine Qal (t:=Qo2) h ?_
 exact .refl _
noncomputable def Qbq (p0:(List UInt8)) (p1:(List UInt8)):Option (Bool) :=
 ( if(decide ((p0.length:Int) ≥ (p1.length:Int))) then
   cutL p0 (wr ((p0.length:Int)-(p1.length:Int))) (p0.length:Int)>>=fun x2 =>
   some (x2==p1)
  else
   some false:Option (Bool))>>=fun o1 =>
 some o1
theorem Qgv:∀ (p0:(List UInt8)) (p1:(List UInt8)) (o:Bool),Qbq p0 p1=some o→PCall Tryz.prog 129 [sV p0,sV p1] (Qby o):=by
 intro p0 p1 o h
 unfold Qbq at h
 refine PCall.ofB mixed tbOk Qgn Tryz.func129 rfl (by kernel_rfl) (Nat.le_of_ble_eq_true rfl) ?_
 refine Qag h (fun o1 ho hk=>?_)
 refine Exists.intro (JP1 _ _ o1 .normal (Qfu )) (And.intro ?_ (join1 ?_))
 ·have h:=ho
  refine vrfl ?_
  refine vrfl ?_
  refine Qae h (fun hb h=>?_) (fun hb h=>?_)
  ·refine vrfl ?_
   refine vrfl ?_
   refine Qmy (some (wr ((p0.length:Int)-(p1.length:Int)))) none h (fun x2 hi h=>?_)
   refine JP1.a h ?_
   exact Le.tz 0 0 rfl rfl rfl
  ·refine JP1.a h ?_
   exact Le.tz 0 0 rfl rfl rfl
 ·have h:=hk
  refine Qal (t:=Qby) h ?_
  exact .refl _
noncomputable def strings_HasSuffix (p0:(List UInt8)) (p1:(List UInt8)):Option (Bool) :=
 Qbq p0 p1>>=fun x1 =>
 some x1
theorem Qdm:∀ (p0:(List UInt8)) (p1:(List UInt8)) (o:Bool),strings_HasSuffix p0 p1=some o→PCall Tryz.prog 98 [sV p0,sV p1] (Qb6 o):=by
 intro p0 p1 o h
 unfold strings_HasSuffix at h
 refine PCall.ofB mixed tbOk Qoa Tryz.func98 rfl (by kernel_rfl) (Nat.le_of_ble_eq_true rfl) ?_
 refine Qah [sV p0,sV p1] Qby h (fun x1 hy=>(Qgv p0 p1 x1 hy)) (fun x1 hy h=>?_)
 refine Qal (t:=Qb6) h ?_
 exact .refl _
noncomputable def Qb1 (p0:(List UInt8)) (p1:(List UInt8)):Option (Int) :=
 need (p0.length<4294967281)>>=fun _ =>
 some (Lib.index p0 p1)
theorem Qiq:∀ (p0:(List UInt8)) (p1:(List UInt8)) (o:Int),Qb1 p0 p1=some o→PCall Tryz.prog 167 [sV p0,sV p1] (Qei o):=by
 intro p0 p1 o h
 unfold Qb1 at h
 obtain⟨h1,h⟩:=Q55 h
 cases h
 exact Q7j _ _ h1
noncomputable def strings_Index (p0:(List UInt8)) (p1:(List UInt8)):Option (Int) :=
 Qb1 p0 p1>>=fun x1 =>
 some x1
theorem Qsd:∀ (p0:(List UInt8)) (p1:(List UInt8)) (o:Int),strings_Index p0 p1=some o→PCall Tryz.prog 153 [sV p0,sV p1] (Qjw o):=by
 intro p0 p1 o h
 unfold strings_Index at h
 refine PCall.ofB mixed tbOk Qrz Tryz.func153 rfl (by kernel_rfl) (Nat.le_of_ble_eq_true rfl) ?_
 refine Qah [sV p0,sV p1] Qei h (fun x1 hy=>(Qiq p0 p1 x1 hy)) (fun x1 hy h=>?_)
 refine Qal (t:=Qjw) h ?_
 exact .refl _
noncomputable def strings_Contains (p0:(List UInt8)) (p1:(List UInt8)):Option (Bool) :=
 strings_Index p0 p1>>=fun x1 =>
 some (decide (x1 ≥ 0))
theorem Qo7:∀ (p0:(List UInt8)) (p1:(List UInt8)) (o:Bool),strings_Contains p0 p1=some o→PCall Tryz.prog 127 [sV p0,sV p1] (Qgp o):=by
 intro p0 p1 o h
 unfold strings_Contains at h
 refine PCall.ofB mixed tbOk Qo1 Tryz.func127 rfl (by kernel_rfl) (Nat.le_of_ble_eq_true rfl) ?_
 refine Qah [sV p0,sV p1] Qjw h (fun x1 hy=>(Qsd p0 p1 x1 hy)) (fun x1 hy h=>?_)
 refine Qal (t:=Qgp) h ?_
 exact .refl _
noncomputable def Qlh (p0:Int):Option (Bool) :=
 ( if(decide (p0 ≥ 48)) then
   some (decide (p0≤57))
  else
   some false:Option (Bool))>>=fun o1 =>
 some o1
theorem Qrs:∀ (p0:Int) (o:Bool),Qlh p0=some o→PCall Tryz.prog 124 [nV .u8 p0] (Qlv o):=by
 intro p0 o h
 unfold Qlh at h
 refine PCall.ofB mixed tbOk Q0u Tryz.func124 rfl (by kernel_rfl) (Nat.le_of_ble_eq_true rfl) ?_
 refine Qag h (fun o1 ho hk=>?_)
 refine Exists.intro (JP1 _ _ o1 .normal (Qvi )) (And.intro ?_ (join1 ?_))
 ·have h:=ho
  refine Qae h (fun hb h=>?_) (fun hb h=>?_)
  ·refine JP1.a h ?_
   exact Le.tz 0 0 rfl rfl rfl
  ·refine JP1.a h ?_
   exact Le.tz 0 0 rfl rfl rfl
 ·have h:=hk
  refine Qal (t:=Qlv) h ?_
  exact .refl _
noncomputable def Qli (p0:Int):Option (Bool) :=
 ( if(decide (p0 ≥ 97)) then
   if(decide (p0≤122)) then
    some true
   else
    Qlh p0>>=fun x2 =>
    if x2 then
     some true
    else
     some (p0==95)
  else
   Qlh p0>>=fun x3 =>
   if x3 then
    some true
   else
    some (p0==95):Option (Bool))>>=fun o1 =>
 some o1
theorem Qy7:∀ (p0:Int) (o:Bool),Qli p0=some o→PCall Tryz.prog 95 [nV .u8 p0] (Qnf o):=by
 intro p0 o h
 unfold Qli at h
 refine PCall.ofB mixed tbOk Qyq Tryz.func95 rfl (by kernel_rfl) (Nat.le_of_ble_eq_true rfl) ?_
 refine Qag h (fun o1 ho hk=>?_)
 refine Exists.intro (JP1 _ _ o1 .normal (Qts )) (And.intro ?_ (join1 ?_))
 ·have h:=ho
  refine Qae h (fun hb h=>?_) (fun hb h=>?_)
  ·refine Qae h (fun hb h=>?_) (fun hb h=>?_)
   ·refine bT ?_
    refine JP1.a h ?_
    exact Le.tz 0 0 rfl rfl rfl
   ·refine Qah [nV .u8 p0] Qlv h (fun x2 hy=>(Qrs p0 x2 hy)) (fun x2 hy h=>?_)
    refine Qae h (fun hb h=>?_) (fun hb h=>?_)
    ·refine JP1.a h ?_
     exact Le.tz 0 0 rfl rfl rfl
    ·refine JP1.a h ?_
     exact Le.tz 0 0 rfl rfl rfl
  ·refine bF ?_
   refine Qah [nV .u8 p0] Qlv h (fun x3 hy=>(Qrs p0 x3 hy)) (fun x3 hy h=>?_)
   refine Qae h (fun hb h=>?_) (fun hb h=>?_)
   ·refine JP1.a h ?_
    exact Le.tz 0 0 rfl rfl rfl
   ·refine JP1.a h ?_
    exact Le.tz 0 0 rfl rfl rfl
 ·have h:=hk
  refine Qal (t:=Qnf) h ?_
  exact .refl _
noncomputable def Qez (p0:(List UInt8)) (v6:Int):Option (Unit⊕Unit) :=
 if(decide (v6<(p0.length:Int))) then
  idx p0 v6>>=fun x4 =>
  Qli (x4.toNat:Int)>>=fun x5 =>
  if(!x5) then
   some (.inr ())
  else
   Qez p0 (wr (v6+1))
 else
  some (.inl ())
 partial_fixpoint
theorem Qul:∀ (p0:(List UInt8)),(∀ (v6:Int) (o1:Unit⊕Unit),Qez p0 v6=some o1→TL (0,0) Tryz.prog 27 Qpz (JP2 (0,0) 27 o1 (.exit 0) (Qk0 p0) .ret (Qk1 p0)) (Qh0 p0 v6)):=by
 intro p0
 refine Qez.partial_correctness p0 _ ?_
 intro Qez' iQez v6 o1 h
 refine TL.round (Qaj mixed tbOk (lv:=Qtr) _ _ _ ?_)
 refine Qae h (fun hb h=>?_) (fun hb h=>?_)
 ·refine Qfg h (fun x4 hi h=>?_)
  refine Qah [nV .u8 (x4.toNat:Int)] Qnf h (fun x5 hy=>(Qy7 (x4.toNat:Int) x5 hy)) (fun x5 hy h=>?_)
  refine Qae h (fun hb h=>?_) (fun hb h=>?_)
  ·exact JP2.b h (Le.tz 0 0 rfl rfl rfl)
  ·refine TL.le (τ := Qh0 p0 (wr (v6+1))) ?_ ((iQez (wr (v6+1)) _ h))
   exact Le.tz 0 0 rfl rfl rfl
 ·exact JP2.a h (Le.tz 0 0 rfl rfl rfl)
theorem Qv6:∀ (p0:(List UInt8)) (v6:Int) (o1:Unit⊕Unit),Qez p0 v6=some o1→TL (0,0) Tryz.prog 27 Qpz (JP2 (0,0) 27 o1 (.exit 0) (Qk0 p0) .ret (Qk1 p0)) (Qh0 p0 v6):=fun p0 v6=>(Qul p0) v6
noncomputable def Ql3 (p0:(List UInt8)):Option (Bool) :=
 (Qez p0 0)>>=fun o1 =>
 match o1 with
 | .inl y2 =>
  ( if(!(p0==[])) then
    if(decide ((p0.length:Int)≤32)) then
     idx p0 0>>=fun x7 =>
     some (decide ((x7.toNat:Int) ≥ 97))
    else
     some false
   else
    some false:Option (Bool))>>=fun o6 =>
  some o6
 | .inr y3 =>
  some false
theorem Qo8:∀ (p0:(List UInt8)) (o:Bool),Ql3 p0=some o→PCall Tryz.prog 69 [sV p0] (Qi6 o):=by
 intro p0 o h
 unfold Ql3 at h
 refine PCall.ofB mixed tbOk Qtr Tryz.func69 rfl (by kernel_rfl) (Nat.le_of_ble_eq_true rfl) ?_
 refine vrfl ?_
 refine Qag h (fun o1 ho hk=>?_)
 refine Exists.intro (JP2 _ _ o1 (.exit 0) (Qk0 p0) .ret (Qk1 p0)) (And.intro (T_le (τ := Qh0 p0 0) ?_ (TL.loop (Qv6 p0 0 o1 ho))) (join2 (fun y2 hy=>?_) (fun y3 hy=>?_)))
 ·exact Le.tz 0 0 rfl rfl rfl
 ·have h:=(by rw[hy] at hk; exact hk)
  refine Qag h (fun o6 ho hk=>?_)
  refine Exists.intro (JP1 _ _ o6 .normal (Qyp )) (And.intro ?_ (join1 ?_))
  ·have h:=ho
   refine Qae h (fun hb h=>?_) (fun hb h=>?_)
   ·refine vrfl ?_
    refine Qae h (fun hb h=>?_) (fun hb h=>?_)
    ·refine Qfg h (fun x7 hi h=>?_)
     refine JP1.a h ?_
     exact Le.tz 0 0 rfl rfl rfl
    ·refine JP1.a h ?_
     exact Le.tz 0 0 rfl rfl rfl
   ·refine bF ?_
    refine JP1.a h ?_
    exact Le.tz 0 0 rfl rfl rfl
  ·have h:=hk
   refine Qal (t:=Qi6) h ?_
   exact .refl _
 ·have h:=(by rw[hy] at hk; exact hk)
  refine Qal (t:=Qi6) h ?_
  exact .refl _
noncomputable def Qgw (p0:(List UInt8)):Option (Bool) :=
 ( if(p0==[105,102]) then
   some (p0==[105,102])
  else
   if(p0==[101,108,115,101]) then
    some (p0==[101,108,115,101])
   else
    if(p0==[101,110,100]) then
     some (p0==[101,110,100])
    else
     if(p0==[101,97,99,104]) then
      some (p0==[101,97,99,104])
     else
      if(p0==[105,110]) then
       some (p0==[105,110])
      else
       if(p0==[108,101,116]) then
        some (p0==[108,101,116])
       else
        if(p0==[117,115,101]) then
         some (p0==[117,115,101])
        else
         if(p0==[116,114,117,101]) then
          some (p0==[116,114,117,101])
         else
          if(p0==[102,97,108,115,101]) then
           some (p0==[102,97,108,115,101])
          else
           some (p0==[115,101,99,114,101,116]):Option (Bool))>>=fun o1 =>
 if o1 then
  some false
 else
  Ql3 p0>>=fun x2 =>
  some x2
theorem Qie:∀ (p0:(List UInt8)) (o:Bool),Qgw p0=some o→PCall Tryz.prog 37 [sV p0] (Qen o):=by
 intro p0 o h
 unfold Qgw at h
 refine PCall.ofB mixed tbOk Q0w Tryz.func37 rfl (by kernel_rfl) (Nat.le_of_ble_eq_true rfl) ?_
 refine Qag h (fun o1 ho hk=>?_)
 refine Exists.intro (JP1 _ _ o1 .normal (Qvj p0)) (And.intro ?_ (join1 ?_))
 ·have h:=ho
  refine Qae h (fun hb h=>?_) (fun hb h=>?_)
  ·refine JP1.a h ?_
   exact Le.tz 0 0 rfl rfl rfl
  ·refine Qae h (fun hb h=>?_) (fun hb h=>?_)
   ·refine JP1.a h ?_
    exact Le.tz 0 0 rfl rfl rfl
   ·refine Qae h (fun hb h=>?_) (fun hb h=>?_)
    ·refine JP1.a h ?_
     exact Le.tz 0 0 rfl rfl rfl
    ·refine Qae h (fun hb h=>?_) (fun hb h=>?_)
     ·refine JP1.a h ?_
      exact Le.tz 0 0 rfl rfl rfl
     ·refine Qae h (fun hb h=>?_) (fun hb h=>?_)
      ·refine JP1.a h ?_
       exact Le.tz 0 0 rfl rfl rfl
      ·refine Qae h (fun hb h=>?_) (fun hb h=>?_)
       ·refine JP1.a h ?_
        exact Le.tz 0 0 rfl rfl rfl
       ·refine Qae h (fun hb h=>?_) (fun hb h=>?_)
        ·refine JP1.a h ?_
         exact Le.tz 0 0 rfl rfl rfl
        ·refine Qae h (fun hb h=>?_) (fun hb h=>?_)
         ·refine JP1.a h ?_
          exact Le.tz 0 0 rfl rfl rfl
         ·refine Qae h (fun hb h=>?_) (fun hb h=>?_)
          ·refine JP1.a h ?_
           exact Le.tz 0 0 rfl rfl rfl
          ·refine JP1.a h ?_
           exact Le.tz 0 0 rfl rfl rfl
 ·have h:=hk
  refine Qae h (fun hb h=>?_) (fun hb h=>?_)
  ·refine Qal (t:=Qen) h ?_
   exact .refl _
  ·refine Qah [sV p0] Qi6 h (fun x2 hy=>(Qo8 p0 x2 hy)) (fun x2 hy h=>?_)
   refine Qal (t:=Qen) h ?_
   exact .refl _
noncomputable def Qbx (p0:(List UInt8)) (v4:(List Int)) (v18:Int):Option ((List Int)) :=
 if(decide (v18<(p0.length:Int))) then
  idx p0 v18>>=fun x5 =>
  if((x5.toNat:Int)==10) then
   appL 1 v4 (s2b [92,110])>>=fun x6 =>
   Qbx p0 x6 (wr (v18+1))
  else
   if((x5.toNat:Int)==9) then
    appL 1 v4 (s2b [92,116])>>=fun x7 =>
    Qbx p0 x7 (wr (v18+1))
   else
    ( if((x5.toNat:Int)==34) then
      some ((x5.toNat:Int)==34)
     else
      some ((x5.toNat:Int)==92):Option (Bool))>>=fun o8 =>
    if o8 then
     appL 1 v4 [92,(x5.toNat:Int)]>>=fun x9 =>
     Qbx p0 x9 (wr (v18+1))
    else
     appL 1 v4 [(x5.toNat:Int)]>>=fun x10 =>
     Qbx p0 x10 (wr (v18+1))
 else
  some v4
 partial_fixpoint
theorem Qse:∀ (p0:(List UInt8)),(∀ (v4:(List Int)) (v18:Int) (o4:(List Int)),Qbx p0 v4 v18=some o4→TL (0,0) Tryz.prog 49 Qos (JP1 (0,0) 49 o4 (.exit 0) (Qjv p0)) (Qcu p0 v4 v18)):=by
 intro p0
 refine Qbx.partial_correctness p0 _ ?_
 intro Qbx' iQbx v4 v18 o4 h
 refine TL.round (Qaj mixed tbOk (lv:=Qrp) _ _ _ ?_)
 refine Qae h (fun hb h=>?_) (fun hb h=>?_)
 ·refine Qfg h (fun x5 hi h=>?_)
  refine Qae h (fun hb h=>?_) (fun hb h=>?_)
  ·refine Q3x (a:=v4) (b:=[92,110]) h rfl (fun x6 hi h=>?_)
   refine TL.le (τ := Qcu p0 x6 (wr (v18+1))) ?_ ((iQbx x6 (wr (v18+1)) _ h))
   exact Le.tz 0 1 rfl rfl rfl
  ·refine Qae h (fun hb h=>?_) (fun hb h=>?_)
   ·refine Q3x (a:=v4) (b:=[92,116]) h rfl (fun x7 hi h=>?_)
    refine TL.le (τ := Qcu p0 x7 (wr (v18+1))) ?_ ((iQbx x7 (wr (v18+1)) _ h))
    exact Le.tz 0 1 rfl rfl rfl
   ·refine Qag h (fun o8 ho hk=>?_)
    refine Exists.intro (JP1 _ _ o8 .normal (Qvh p0 v4 v18 x5)) (And.intro ?_ (join1 ?_))
    ·have h:=ho
     refine Qae h (fun hb h=>?_) (fun hb h=>?_)
     ·refine JP1.a h ?_
      exact Le.tz 0 1 rfl rfl rfl
     ·refine JP1.a h ?_
      exact Le.tz 0 1 rfl rfl rfl
    ·have h:=hk
     refine Qae h (fun hb h=>?_) (fun hb h=>?_)
     ·refine Qls (a:=v4) (b:=[92,(x5.toNat:Int)]) (c:=(cNum .u8)) h (.refl _) (fun _=>rfl) rfl (fun x9 hi h=>?_)
      refine TL.le (τ := Qcu p0 x9 (wr (v18+1))) ?_ ((iQbx x9 (wr (v18+1)) _ h))
      exact Le.tz 0 1 rfl rfl rfl
     ·refine Qls (a:=v4) (b:=[(x5.toNat:Int)]) (c:=(cNum .u8)) h (.refl _) (fun _=>rfl) rfl (fun x10 hi h=>?_)
      refine TL.le (τ := Qcu p0 x10 (wr (v18+1))) ?_ ((iQbx x10 (wr (v18+1)) _ h))
      exact Le.tz 0 1 rfl rfl rfl
 ·exact JP1.a h (Le.tz 0 1 rfl rfl rfl)
theorem Qum:∀ (p0:(List UInt8)) (v4:(List Int)) (v18:Int) (o4:(List Int)),Qbx p0 v4 v18=some o4→TL (0,0) Tryz.prog 49 Qos (JP1 (0,0) 49 o4 (.exit 0) (Qjv p0)) (Qcu p0 v4 v18):=fun p0 v4 v18=>(Qse p0) v4 v18
noncomputable def Qbr (p0:(List UInt8)) (p1:Int):Option (Int) :=
 some (Lib.indexByte p0 p1.toNat.toUInt8)
theorem Qgx:∀ (p0:(List UInt8)) (p1:Int) (o:Int),Qbr p0 p1=some o→PCall Tryz.prog 174 [sV p0,nV .u8 p1] (Qdk o):=by
 intro p0 p1 o h
 unfold Qbr at h
 cases h
 exact Q0l _ _
noncomputable def strings_IndexByte (p0:(List UInt8)) (p1:Int):Option (Int) :=
 Qbr p0 p1>>=fun x1 =>
 some x1
theorem Qoc:∀ (p0:(List UInt8)) (p1:Int) (o:Int),strings_IndexByte p0 p1=some o→PCall Tryz.prog 169 [sV p0,nV .u8 p1] (Qfw o):=by
 intro p0 p1 o h
 unfold strings_IndexByte at h
 refine PCall.ofB mixed tbOk Qob Tryz.func169 rfl (by kernel_rfl) (Nat.le_of_ble_eq_true rfl) ?_
 refine Qah [sV p0,nV .u8 p1] Qdk h (fun x1 hy=>(Qgx p0 p1 x1 hy)) (fun x1 hy h=>?_)
 refine Qal (t:=Qfw) h ?_
 exact .refl _
noncomputable def Qgy (x1:(List UInt8)) (l4:(List (Int×Int))):Option (Unit⊕Unit) :=
 match l4 with
 | [] =>
  some (.inl ())
 | x2::r3 =>
  ( if(x2.1==65533) then
    some (x2.2==1)
   else
    some false:Option (Bool))>>=fun o9 =>
  if o9 then
   some (.inr ())
  else
   Qgy x1 r3
 partial_fixpoint
theorem Qy8:∀ (x1:(List UInt8)),(∀ (l4:(List (Int×Int))) (o6:Unit⊕Unit),Qgy x1 l4=some o6→RL 1 0 Tryz.prog 15 (rgP Qho) (rgA Qho) (rgB Qho) (Qf4 x1).env (JP2 (0,0) 15 o6 .normal (Qni x1) .ret (Qnj x1)) (l4.map Qep) (Qf4 x1).s):=by
 intro x1
 refine Qgy.partial_correctness x1 _ ?_
 intro Qgy' iQgy l4 o6 h
 cases l4 with
 | nil =>
  refine Q3y ?_
  exact JP2.a h (Le.tz 1 0 rfl rfl rfl)
 | cons x2 r3 =>
  refine Qxv (Qaj mixed tbOk (lv:=Qtz) _ _ _ ?_)
  refine And.intro rfl (Qaj mixed tbOk (lv:=Qtz) _ _ _ ?_)
  refine Qag h (fun o9 ho hk=>?_)
  refine Exists.intro (JP1 _ _ o9 .normal (Q2x x1 x2)) (And.intro ?_ (join1 ?_))
  ·have h:=ho
   refine Qae h (fun hb h=>?_) (fun hb h=>?_)
   ·refine JP1.a h ?_
    exact Le.tz 1 0 rfl rfl rfl
   ·refine JP1.a h ?_
    exact Le.tz 1 0 rfl rfl rfl
  ·have h:=hk
   refine Qae h (fun hb h=>?_) (fun hb h=>?_)
   ·exact Exists.intro (⟨[[.p (bV false)]],[]⟩:S) (And.intro (Le.tow 1 0 rfl .nil (.refl _) rfl) (And.intro rfl (And.intro rfl (JP2.b h (Le.tz 1 0 rfl rfl rfl)))))
   ·exact Exists.intro (Qf4 x1 ).s (And.intro (Le.tz 1 0 rfl rfl rfl) (And.intro rfl (And.intro rfl ((iQgy r3 _ h)))))
theorem Q1h:∀ (x1:(List UInt8)) (l4:(List (Int×Int))) (o6:Unit⊕Unit),Qgy x1 l4=some o6→RL 1 0 Tryz.prog 15 (rgP Qho) (rgA Qho) (rgB Qho) (Qf4 x1).env (JP2 (0,0) 15 o6 .normal (Qni x1) .ret (Qnj x1)) (l4.map Qep) (Qf4 x1).s:=fun x1 l4=>(Qy8 x1) l4
noncomputable def Qy9 (p0:(List UInt8)):Option ((List UInt8)) :=
 some p0
theorem Q42:∀ (p0:(List UInt8)) (o:(List UInt8)),Qy9 p0=some o→PCall Tryz.prog 178 [sV p0] (Qt0 o):=by
 intro p0 o h
 unfold Qy9 at h
 refine PCall.ofM mixed tbOk Q41 Tryz.func178 rfl (by kernel_rfl) (Nat.le_of_ble_eq_true rfl) ?_
 refine Qal (t:=Qt0) h ?_
 exact .refl _
noncomputable def Qwz (p0:Int):Option (Bool) :=
 ( if(decide (p0 ≥ 0)) then
   if(decide (p0≤1114111)) then
    if(decide (p0<55296)) then
     some true
    else
     some (decide (p0>57343))
   else
    some false
  else
   some false:Option (Bool))>>=fun o1 =>
 some o1
theorem Q6f:∀ (p0:Int) (o:Bool),Qwz p0=some o→PCall Tryz.prog 188 [nV .i32 p0] (Qyy o):=by
 intro p0 o h
 unfold Qwz at h
 refine PCall.ofB mixed tbOk Q6c Tryz.func188 rfl (by kernel_rfl) (Nat.le_of_ble_eq_true rfl) ?_
 refine Qag h (fun o1 ho hk=>?_)
 refine Exists.intro (JP1 _ _ o1 .normal (Q2z )) (And.intro ?_ (join1 ?_))
 ·have h:=ho
  refine Qae h (fun hb h=>?_) (fun hb h=>?_)
  ·refine Qae h (fun hb h=>?_) (fun hb h=>?_)
   ·refine Qae h (fun hb h=>?_) (fun hb h=>?_)
    ·refine JP1.a h ?_
     exact Le.tz 0 0 rfl rfl rfl
    ·refine JP1.a h ?_
     exact Le.tz 0 0 rfl rfl rfl
   ·refine JP1.a h ?_
    exact Le.tz 0 0 rfl rfl rfl
  ·refine bF ?_
   refine JP1.a h ?_
   exact Le.tz 0 0 rfl rfl rfl
 ·have h:=hk
  refine Qal (t:=Qyy) h ?_
  exact .refl _
noncomputable def Qe0 (p0:(List UInt8)) (p2:Int) (v1:Int) (v14:Int):Option (Int⊕Unit) :=
 if(decide (v14<p2)) then
  idx p0 v14>>=fun x4 =>
  if((bits .and .u8 (x4.toNat:Int) 192) != 128) then
   some (.inr ())
  else
   idx p0 v14>>=fun x5 =>
   Qe0 p0 p2 (bits .or .i32 (IntKind.i32.wrap (v1*2 ^ (min (6:Int).toNat (IntKind.i32.bits)))) (IntKind.i32.wrap (bits .and .u8 (x5.toNat:Int) 63))) (wr (v14+1))
 else
  some (.inl v1)
 partial_fixpoint
theorem Qun:∀ (p0:(List UInt8)) (p2:Int),(∀ (v1:Int) (v14:Int) (o1:Int⊕Unit),Qe0 p0 p2 v1 v14=some o1→TL (0,0) Tryz.prog 32 Qp2 (JP2 (0,0) 32 o1 (.exit 0) (Qk2 p0 p2) .ret (Qk3 p0 p2)) (Qh2 p0 p2 v1 v14)):=by
 intro p0 p2
 refine Qe0.partial_correctness p0 p2 _ ?_
 intro Qe0' iQe0 v1 v14 o1 h
 refine TL.round (Qaj mixed tbOk (lv:=Qt1) _ _ _ ?_)
 refine Qae h (fun hb h=>?_) (fun hb h=>?_)
 ·refine Qfg h (fun x4 hi h=>?_)
  refine Qae h (fun hb h=>?_) (fun hb h=>?_)
  ·exact JP2.b h (Le.tz 0 0 rfl rfl rfl)
  ·refine And.intro (by decide) ?_
   refine Qfg h (fun x5 hi h=>?_)
   refine vrfl ?_
   refine TL.le (τ := Qh2 p0 p2 (bits .or .i32 (IntKind.i32.wrap (v1*2 ^ (min (6:Int).toNat (IntKind.i32.bits)))) (IntKind.i32.wrap (bits .and .u8 (x5.toNat:Int) 63))) (wr (v14+1))) ?_ ((iQe0 (bits .or .i32 (IntKind.i32.wrap (v1*2 ^ (min (6:Int).toNat (IntKind.i32.bits)))) (IntKind.i32.wrap (bits .and .u8 (x5.toNat:Int) 63))) (wr (v14+1)) _ h))
   exact Le.tz 0 0 rfl rfl rfl
 ·exact JP2.a h (Le.tz 0 0 rfl rfl rfl)
theorem Qv7:∀ (p0:(List UInt8)) (p2:Int) (v1:Int) (v14:Int) (o1:Int⊕Unit),Qe0 p0 p2 v1 v14=some o1→TL (0,0) Tryz.prog 32 Qp2 (JP2 (0,0) 32 o1 (.exit 0) (Qk2 p0 p2) .ret (Qk3 p0 p2)) (Qh2 p0 p2 v1 v14):=fun p0 p2 v1 v14=>(Qun p0 p2) v1 v14
noncomputable def Qn6 (p0:(List UInt8)) (p1:Int) (p2:Int):Option (Int×Bool) :=
 if(decide ((p0.length:Int)<p2)) then
  some (0,false)
 else
  (Qe0 p0 p2 p1 0)>>=fun o1 =>
  match o1 with
  | .inl y2 =>
   some (y2,true)
  | .inr y3 =>
   some (0,false)
theorem Q22:∀ (p0:(List UInt8)) (p1:Int) (p2:Int) (o:Int×Bool),Qn6 p0 p1 p2=some o→PCall Tryz.prog 187 [sV p0,nV .i32 p1,iV p2] (Qla o):=by
 intro p0 p1 p2 o h
 unfold Qn6 at h
 refine PCall.ofB mixed tbOk Qt1 Tryz.func187 rfl (by kernel_rfl) (Nat.le_of_ble_eq_true rfl) ?_
 refine vrfl ?_
 refine Qae h (fun hb h=>?_) (fun hb h=>?_)
 ·refine Qal (t:=Qla) h ?_
  exact .refl _
 ·refine Qag h (fun o1 ho hk=>?_)
  refine Exists.intro (JP2 _ _ o1 (.exit 0) (Qk2 p0 p2) .ret (Qk3 p0 p2)) (And.intro (T_le (τ := Qh2 p0 p2 p1 0) ?_ (TL.loop (Qv7 p0 p2 p1 0 o1 ho))) (join2 (fun y2 hy=>?_) (fun y3 hy=>?_)))
  ·exact Le.tz 0 0 rfl rfl rfl
  ·have h:=(by rw[hy] at hk; exact hk)
   refine Qal (t:=Qla) h ?_
   exact .refl _
  ·have h:=(by rw[hy] at hk; exact hk)
   refine Qal (t:=Qla) h ?_
   exact .refl _
noncomputable def Qp9 (p0:(List UInt8)) (p1:Int):Option (Int×Int) :=
 ( if(decide (p1<0)) then
   some true
  else
   some (decide (p1 ≥ (p0.length:Int))):Option (Bool))>>=fun o1 =>
 if o1 then
  some (0,0)
 else
  idx p0 p1>>=fun x2 =>
  ( if(decide ((x2.toNat:Int)<128)) then
    some (.inr (IntKind.i32.wrap (x2.toNat:Int)))
   else
    ( if(decide ((x2.toNat:Int) ≥ 192)) then
      some (decide ((x2.toNat:Int)<224))
     else
      some false:Option (Bool))>>=fun o6 =>
    if o6 then
     some (.inl ((IntKind.i32.wrap (bits .and .u8 (x2.toNat:Int) 31)),128,1))
    else
     ( if(decide ((x2.toNat:Int) ≥ 224)) then
       some (decide ((x2.toNat:Int)<240))
      else
       some false:Option (Bool))>>=fun o7 =>
     if o7 then
      some (.inl ((IntKind.i32.wrap (bits .and .u8 (x2.toNat:Int) 15)),2048,2))
     else
      ( if(decide ((x2.toNat:Int) ≥ 240)) then
        some (decide ((x2.toNat:Int)<248))
       else
        some false:Option (Bool))>>=fun o8 =>
      if o8 then
       some (.inl ((IntKind.i32.wrap (bits .and .u8 (x2.toNat:Int) 7)),65536,3))
      else
       some (.inr 65533):Option ((Int×Int×Int)⊕Int))>>=fun o3 =>
  match o3 with
  | .inl y4 =>
   cutL p0 (wr (p1+1)) (p0.length:Int)>>=fun x9 =>
   Qn6 x9 y4.1 y4.2.2>>=fun x10 =>
   ( if(!x10.2) then
     some true
    else
     if(decide (x10.1<y4.2.1)) then
      some true
     else
      Qwz x10.1>>=fun x12 =>
      some (!x12):Option (Bool))>>=fun o11 =>
   if o11 then
    some (65533,1)
   else
    some (x10.1,(wr (y4.2.2+1)))
  | .inr y5 =>
   some (y5,1)
theorem Q23:∀ (p0:(List UInt8)) (p1:Int) (o:Int×Int),Qp9 p0 p1=some o→PCall Tryz.prog 186 [sV p0,iV p1] (Qi7 o):=by
 intro p0 p1 o h
 unfold Qp9 at h
 refine PCall.ofB mixed tbOk Q2y Tryz.func186 rfl (by kernel_rfl) (Nat.le_of_ble_eq_true rfl) ?_
 refine Qag h (fun o1 ho hk=>?_)
 refine Exists.intro (JP1 _ _ o1 .normal (Qyr p0 p1)) (And.intro ?_ (join1 ?_))
 ·have h:=ho
  refine Qae h (fun hb h=>?_) (fun hb h=>?_)
  ·refine JP1.a h ?_
   exact Le.tz 0 0 rfl rfl rfl
  ·refine vrfl ?_
   refine JP1.a h ?_
   exact Le.tz 0 0 rfl rfl rfl
 ·have h:=hk
  refine Qae h (fun hb h=>?_) (fun hb h=>?_)
  ·refine Qal (t:=Qi7) h ?_
   exact .refl _
  ·refine Qfg h (fun x2 hi h=>?_)
   refine Qag h (fun o3 ho hk=>?_)
   refine Exists.intro (JP2 _ _ o3 .normal (Qys p0 p1) .ret (Qyt p0 p1)) (And.intro ?_ (join2 (fun y4 hy=>?_) (fun y5 hy=>?_)))
   ·have h:=ho
    refine Qae h (fun hb h=>?_) (fun hb h=>?_)
    ·refine vrfl ?_
     refine JP2.b h ?_
     exact Le.tz 0 0 rfl rfl rfl
    ·refine Qag h (fun o6 ho hk=>?_)
     refine Exists.intro (JP1 _ _ o6 .normal (Qyu p0 p1 x2)) (And.intro ?_ (join1 ?_))
     ·have h:=ho
      refine Qae h (fun hb h=>?_) (fun hb h=>?_)
      ·refine JP1.a h ?_
       exact Le.tz 0 0 rfl rfl rfl
      ·refine JP1.a h ?_
       exact Le.tz 0 0 rfl rfl rfl
     ·have h:=hk
      refine Qae h (fun hb h=>?_) (fun hb h=>?_)
      ·refine vrfl ?_
       refine JP2.a h ?_
       exact Le.tz 0 0 rfl rfl rfl
      ·refine Qag h (fun o7 ho hk=>?_)
       refine Exists.intro (JP1 _ _ o7 .normal (Qyv p0 p1 x2)) (And.intro ?_ (join1 ?_))
       ·have h:=ho
        refine Qae h (fun hb h=>?_) (fun hb h=>?_)
        ·refine JP1.a h ?_
         exact Le.tz 0 0 rfl rfl rfl
        ·refine JP1.a h ?_
         exact Le.tz 0 0 rfl rfl rfl
       ·have h:=hk
        refine Qae h (fun hb h=>?_) (fun hb h=>?_)
        ·refine vrfl ?_
         refine JP2.a h ?_
         exact Le.tz 0 0 rfl rfl rfl
        ·refine Qag h (fun o8 ho hk=>?_)
         refine Exists.intro (JP1 _ _ o8 .normal (Qyw p0 p1 x2)) (And.intro ?_ (join1 ?_))
         ·have h:=ho
          refine Qae h (fun hb h=>?_) (fun hb h=>?_)
          ·refine JP1.a h ?_
           exact Le.tz 0 0 rfl rfl rfl
          ·refine JP1.a h ?_
           exact Le.tz 0 0 rfl rfl rfl
         ·have h:=hk
          refine Qae h (fun hb h=>?_) (fun hb h=>?_)
          ·refine vrfl ?_
           refine JP2.a h ?_
           exact Le.tz 0 0 rfl rfl rfl
          ·refine JP2.b h ?_
           exact Le.tz 0 0 rfl rfl rfl
   ·have h:=(by rw[hy] at hk; exact hk)
    refine Qmy (some (wr (p1+1))) none h (fun x9 hi h=>?_)
    refine Qah [sV x9,nV .i32 y4.1,iV y4.2.2] Qla h (fun x10 hy=>(Q22 x9 y4.1 y4.2.2 x10 hy)) (fun x10 hy h=>?_)
    refine Qag h (fun o11 ho hk=>?_)
    refine Exists.intro (JP1 _ _ o11 .normal (Qyx y4 x10)) (And.intro ?_ (join1 ?_))
    ·have h:=ho
     refine Qae h (fun hb h=>?_) (fun hb h=>?_)
     ·refine bT ?_
      refine JP1.a h ?_
      exact Le.tz 0 0 rfl rfl rfl
     ·refine Qae h (fun hb h=>?_) (fun hb h=>?_)
      ·refine JP1.a h ?_
       exact Le.tz 0 0 rfl rfl rfl
      ·refine Qah [nV .i32 x10.1] Qyy h (fun x12 hy=>(Q6f x10.1 x12 hy)) (fun x12 hy h=>?_)
       refine JP1.a h ?_
       exact Le.tz 0 0 rfl rfl rfl
    ·have h:=hk
     refine Qae h (fun hb h=>?_) (fun hb h=>?_)
     ·refine Qal (t:=Qi7) h ?_
      exact .refl _
     ·refine Qal (t:=Qi7) h ?_
      exact .refl _
   ·have h:=(by rw[hy] at hk; exact hk)
    refine Qal (t:=Qi7) h ?_
    exact .refl _
noncomputable def Qdh (p0:(List UInt8)) (v3:Int):Option ((List (Int×Int))×(Unit)) :=
 if(decide (v3<(p0.length:Int))) then
  Qp9 p0 v3>>=fun x3 =>
  ( Qdh p0 (wr (v3+x3.2)))>>=fun q=>some ((x3.1,x3.2)::q.1,q.2)
 else
  some ([],())
 partial_fixpoint
theorem Qsf:∀ (p0:(List UInt8)),(∀ (v3:Int) (o2:(List (Int×Int))×(Unit)),Qdh p0 v3=some o2→∀ (gxs gp gpost gq1:List (List V)),gxs=gp++(o2.1.map Qep++gpost)→gxs=gq1++gpost→TL (0,1) Tryz.prog 24 Qot (Qs (0,1) 24 gxs (JP1 (0,1) 24 o2.2 (.exit 0) (Qjy p0 gxs gq1))) (Qgr p0 v3 gxs gp)):=by
 intro p0
 refine Qdh.partial_correctness p0 _ ?_
 intro Qdh' iQdh v3 o2 h
 intro gxs gp gpost gq1 hx hq
 refine TL.round (Qaj mixed tbOk (lv:=Qrq) _ _ _ ?_)
 refine vrfl ?_
 refine Qae h (fun hb h=>?_) (fun hb h=>?_)
 ·refine Qah [sV p0,iV v3] Qi7 h (fun x3 hy=>(Q23 p0 v3 x3 hy)) (fun x3 hy h=>?_)
  refine Q52 (c:=Qep) h hx (.refl _) (by exact rfl) (by exact rfl) (fun _ h hx=>?_) ?_
  ·refine bF ?_
   refine TL.le (τ := Qgr p0 (wr (v3+x3.2)) gxs (gp++[Qep (x3.1,x3.2)])) ?_ ((iQdh (wr (v3+x3.2)) _ h) _ _ _ _ hx hq)
   exact Le.tz 0 1 rfl rfl rfl
  ·refine bT ?_
   exact .inr ⟨rfl,_,(Le.env0 _).trans (Le.tow 0 1 rfl .nil (.refl _) rfl),rfl,rfl,rfl⟩
 ·exact .inl (JP1.a (sndI h) (Le.tz 0 1 rfl rfl (liveQ h hx hq rfl)))
theorem Quo:∀ (p0:(List UInt8)) (v3:Int) (o2:(List (Int×Int))×(Unit)),Qdh p0 v3=some o2→∀ (gxs gp gpost gq1:List (List V)),gxs=gp++(o2.1.map Qep++gpost)→gxs=gq1++gpost→TL (0,1) Tryz.prog 24 Qot (Qs (0,1) 24 gxs (JP1 (0,1) 24 o2.2 (.exit 0) (Qjy p0 gxs gq1))) (Qgr p0 v3 gxs gp):=fun p0 v3=>(Qsf p0) v3
noncomputable def Qqa (p0:(List UInt8)):Option ((List (Int×Int))×Unit) :=
 ( Qdh p0 0)>>=fun o2=>(
  some ([],()))>>=fun q=>some (o2.1++q.1,q.2)
theorem Q1i:∀ (p0:(List UInt8)) (o:(List (Int×Int))×Unit),Qqa p0=some o→∀ gxs:List (List V),gxs=o.1.map Qep→IterOK Tryz.prog 185 [.ep [sV p0]] gxs:=by
 intro p0 o h
 unfold Qqa at h
 intro gxs hg
 have hx:gxs=[]++(o.1.map Qep++[]):=by simp[hg]
 refine IterOK.ofB mixed tbOk Qrq Tryz.func185 rfl (by kernel_rfl) (Nat.le_of_ble_eq_true rfl) rfl ?_
 refine Qsq h hx (fun o2 lgq1 gq1 ho hk hxa hjgq1=>?_)
 refine Exists.intro (Qs _ _ gxs (JP1 _ _ o2.2 (.exit 0) (Qjy p0 gxs gq1))) (And.intro (T_le (τ := Qgr p0 0 gxs ([]:List (List V))) ?_ (TL.loop ((Quo p0 0 o2 ho) _ _ _ _ hxa hjgq1))) (joinS (join1 ?_) ?_))
 ·exact Le.tz 0 1 rfl rfl rfl
 ·have h:=hk
  have hx:=hjgq1
  exact Q51 h hx (.inl rfl) rfl
 ·exact fun s1 h1 h2 hs=>Q3z (.inr rfl) hs
noncomputable def Q1j (p0:(List UInt8)):Option (Bool) :=
 Qy9 p0>>=fun x1 =>
 Qqa x1>>=fun y5 =>
 (Qgy x1 y5.1)>>=fun o6 =>
 match o6 with
 | .inl y7 =>
  some true
 | .inr y8 =>
  some false
theorem Q6g:∀ (p0:(List UInt8)) (o:Bool),Q1j p0=some o→PCall Tryz.prog 168 [sV p0] (Qss o):=by
 intro p0 o h
 unfold Q1j at h
 refine PCall.ofB mixed tbOk Qtz Tryz.func168 rfl (by kernel_rfl) (Nat.le_of_ble_eq_true rfl) ?_
 refine Qah [sV p0] Qt0 h (fun x1 hy=>(Q42 p0 x1 hy)) (fun x1 hy h=>?_)
 refine Qag h (fun y5 hy5 h=>?_)
 refine Qag h (fun o6 ho hk=>?_)
 refine Exists.intro (JP2 _ _ o6 .normal (Qni x1) .ret (Qnj x1)) (And.intro (T_le (τ := Qf4 x1) ?_ (Qxq (g:=185) (cap:=[.ep [sV x1]]) rfl ((Q1i x1 y5 hy5) _ rfl) (mapSize fun _=>rfl) rfl (Nat.le_of_ble_eq_true rfl) (Nat.le_of_ble_eq_true rfl) (Q1h x1 y5.1 o6 ho))) (join2 (fun y7 hy=>?_) (fun y8 hy=>?_)))
 ·exact Le.tz 1 0 rfl rfl rfl
 ·have h:=(by rw[hy] at hk; exact hk)
  refine Qal (t:=Qss) h ?_
  exact .refl _
 ·have h:=(by rw[hy] at hk; exact hk)
  refine Qal (t:=Qss) h ?_
  exact .refl _
noncomputable def Qif (p0:(List UInt8)):Option ((List UInt8)×Bool) :=
 ( Q1j p0>>=fun x2 =>
  if(!x2) then
   some true
  else
   strings_IndexByte p0 13>>=fun x3 =>
   some (decide (x3 ≥ 0)):Option (Bool))>>=fun o1 =>
 if o1 then
  some ([],false)
 else
  (Qbx p0 [34] 0)>>=fun o4 =>
  appL 1 o4 [34]>>=fun x11 =>
  b2s x11>>=fun x12 =>
  some (x12,true)
theorem Q1k:∀ (p0:(List UInt8)) (o:(List UInt8)×Bool),Qif p0=some o→PCall Tryz.prog 154 [sV p0] (Qlu o):=by
 intro p0 o h
 unfold Qif at h
 refine PCall.ofB mixed tbOk Qrp Tryz.func154 rfl (by kernel_rfl) (Nat.le_of_ble_eq_true rfl) ?_
 refine Qag h (fun o1 ho hk=>?_)
 refine Exists.intro (JP1 _ _ o1 .normal (Qvg p0)) (And.intro ?_ (join1 ?_))
 ·have h:=ho
  refine Qah [sV p0] Qss h (fun x2 hy=>(Q6g p0 x2 hy)) (fun x2 hy h=>?_)
  refine Qae h (fun hb h=>?_) (fun hb h=>?_)
  ·refine JP1.a h ?_
   exact Le.tz 0 0 rfl rfl rfl
  ·refine Qah [sV p0,nV .u8 13] Qfw h (fun x3 hy=>(Qoc p0 13 x3 hy)) (fun x3 hy h=>?_)
   refine JP1.a h ?_
   exact Le.tz 0 0 rfl rfl rfl
 ·have h:=hk
  refine Qae h (fun hb h=>?_) (fun hb h=>?_)
  ·refine Qal (t:=Qlu) h ?_
   exact .refl _
  ·refine vrfl ?_
   refine Qag h (fun o4 ho hk=>?_)
   refine Exists.intro (JP1 _ _ o4 (.exit 0) (Qjv p0)) (And.intro (T_le (τ := Qcu p0 [34] 0) ?_ (TL.loop (Qum p0 [34] 0 o4 ho))) (join1 ?_))
   ·exact Le.trans (τ := ⟨[(0,.p (sV p0)),(4,.p (.sl true ([34].map (cNum .u8)))),(17,.p (iV (p0.length:Int))),(18,.p (iV 0))],⟨[],[]⟩⟩) (Le.tz 0 0 rfl rfl rfl) ((Le.ownW 4 5 1 rfl (mapSize fun _=>rfl)).trans (Le.tz 0 1 rfl rfl rfl))
   have h:=hk
   refine Qls (a:=o4) (b:=[34]) (c:=(cNum .u8)) h (.refl _) (fun _=>rfl) rfl (fun x11 hi h=>?_)
   refine Q0k (l:=x11) h (fun x12 hi h=>?_)
   refine Qal (t:=Qlu) h ?_
   exact .refl _
noncomputable def Qf7 (p0:Qab):Option (Qce) :=
 some (Qce.mk (!(p0.Name==[])) (!(p0.Text==[])) (p0.N != 0) (decide ((p0.Then.length:Int)>0)) (decide ((p0.Else.length:Int)>0)) (p0.L.length:Int))
theorem Qno:∀ (p0:Qab) (o:Qce),Qf7 p0=some o→PCall Tryz.prog 126 [.agg [iV p0.Kind,sV p0.Name,sV p0.Text,iV p0.N,.sl false (p0.L.map Qaa),.sl false (p0.Then.map Qaa),.sl false (p0.Else.map Qaa)]] (Qh1 o):=by
 intro p0 o h
 unfold Qf7 at h
 refine PCall.ofB mixed tbOk Qty Tryz.func126 rfl (by kernel_rfl) (Nat.le_of_ble_eq_true rfl) ?_
 refine view (lenMap _ _) rfl ?_
 refine view (lenMap _ _) rfl ?_
 refine view (lenMap _ _) rfl ?_
 refine Qal (t:=Qh1) h ?_
 exact .refl _
mutual
noncomputable def Qat (p0:(List Qab)):Option (Bool) :=
 Qa9 p0>>=fun x1 =>
 some (decide (x1 ≥ 0))
 partial_fixpoint
noncomputable def Qa9 (p0:(List Qab)):Option (Int) :=
 (Qan p0 0)>>=fun o1 =>
 match o1 with
 | .inl y2 =>
  some (-1)
 | .inr y3 =>
  some y3
 partial_fixpoint
noncomputable def Qan (p0:(List Qab)) (v8:Int):Option (Unit⊕Int) :=
 if(decide (v8<(p0.length:Int))) then
  idx p0 v8>>=fun x4 =>
  Qo9 x4>>=fun x5 =>
  if x5 then
   some (.inr v8)
  else
   Qan p0 (wr (v8+1))
 else
  some (.inl ())
 partial_fixpoint
noncomputable def Qo9 (p0:Qab):Option (Bool) :=
 Qd9 p0>>=fun x1 =>
 some (!x1)
 partial_fixpoint
noncomputable def Qd9 (p0:Qab):Option (Bool) :=
 Qf7 p0>>=fun x1 =>
 if(p0.Kind==1) then
  Qif p0.Text>>=fun x2 =>
  ( if x2.2 then
    some ((x1.name_==false)&&((x1.text_==x1.text_)&&((x1.num_==false)&&((x1.then_==false)&&((x1.other_==false)&&((x1.l_==0)&&true))))))
   else
    some false:Option (Bool))>>=fun o3 =>
  some o3
 else
  if(p0.Kind==2) then
   some ((x1.name_==false)&&((x1.text_==false)&&((x1.num_==x1.num_)&&((x1.then_==false)&&((x1.other_==false)&&((x1.l_==0)&&true))))))
  else
   if(p0.Kind==3) then
    ( if((bits .andNot .i64 p0.N 1)==0) then
      some ((x1.name_==false)&&((x1.text_==false)&&((x1.num_==x1.num_)&&((x1.then_==false)&&((x1.other_==false)&&((x1.l_==0)&&true))))))
     else
      some false:Option (Bool))>>=fun o4 =>
    some o4
   else
    if(p0.Kind==4) then
     ( Qgw p0.Name>>=fun x6 =>
      if x6 then
       some ((x1.name_==true)&&((x1.text_==false)&&((x1.num_==false)&&((x1.then_==false)&&((x1.other_==false)&&((x1.l_==0)&&true))))))
      else
       some false:Option (Bool))>>=fun o5 =>
     some o5
    else
     if(p0.Kind==7) then
      ( Ql3 p0.Name>>=fun x8 =>
       if x8 then
        some ((x1.name_==true)&&((x1.text_==false)&&((x1.num_==false)&&((x1.then_==false)&&((x1.other_==false)&&((x1.l_==0)&&true))))))
       else
        some false:Option (Bool))>>=fun o7 =>
      some o7
     else
      if(p0.Kind==5) then
       ( Ql3 p0.Name>>=fun x10 =>
        if x10 then
         if((x1.name_==true)&&((x1.text_==false)&&((x1.num_==false)&&((x1.then_==false)&&((x1.other_==false)&&((x1.l_==1)&&true)))))) then
          idx p0.L 0>>=fun x11 =>
          Qd9 x11>>=fun x12 =>
          some x12
         else
          some false
        else
         some false:Option (Bool))>>=fun o9 =>
       some o9
      else
       if(p0.Kind==6) then
        ( Qgw p0.Name>>=fun x14 =>
         if x14 then
          if((x1.name_==true)&&((x1.text_==false)&&((x1.num_==false)&&((x1.then_==false)&&((x1.other_==false)&&((x1.l_==(if 3<x1.l_ then 3 else x1.l_))&&true)))))) then
           Qat p0.L>>=fun x15 =>
           some (!x15)
          else
           some false
         else
          some false:Option (Bool))>>=fun o13 =>
        some o13
       else
        some false
 partial_fixpoint
end
theorem Qcj:(∀ (p0:(List Qab)) (o:Bool),Qat p0=some o→CallOK Tryz.prog 56 [.p (.sl false (p0.map Qaa)),.fn (.func 155) [] []] ⟨[],[]⟩ (Qbi o) ⟨[],[]⟩)∧(∀ (p0:(List Qab)) (o:Int),Qa9 p0=some o→CallOK Tryz.prog 83 [.p (.sl false (p0.map Qaa)),.fn (.func 155) [] []] ⟨[],[]⟩ (Qa7 o) ⟨[],[]⟩)∧(∀ (p0:(List Qab)) (v8:Int) (o1:Unit⊕Int),Qan p0 v8=some o1→TL (0,0) Tryz.prog 19 Qcv (JP2 (0,0) 19 o1 (.exit 0) (Qbf p0) .ret (Qbg p0)) (Qaz p0 v8))∧(∀ (p0:Qab) (o:Bool),Qo9 p0=some o→PCall Tryz.prog 155 [.agg [iV p0.Kind,sV p0.Name,sV p0.Text,iV p0.N,.sl false (p0.L.map Qaa),.sl false (p0.Then.map Qaa),.sl false (p0.Else.map Qaa)]] (Qlx o))∧(∀ (p0:Qab) (o:Bool),Qd9 p0=some o→PCall Tryz.prog 128 [.agg [iV p0.Kind,sV p0.Name,sV p0.Text,iV p0.N,.sl false (p0.L.map Qaa),.sl false (p0.Then.map Qaa),.sl false (p0.Else.map Qaa)]] (Qb7 o)):=by
 refine Qat.mutual_partial_correctness _ _ _ _ _ ?_ ?_ ?_ ?_ ?_
 ·intro Qa9' iQa9 p0 o h
  refine CallOK.ofB mixed tbOk Qcs Tryz.func56 rfl (by kernel_rfl) (Nat.le_of_ble_eq_true rfl) rfl rfl rfl ?_
  refine Qc2 _ _ h (fun x1 hy=>((iQa9 p0 x1 hy).fr [] [] rfl rfl rfl)) (fun x1 hy h=>?_)
  refine Exists.intro _ (And.intro (Le.refl _ _ _) ?_)
  exact Qfq (t:=Qbi) (ss:=fun o=>⟨[],[]⟩) h ⟨[],rfl,.refl _,.refl _,rfl⟩
 ·intro Qan' iQan p0 o h
  refine CallOK.ofB mixed tbOk Qbn Tryz.func83 rfl (by kernel_rfl) (Nat.le_of_ble_eq_true rfl) rfl rfl rfl ?_
  refine view (lenMap _ _) rfl ?_
  refine Qag h (fun o1 ho hk=>?_)
  refine Exists.intro (JP2 _ _ o1 (.exit 0) (Qbf p0) .ret (Qbg p0)) (And.intro (T_le (τ := Qaz p0 0) ?_ (TL.loop (iQan p0 0 o1 ho))) (join2 (fun y2 hy=>?_) (fun y3 hy=>?_)))
  ·exact Le.tz 0 0 rfl rfl rfl
  ·have h:=(by rw[hy] at hk; exact hk)
   refine Exists.intro _ (And.intro (Le.refl _ _ _) ?_)
   exact Qfq (t:=Qa7) (ss:=fun o=>⟨[],[]⟩) h ⟨[],rfl,.refl _,.refl _,rfl⟩
  ·have h:=(by rw[hy] at hk; exact hk)
   refine Exists.intro _ (And.intro (Le.refl _ _ _) ?_)
   exact Qfq (t:=Qa7) (ss:=fun o=>⟨[],[]⟩) h ⟨[],rfl,.refl _,.refl _,rfl⟩
 ·intro Qan' Qo9' iQan iQo9 p0 v8 o1 h
  refine TL.round (Qaj mixed tbOk (lv:=Qbn) _ _ _ ?_)
  refine Qae h (fun hb h=>?_) (fun hb h=>?_)
  ·refine Qa6 (l:=p0) (c:=Qaa) (c' := Qa4) h Qam (fun _=>rfl) (by decide) (fun x4 hi h=>?_)
   refine Qah [.agg [iV x4.Kind,sV x4.Name,sV x4.Text,iV x4.N,.sl false (x4.L.map Qaa),.sl false (x4.Then.map Qaa),.sl false (x4.Else.map Qaa)]] Qlx h (fun x5 hy=>(iQo9 x4 x5 hy)) (fun x5 hy h=>?_)
   refine Qae h (fun hb h=>?_) (fun hb h=>?_)
   ·exact JP2.b h (Le.tz 0 0 rfl rfl rfl)
   ·refine TL.le (τ := Qaz p0 (wr (v8+1))) ?_ ((iQan p0 (wr (v8+1)) _ h))
    exact Le.tz 0 0 rfl rfl rfl
  ·exact JP2.a h (Le.tz 0 0 rfl rfl rfl)
 ·intro Qd9' iQd9 p0 o h
  refine PCall.ofB mixed tbOk Qvq Tryz.func155 rfl (by kernel_rfl) (Nat.le_of_ble_eq_true rfl) ?_
  refine Qah [.agg [iV p0.Kind,sV p0.Name,sV p0.Text,iV p0.N,.sl false (p0.L.map Qaa),.sl false (p0.Then.map Qaa),.sl false (p0.Else.map Qaa)]] Qb7 h (fun x1 hy=>(iQd9 p0 x1 hy)) (fun x1 hy h=>?_)
  refine Qal (t:=Qlx) h ?_
  exact .refl _
 ·intro Qat' Qd9' iQat iQd9 p0 o h
  refine PCall.ofB mixed tbOk Q0x Tryz.func128 rfl (by kernel_rfl) (Nat.le_of_ble_eq_true rfl) ?_
  refine Qah [.agg [iV p0.Kind,sV p0.Name,sV p0.Text,iV p0.N,.sl false (p0.L.map Qaa),.sl false (p0.Then.map Qaa),.sl false (p0.Else.map Qaa)]] Qh1 h (fun x1 hy=>(Qno p0 x1 hy)) (fun x1 hy h=>?_)
  refine Qae h (fun hb h=>?_) (fun hb h=>?_)
  ·refine Qah [sV p0.Text] Qlu h (fun x2 hy=>(Q1k p0.Text x2 hy)) (fun x2 hy h=>?_)
   refine Qag h (fun o3 ho hk=>?_)
   refine Exists.intro (JP1 _ _ o3 .normal (Qvk p0 x1)) (And.intro ?_ (join1 ?_))
   ·have h:=ho
    refine Qae h (fun hb h=>?_) (fun hb h=>?_)
    ·refine And.intro rfl ?_
     refine JP1.a h ?_
     exact Le.tz 3 0 rfl rfl rfl
    ·refine JP1.a h ?_
     exact Le.tz 3 0 rfl rfl rfl
   ·have h:=hk
    refine Qal (t:=Qb7) h ?_
    exact .refl _
  ·refine Qae h (fun hb h=>?_) (fun hb h=>?_)
   ·refine And.intro rfl ?_
    refine Qal (t:=Qb7) h ?_
    exact .refl _
   ·refine Qae h (fun hb h=>?_) (fun hb h=>?_)
    ·refine Qag h (fun o4 ho hk=>?_)
     refine Exists.intro (JP1 _ _ o4 .normal (Qvl p0 x1)) (And.intro ?_ (join1 ?_))
     ·have h:=ho
      refine Qae h (fun hb h=>?_) (fun hb h=>?_)
      ·refine And.intro rfl ?_
       refine JP1.a h ?_
       exact Le.tz 3 0 rfl rfl rfl
      ·refine JP1.a h ?_
       exact Le.tz 3 0 rfl rfl rfl
     ·have h:=hk
      refine Qal (t:=Qb7) h ?_
      exact .refl _
    ·refine Qae h (fun hb h=>?_) (fun hb h=>?_)
     ·refine Qag h (fun o5 ho hk=>?_)
      refine Exists.intro (JP1 _ _ o5 .normal (Qvm p0 x1)) (And.intro ?_ (join1 ?_))
      ·have h:=ho
       refine Qah [sV p0.Name] Qen h (fun x6 hy=>(Qie p0.Name x6 hy)) (fun x6 hy h=>?_)
       refine Qae h (fun hb h=>?_) (fun hb h=>?_)
       ·refine And.intro rfl ?_
        refine JP1.a h ?_
        exact Le.tz 3 0 rfl rfl rfl
       ·refine JP1.a h ?_
        exact Le.tz 3 0 rfl rfl rfl
      ·have h:=hk
       refine Qal (t:=Qb7) h ?_
       exact .refl _
     ·refine Qae h (fun hb h=>?_) (fun hb h=>?_)
      ·refine Qag h (fun o7 ho hk=>?_)
       refine Exists.intro (JP1 _ _ o7 .normal (Qvn p0 x1)) (And.intro ?_ (join1 ?_))
       ·have h:=ho
        refine Qah [sV p0.Name] Qi6 h (fun x8 hy=>(Qo8 p0.Name x8 hy)) (fun x8 hy h=>?_)
        refine Qae h (fun hb h=>?_) (fun hb h=>?_)
        ·refine And.intro rfl ?_
         refine JP1.a h ?_
         exact Le.tz 3 0 rfl rfl rfl
        ·refine JP1.a h ?_
         exact Le.tz 3 0 rfl rfl rfl
       ·have h:=hk
        refine Qal (t:=Qb7) h ?_
        exact .refl _
      ·refine Qae h (fun hb h=>?_) (fun hb h=>?_)
       ·refine Qag h (fun o9 ho hk=>?_)
        refine Exists.intro (JP1 _ _ o9 .normal (Qvo p0 x1)) (And.intro ?_ (join1 ?_))
        ·have h:=ho
         refine Qah [sV p0.Name] Qi6 h (fun x10 hy=>(Qo8 p0.Name x10 hy)) (fun x10 hy h=>?_)
         refine Qae h (fun hb h=>?_) (fun hb h=>?_)
         ·refine And.intro rfl ?_
          refine Qae h (fun hb h=>?_) (fun hb h=>?_)
          ·refine Qa6 (l:=p0.L) (c:=Qaa) (c' := Qa4) h Qam (fun _=>rfl) (by decide) (fun x11 hi h=>?_)
           refine Qah [.agg [iV x11.Kind,sV x11.Name,sV x11.Text,iV x11.N,.sl false (x11.L.map Qaa),.sl false (x11.Then.map Qaa),.sl false (x11.Else.map Qaa)]] Qb7 h (fun x12 hy=>(iQd9 x11 x12 hy)) (fun x12 hy h=>?_)
           refine JP1.a h ?_
           exact Le.tz 3 0 rfl rfl rfl
          ·refine JP1.a h ?_
           exact Le.tz 3 0 rfl rfl rfl
         ·refine bF ?_
          refine JP1.a h ?_
          exact Le.tz 3 0 rfl rfl rfl
        ·have h:=hk
         refine Qal (t:=Qb7) h ?_
         exact .refl _
       ·refine Qae h (fun hb h=>?_) (fun hb h=>?_)
        ·refine Qag h (fun o13 ho hk=>?_)
         refine Exists.intro (JP1 _ _ o13 .normal (Qvp p0 x1)) (And.intro ?_ (join1 ?_))
         ·have h:=ho
          refine Qah [sV p0.Name] Qen h (fun x14 hy=>(Qie p0.Name x14 hy)) (fun x14 hy h=>?_)
          refine Qae h (fun hb h=>?_) (fun hb h=>?_)
          ·refine And.intro rfl ?_
           refine Qae h (fun hb h=>?_) (fun hb h=>?_)
           ·refine Qc2 _ _ h (fun x15 hy=>((iQat p0.L x15 hy).fr [] [] rfl rfl rfl)) (fun x15 hy h=>?_)
            refine JP1.a h ?_
            exact Le.tz 3 0 rfl rfl rfl
           ·refine JP1.a h ?_
            exact Le.tz 3 0 rfl rfl rfl
          ·refine bF ?_
           refine JP1.a h ?_
           exact Le.tz 3 0 rfl rfl rfl
         ·have h:=hk
          refine Qal (t:=Qb7) h ?_
          exact .refl _
        ·refine Qal (t:=Qb7) h ?_
         exact .refl _
theorem Q1l:∀ (p0:Qab) (o:Bool),Qd9 p0=some o→PCall Tryz.prog 128 [.agg [iV p0.Kind,sV p0.Name,sV p0.Text,iV p0.N,.sl false (p0.L.map Qaa),.sl false (p0.Then.map Qaa),.sl false (p0.Else.map Qaa)]] (Qb7 o):=fun p0=>Qcj.2.2.2.2 p0
mutual
noncomputable def Qf8 (p0:(List Qab)) (p1:Bool):Option (Bool) :=
 (Qfd p0 p1 0)>>=fun o1 =>
 match o1 with
 | .inl y2 =>
  some true
 | .inr y3 =>
  some false
 partial_fixpoint
noncomputable def Qfd (p0:(List Qab)) (p1:Bool) (v10:Int):Option (Unit⊕Unit) :=
 if(decide (v10<(p0.length:Int))) then
  idx p0 v10>>=fun x4 =>
  Qnp x4>>=fun x5 =>
  if(!x5) then
   some (.inr ())
  else
   ( if(x4.Kind==8) then
     if(!(v10==(wr ((p0.length:Int)-1)))) then
      idx p0 (wr (v10+1))>>=fun x7 =>
      if(x7.Kind==8) then
       some true
      else
       if(v10==(wr ((p0.length:Int)-1))) then
        if(!p1) then
         strings_HasSuffix x4.Text [123]>>=fun x8 =>
         some x8
        else
         some false
       else
        strings_HasSuffix x4.Text [123]>>=fun x9 =>
        some x9
     else
      if(v10==(wr ((p0.length:Int)-1))) then
       if(!p1) then
        strings_HasSuffix x4.Text [123]>>=fun x10 =>
        some x10
       else
        some false
      else
       strings_HasSuffix x4.Text [123]>>=fun x11 =>
       some x11
    else
     some false:Option (Bool))>>=fun o6 =>
   if o6 then
    some (.inr ())
   else
    Qfd p0 p1 (wr (v10+1))
 else
  some (.inl ())
 partial_fixpoint
noncomputable def Qnp (p0:Qab):Option (Bool) :=
 Qf7 p0>>=fun x1 =>
 ( if(p0.Kind==8) then
   ( if((x1.name_==false)&&((x1.text_==true)&&((x1.num_==false)&&((x1.then_==false)&&((x1.other_==false)&&((x1.l_==0)&&true)))))) then
     strings_Contains p0.Text [123,123]>>=fun x6 =>
     some (!x6)
    else
     some false:Option (Bool))>>=fun o5 =>
   some (.inr o5)
  else
   if(p0.Kind==9) then
    some (.inl (false,false,false))
   else
    if(p0.Kind==10) then
     some (.inl (false,x1.then_,x1.other_))
    else
     ( if(p0.Kind==11) then
       some (p0.Kind==11)
      else
       some (p0.Kind==12):Option (Bool))>>=fun o7 =>
     if o7 then
      Qgw p0.Name>>=fun x8 =>
      some (.inl (x8,x1.then_,false))
     else
      if(p0.Kind==13) then
       Qgw p0.Name>>=fun x9 =>
       some (.inl (x9,false,false))
      else
       some (.inr false):Option ((Bool×Bool×Bool)⊕Bool))>>=fun o2 =>
 match o2 with
 | .inl y3 =>
  ( if(p0.Kind==11) then
    some true
   else
    if(p0.Kind==12) then
     some true
    else
     some (p0.Kind==13):Option (Bool))>>=fun o10 =>
  ( if(y3.1==o10) then
    if((x1.name_==y3.1)&&((x1.text_==false)&&((x1.num_==false)&&((x1.then_==y3.2.1)&&((x1.other_==y3.2.2)&&((x1.l_==1)&&true)))))) then
     idx p0.L 0>>=fun x12 =>
     Qd9 x12>>=fun x13 =>
     if x13 then
      Qf8 p0.Then false>>=fun x14 =>
      if x14 then
       Qf8 p0.Else false>>=fun x15 =>
       some x15
      else
       some false
     else
      some false
    else
     some false
   else
    some false:Option (Bool))>>=fun o11 =>
  some o11
 | .inr y4 =>
  some y4
 partial_fixpoint
end
theorem Qv8:(∀ (p0:(List Qab)) (p1:Bool) (o:Bool),Qf8 p0 p1=some o→PCall Tryz.prog 72 [.sl false (p0.map Qaa),bV p1] (Qeo o))∧(∀ (p0:(List Qab)) (p1:Bool) (v10:Int) (o1:Unit⊕Unit),Qfd p0 p1 v10=some o1→TL (0,0) Tryz.prog 52 Qtx (JP2 (0,0) 52 o1 (.exit 0) (Qmj p0 p1) .ret (Qmk p0 p1)) (Qip p0 p1 v10))∧(∀ (p0:Qab) (o:Bool),Qnp p0=some o→PCall Tryz.prog 97 [.agg [iV p0.Kind,sV p0.Name,sV p0.Text,iV p0.N,.sl false (p0.L.map Qaa),.sl false (p0.Then.map Qaa),.sl false (p0.Else.map Qaa)]] (Qly o)):=by
 refine Qf8.mutual_partial_correctness _ _ _ ?_ ?_ ?_
 ·intro Qfd' iQfd p0 p1 o h
  refine PCall.ofB mixed tbOk Qp1 Tryz.func72 rfl (by kernel_rfl) (Nat.le_of_ble_eq_true rfl) ?_
  refine view (lenMap _ _) rfl ?_
  refine Qag h (fun o1 ho hk=>?_)
  refine Exists.intro (JP2 _ _ o1 (.exit 0) (Qmj p0 p1) .ret (Qmk p0 p1)) (And.intro (T_le (τ := Qip p0 p1 0) ?_ (TL.loop (iQfd p0 p1 0 o1 ho))) (join2 (fun y2 hy=>?_) (fun y3 hy=>?_)))
  ·exact Le.tz 0 0 rfl rfl rfl
  ·have h:=(by rw[hy] at hk; exact hk)
   refine Qal (t:=Qeo) h ?_
   exact .refl _
  ·have h:=(by rw[hy] at hk; exact hk)
   refine Qal (t:=Qeo) h ?_
   exact .refl _
 ·intro Qfd' Qnp' iQfd iQnp p0 p1 v10 o1 h
  refine TL.round (Qaj mixed tbOk (lv:=Qp1) _ _ _ ?_)
  refine Qae h (fun hb h=>?_) (fun hb h=>?_)
  ·refine Qa6 (l:=p0) (c:=Qaa) (c' := Qa4) h Qam (fun _=>rfl) (by decide) (fun x4 hi h=>?_)
   refine Qah [.agg [iV x4.Kind,sV x4.Name,sV x4.Text,iV x4.N,.sl false (x4.L.map Qaa),.sl false (x4.Then.map Qaa),.sl false (x4.Else.map Qaa)]] Qly h (fun x5 hy=>(iQnp x4 x5 hy)) (fun x5 hy h=>?_)
   refine Qae h (fun hb h=>?_) (fun hb h=>?_)
   ·exact JP2.b h (Le.tz 0 0 rfl rfl rfl)
   ·refine view (lenMap _ _) rfl ?_
    refine Qag h (fun o6 ho hk=>?_)
    refine Exists.intro (JP1 _ _ o6 .normal (Qtw p0 p1 v10 x4)) (And.intro ?_ (join1 ?_))
    ·have h:=ho
     refine Qae h (fun hb h=>?_) (fun hb h=>?_)
     ·refine Qae h (fun hb h=>?_) (fun hb h=>?_)
      ·refine Qa6 (l:=p0) (c:=Qaa) (c' := Qa4) h Qam (fun _=>rfl) (by decide) (fun x7 hi h=>?_)
       refine Qae h (fun hb h=>?_) (fun hb h=>?_)
       ·refine JP1.a h ?_
        exact Le.tz 1 0 rfl rfl rfl
       ·refine Qae h (fun hb h=>?_) (fun hb h=>?_)
        ·refine Qae h (fun hb h=>?_) (fun hb h=>?_)
         ·refine Qah [sV x4.Text,sV [123]] Qb6 h (fun x8 hy=>(Qdm x4.Text [123] x8 hy)) (fun x8 hy h=>?_)
          refine JP1.a h ?_
          exact Le.tz 1 0 rfl rfl rfl
         ·refine JP1.a h ?_
          exact Le.tz 1 0 rfl rfl rfl
        ·refine bT ?_
         refine Qah [sV x4.Text,sV [123]] Qb6 h (fun x9 hy=>(Qdm x4.Text [123] x9 hy)) (fun x9 hy h=>?_)
         refine JP1.a h ?_
         exact Le.tz 1 0 rfl rfl rfl
      ·refine bF ?_
       refine Qae h (fun hb h=>?_) (fun hb h=>?_)
       ·refine Qae h (fun hb h=>?_) (fun hb h=>?_)
        ·refine Qah [sV x4.Text,sV [123]] Qb6 h (fun x10 hy=>(Qdm x4.Text [123] x10 hy)) (fun x10 hy h=>?_)
         refine JP1.a h ?_
         exact Le.tz 1 0 rfl rfl rfl
        ·refine JP1.a h ?_
         exact Le.tz 1 0 rfl rfl rfl
       ·refine bT ?_
        refine Qah [sV x4.Text,sV [123]] Qb6 h (fun x11 hy=>(Qdm x4.Text [123] x11 hy)) (fun x11 hy h=>?_)
        refine JP1.a h ?_
        exact Le.tz 1 0 rfl rfl rfl
     ·refine JP1.a h ?_
      exact Le.tz 1 0 rfl rfl rfl
    ·have h:=hk
     refine Qae h (fun hb h=>?_) (fun hb h=>?_)
     ·exact JP2.b h (Le.tz 0 0 rfl rfl rfl)
     ·refine TL.le (τ := Qip p0 p1 (wr (v10+1))) ?_ ((iQfd p0 p1 (wr (v10+1)) _ h))
      exact Le.tz 0 0 rfl rfl rfl
  ·exact JP2.a h (Le.tz 0 0 rfl rfl rfl)
 ·intro Qf8' iQf8 p0 o h
  refine PCall.ofB mixed tbOk Q0y Tryz.func97 rfl (by kernel_rfl) (Nat.le_of_ble_eq_true rfl) ?_
  refine Qah [.agg [iV p0.Kind,sV p0.Name,sV p0.Text,iV p0.N,.sl false (p0.L.map Qaa),.sl false (p0.Then.map Qaa),.sl false (p0.Else.map Qaa)]] Qh1 h (fun x1 hy=>(Qno p0 x1 hy)) (fun x1 hy h=>?_)
  refine Qag h (fun o2 ho hk=>?_)
  refine Exists.intro (JP2 _ _ o2 .normal (Qvr p0 x1) .ret (Qvs p0 x1)) (And.intro ?_ (join2 (fun y3 hy=>?_) (fun y4 hy=>?_)))
  ·have h:=ho
   refine Qae h (fun hb h=>?_) (fun hb h=>?_)
   ·refine Qag h (fun o5 ho hk=>?_)
    refine Exists.intro (JP1 _ _ o5 .normal (Qvt p0 x1)) (And.intro ?_ (join1 ?_))
    ·have h:=ho
     refine And.intro rfl ?_
     refine Qae h (fun hb h=>?_) (fun hb h=>?_)
     ·refine Qah [sV p0.Text,sV [123,123]] Qgp h (fun x6 hy=>(Qo7 p0.Text [123,123] x6 hy)) (fun x6 hy h=>?_)
      refine JP1.a h ?_
      exact Le.tz 3 0 rfl rfl rfl
     ·refine JP1.a h ?_
      exact Le.tz 3 0 rfl rfl rfl
    ·have h:=hk
     refine JP2.b h ?_
     exact Le.tz 3 0 rfl rfl rfl
   ·refine Qae h (fun hb h=>?_) (fun hb h=>?_)
    ·refine JP2.a h ?_
     exact Le.tz 3 0 rfl rfl rfl
    ·refine Qae h (fun hb h=>?_) (fun hb h=>?_)
     ·refine And.intro (by decide +kernel) (And.intro rfl ?_)
      refine JP2.a h ?_
      exact Le.tz 3 0 rfl rfl rfl
     ·refine Qag h (fun o7 ho hk=>?_)
      refine Exists.intro (JP1 _ _ o7 .normal (Qvu p0 x1)) (And.intro ?_ (join1 ?_))
      ·have h:=ho
       refine Qae h (fun hb h=>?_) (fun hb h=>?_)
       ·refine JP1.a h ?_
        exact Le.tz 3 0 rfl rfl rfl
       ·refine JP1.a h ?_
        exact Le.tz 3 0 rfl rfl rfl
      ·have h:=hk
       refine Qae h (fun hb h=>?_) (fun hb h=>?_)
       ·refine And.intro (by decide +kernel) (And.intro rfl ?_)
        refine Qe6 [sV p0.Name] Qen h (fun x8 hy=>(Qie p0.Name x8 hy)) (fun x8 hy h=>?_)
        refine JP2.a h ?_
        exact Le.tz 3 0 rfl rfl rfl
       ·refine Qae h (fun hb h=>?_) (fun hb h=>?_)
        ·refine Qah [sV p0.Name] Qen h (fun x9 hy=>(Qie p0.Name x9 hy)) (fun x9 hy h=>?_)
         refine JP2.a h ?_
         exact Le.tz 3 0 rfl rfl rfl
        ·refine JP2.b h ?_
         exact Le.tz 3 0 rfl rfl rfl
  ·have h:=(by rw[hy] at hk; exact hk)
   refine Qag h (fun o10 ho hk=>?_)
   refine Exists.intro (JP1 _ _ o10 .normal (Qvv p0 x1 y3)) (And.intro ?_ (join1 ?_))
   ·have h:=ho
    refine Qae h (fun hb h=>?_) (fun hb h=>?_)
    ·refine bT ?_
     refine JP1.a h ?_
     exact Le.tz 3 0 rfl rfl rfl
    ·refine Qae h (fun hb h=>?_) (fun hb h=>?_)
     ·refine JP1.a h ?_
      exact Le.tz 3 0 rfl rfl rfl
     ·refine JP1.a h ?_
      exact Le.tz 3 0 rfl rfl rfl
   ·have h:=hk
    refine Qag h (fun o11 ho hk=>?_)
    refine Exists.intro (JP1 _ _ o11 .normal (Qvw p0 x1 y3)) (And.intro ?_ (join1 ?_))
    ·have h:=ho
     refine Qae h (fun hb h=>?_) (fun hb h=>?_)
     ·refine And.intro rfl ?_
      refine Qae h (fun hb h=>?_) (fun hb h=>?_)
      ·refine Qa6 (l:=p0.L) (c:=Qaa) (c' := Qa4) h Qam (fun _=>rfl) (by decide) (fun x12 hi h=>?_)
       refine Qah [.agg [iV x12.Kind,sV x12.Name,sV x12.Text,iV x12.N,.sl false (x12.L.map Qaa),.sl false (x12.Then.map Qaa),.sl false (x12.Else.map Qaa)]] Qb7 h (fun x13 hy=>(Q1l x12 x13 hy)) (fun x13 hy h=>?_)
       refine Qae h (fun hb h=>?_) (fun hb h=>?_)
       ·refine Qah [.sl false (p0.Then.map Qaa),bV false] Qeo h (fun x14 hy=>(iQf8 p0.Then false x14 hy)) (fun x14 hy h=>?_)
        refine Qae h (fun hb h=>?_) (fun hb h=>?_)
        ·refine Qah [.sl false (p0.Else.map Qaa),bV false] Qeo h (fun x15 hy=>(iQf8 p0.Else false x15 hy)) (fun x15 hy h=>?_)
         refine JP1.a h ?_
         exact Le.tz 3 0 rfl rfl rfl
        ·refine JP1.a h ?_
         exact Le.tz 3 0 rfl rfl rfl
       ·refine bF ?_
        refine JP1.a h ?_
        exact Le.tz 3 0 rfl rfl rfl
      ·refine bF ?_
       refine bF ?_
       refine JP1.a h ?_
       exact Le.tz 3 0 rfl rfl rfl
     ·refine bF ?_
      refine bF ?_
      refine bF ?_
      refine JP1.a h ?_
      exact Le.tz 3 0 rfl rfl rfl
    ·have h:=hk
     refine Qal (t:=Qly) h ?_
     exact .refl _
  ·have h:=(by rw[hy] at hk; exact hk)
   refine Qal (t:=Qly) h ?_
   exact .refl _
theorem Qza:∀ (p0:(List Qab)) (p1:Bool) (o:Bool),Qf8 p0 p1=some o→PCall Tryz.prog 72 [.sl false (p0.map Qaa),bV p1] (Qeo o):=fun p0 p1=>Qv8.1 p0 p1
noncomputable def Qup (p0:(List Qab)):Option (Bool) :=
 ( Qnn p0>>=fun x2 =>
  if(decide (x2≤12)) then
   Qlg p0>>=fun x3 =>
   if(decide (x3≤1024)) then
    Qf8 p0 true>>=fun x4 =>
    some x4
   else
    some false
  else
   some false:Option (Bool))>>=fun o1 =>
 some o1
theorem Q43:∀ (p0:(List Qab)) (o:Bool),Qup p0=some o→PCall Tryz.prog 38 [.sl false (p0.map Qaa)] (Qtt o):=by
 intro p0 o h
 unfold Qup at h
 refine PCall.ofB mixed tbOk Q40 Tryz.func38 rfl (by kernel_rfl) (Nat.le_of_ble_eq_true rfl) ?_
 refine Qag h (fun o1 ho hk=>?_)
 refine Exists.intro (JP1 _ _ o1 .normal (Q0v )) (And.intro ?_ (join1 ?_))
 ·have h:=ho
  refine Qah [.sl false (p0.map Qaa)] Qo2 h (fun x2 hy=>(Q1g p0 x2 hy)) (fun x2 hy h=>?_)
  refine Qae h (fun hb h=>?_) (fun hb h=>?_)
  ·refine Qah [.sl false (p0.map Qaa)] Qng h (fun x3 hy=>(Qy6 p0 x3 hy)) (fun x3 hy h=>?_)
   refine Qae h (fun hb h=>?_) (fun hb h=>?_)
   ·refine Qah [.sl false (p0.map Qaa),bV true] Qeo h (fun x4 hy=>(Qza p0 true x4 hy)) (fun x4 hy h=>?_)
    refine JP1.a h ?_
    exact Le.tz 0 0 rfl rfl rfl
   ·refine JP1.a h ?_
    exact Le.tz 0 0 rfl rfl rfl
  ·refine bF ?_
   refine JP1.a h ?_
   exact Le.tz 0 0 rfl rfl rfl
 ·have h:=hk
  refine Qal (t:=Qtt) h ?_
  exact .refl _
noncomputable def Qcl (p0:(List Qac)) (v22:Int):Option (Unit⊕((List UInt8)×Int)) :=
 if(decide (v22<(p0.length:Int))) then
  idx p0 v22>>=fun x4 =>
  ( Qgw x4.Name>>=fun x6 =>
   if(!x6) then
    some true
   else
    Qup x4.L>>=fun x7 =>
    some (!x7):Option (Bool))>>=fun o5 =>
  if o5 then
   some (.inr (x4.Name,7))
  else
   cutL p0 0 v22>>=fun x8 =>
   Qi8 x8 x4.Name>>=fun x9 =>
   if x9.2 then
    some (.inr (x4.Name,9))
   else
    Qcl p0 (wr (v22+1))
 else
  some (.inl ())
 partial_fixpoint
theorem Qqb:∀ (p0:(List Qac)),(∀ (v22:Int) (o1:Unit⊕((List UInt8)×Int)),Qcl p0 v22=some o1→TL (0,0) Tryz.prog 102 Qma (JP2 (0,0) 102 o1 (.exit 0) (Qhc p0) .ret (Qhd p0)) (Qe7 p0 v22)):=by
 intro p0
 refine Qcl.partial_correctness p0 _ ?_
 intro Qcl' iQcl v22 o1 h
 refine TL.round (Qaj mixed tbOk (lv:=Qfi) _ _ _ ?_)
 refine Qae h (fun hb h=>?_) (fun hb h=>?_)
 ·refine Qa6 (l:=p0) (c:=Qaf) (c' := Qaf) h (fun _=>rfl) (fun _=>rfl) (by decide) (fun x4 hi h=>?_)
  refine Qag h (fun o5 ho hk=>?_)
  refine Exists.intro (JP1 _ _ o5 .normal (Qry p0 v22 x4)) (And.intro ?_ (join1 ?_))
  ·have h:=ho
   refine Qah [sV x4.Name] Qen h (fun x6 hy=>(Qie x4.Name x6 hy)) (fun x6 hy h=>?_)
   refine Qae h (fun hb h=>?_) (fun hb h=>?_)
   ·refine JP1.a h ?_
    exact Le.tz 1 0 rfl rfl rfl
   ·refine Qah [.sl false (x4.L.map Qaa)] Qtt h (fun x7 hy=>(Q43 x4.L x7 hy)) (fun x7 hy h=>?_)
    refine JP1.a h ?_
    exact Le.tz 1 0 rfl rfl rfl
  ·have h:=hk
   refine Qae h (fun hb h=>?_) (fun hb h=>?_)
   ·exact JP2.b h (Le.tz 0 0 rfl rfl rfl)
   ·refine And.intro (by decide +kernel) (And.intro rfl ?_)
    refine Q3v (c:=Qaf) none (some v22) h (fun _=>rfl) (fun x8 hi h=>?_)
    refine Qe6 [.sl false (x8.map Qaf),sV x4.Name] Qh8 h (fun x9 hy=>(Qp7 x8 x4.Name x9 hy)) (fun x9 hy h=>?_)
    refine Qae h (fun hb h=>?_) (fun hb h=>?_)
    ·exact JP2.b h (Le.tz 0 0 rfl rfl rfl)
    ·refine TL.le (τ := Qe7 p0 (wr (v22+1))) ?_ ((iQcl (wr (v22+1)) _ h))
     exact Le.tz 0 0 rfl rfl rfl
 ·exact JP2.a h (Le.tz 0 0 rfl rfl rfl)
theorem Qq5:∀ (p0:(List Qac)) (v22:Int) (o1:Unit⊕((List UInt8)×Int)),Qcl p0 v22=some o1→TL (0,0) Tryz.prog 102 Qma (JP2 (0,0) 102 o1 (.exit 0) (Qhc p0) .ret (Qhd p0)) (Qe7 p0 v22):=fun p0 v22=>(Qqb p0) v22
noncomputable def Qcm (p0:(List Qac)) (x10:(List ((List UInt8)×(List (List UInt8))))) (v56:Int) (x14:Qac) (v66:Int):Option (Unit⊕Unit) :=
 if(decide (v66<(((mget (fun a b=>a==b) x14.Name x10).getD []).length:Int))) then
  idx ((mget (fun a b=>a==b) x14.Name x10).getD []) v66>>=fun x18 =>
  if(!((mget (fun a b=>a==b) x18 x10).isSome)) then
   some (.inr ())
  else
   Qcm p0 x10 v56 x14 (wr (v66+1))
 else
  some (.inl ())
 partial_fixpoint
theorem Qqc:∀ (p0:(List Qac)) (x10:(List ((List UInt8)×(List (List UInt8))))) (v56:Int) (x14:Qac),(∀ (v66:Int) (o15:Unit⊕Unit),Qcm p0 x10 v56 x14 v66=some o15→TL (0,0) Tryz.prog 102 Qmb (JP2 (0,0) 102 o15 (.exit 4) (Qhe p0 x10 v56 x14) .ret (Qhf p0 x10 v56 x14)) (Qe8 p0 x10 v56 x14 v66)):=by
 intro p0 x10 v56 x14
 refine Qcm.partial_correctness p0 x10 v56 x14 _ ?_
 intro Qcm' iQcm v66 o15 h
 refine TL.round (Qaj mixed tbOk (lv:=Qfi) _ _ _ ?_)
 refine Qae h (fun hb h=>?_) (fun hb h=>?_)
 ·refine Qa6 (l:=((mget (fun a b=>a==b) x14.Name x10).getD [])) (c:=cStr) (c' := cStr) h (fun _=>rfl) (fun _=>rfl) (by decide) (fun x18 hi h=>?_)
  refine Qow (l:=x10) (k:=x18) (fun a b=>a==b) (ck:=sV) (ca:=(fun x =>.sl false (x.map cStr))) (z0:=[]) (by exact rfl) (by exact rfl) (by exact rfl) (by exact fun _ _=>rfl) (by exact rfl) (by exact .not) ?_
  refine Qae h (fun hb h=>?_) (fun hb h=>?_)
  ·exact JP2.b h (Le.tz 3 0 rfl rfl rfl)
  ·refine TL.le (τ := Qe8 p0 x10 v56 x14 (wr (v66+1))) ?_ ((iQcm (wr (v66+1)) _ h))
   exact Le.tz 3 0 rfl rfl rfl
 ·exact JP2.a h (Le.tz 3 0 rfl rfl rfl)
theorem Qq6:∀ (p0:(List Qac)) (x10:(List ((List UInt8)×(List (List UInt8))))) (v56:Int) (x14:Qac) (v66:Int) (o15:Unit⊕Unit),Qcm p0 x10 v56 x14 v66=some o15→TL (0,0) Tryz.prog 102 Qmb (JP2 (0,0) 102 o15 (.exit 4) (Qhe p0 x10 v56 x14) .ret (Qhf p0 x10 v56 x14)) (Qe8 p0 x10 v56 x14 v66):=fun p0 x10 v56 x14 v66=>(Qqc p0 x10 v56 x14) v66
noncomputable def Qcn (p0:(List Qac)) (x10:(List ((List UInt8)×(List (List UInt8))))) (v56:Int):Option (Unit⊕(List UInt8)) :=
 if(decide (v56<(p0.length:Int))) then
  idx p0 v56>>=fun x14 =>
  (Qcm p0 x10 v56 x14 0)>>=fun o15 =>
  match o15 with
  | .inl y16 =>
   Qcn p0 x10 (wr (v56+1))
  | .inr y17 =>
   some (.inr x14.Name)
 else
  some (.inl ())
 partial_fixpoint
theorem Qqd:∀ (p0:(List Qac)) (x10:(List ((List UInt8)×(List (List UInt8))))),(∀ (v56:Int) (o11:Unit⊕(List UInt8)),Qcn p0 x10 v56=some o11→TL (0,0) Tryz.prog 102 Qmc (JP2 (0,0) 102 o11 (.exit 2) (Qhg p0 x10) .ret (Qhh p0 x10)) (Qe9 p0 x10 v56)):=by
 intro p0 x10
 refine Qcn.partial_correctness p0 x10 _ ?_
 intro Qcn' iQcn v56 o11 h
 refine TL.round (Qaj mixed tbOk (lv:=Qfi) _ _ _ ?_)
 refine Qae h (fun hb h=>?_) (fun hb h=>?_)
 ·refine Qa6 (l:=p0) (c:=Qaf) (c' := Qaf) h (fun _=>rfl) (fun _=>rfl) (by decide) (fun x14 hi h=>?_)
  refine Qow (l:=x10) (k:=x14.Name) (fun a b=>a==b) (ck:=sV) (ca:=(fun x =>.sl false (x.map cStr))) (z0:=[]) (by exact rfl) (by exact rfl) (by exact rfl) (by exact fun _ _=>rfl) (by exact rfl) (by exact .not) ?_
  refine view (lenMap _ _) rfl ?_
  refine Qag h (fun o15 ho hk=>?_)
  refine Exists.intro (JP2 _ _ o15 (.exit 4) (Qhe p0 x10 v56 x14) .ret (Qhf p0 x10 v56 x14)) (And.intro (T_le (τ := Qe8 p0 x10 v56 x14 0) ?_ (TL.loop (Qq6 p0 x10 v56 x14 0 o15 ho))) (join2 (fun y16 hy=>?_) (fun y17 hy=>?_)))
  ·exact Le.tz 3 0 rfl rfl rfl
  ·have h:=(by rw[hy] at hk; exact hk)
   refine TL.le (τ := Qe9 p0 x10 (wr (v56+1))) ?_ ((iQcn (wr (v56+1)) _ h))
   exact Le.tz 2 0 rfl rfl rfl
  ·have h:=(by rw[hy] at hk; exact hk)
   exact JP2.b h (Le.tz 2 0 rfl rfl rfl)
 ·exact JP2.a h (Le.tz 2 0 rfl rfl rfl)
theorem Qq7:∀ (p0:(List Qac)) (x10:(List ((List UInt8)×(List (List UInt8))))) (v56:Int) (o11:Unit⊕(List UInt8)),Qcn p0 x10 v56=some o11→TL (0,0) Tryz.prog 102 Qmc (JP2 (0,0) 102 o11 (.exit 2) (Qhg p0 x10) .ret (Qhh p0 x10)) (Qe9 p0 x10 v56):=fun p0 x10 v56=>(Qqd p0 x10) v56
noncomputable def Qbl (h0_0:(List ((List UInt8)×(List (List UInt8))))) (x1:(List (List UInt8))) (v17:Int) (h2_0:(List ((List UInt8)×Int))):Option (((List ((List UInt8)×Int)))) :=
 if(decide (v17<(x1.length:Int))) then
  idx x1 v17>>=fun x3 =>
  Qbl h0_0 x1 (wr (v17+1)) (mset (fun a b=>a==b) x3 1 h2_0)
 else
  some h2_0
 partial_fixpoint
theorem Ql4:∀ (h0_0:(List ((List UInt8)×(List (List UInt8))))) (x1:(List (List UInt8))),(∀ (v17:Int) (h2_0:(List ((List UInt8)×Int))) (o2:((List ((List UInt8)×Int)))),Qbl h0_0 x1 v17 h2_0=some o2→TL (1,0) Tryz.prog 56 Qh9 (JP1 (1,0) 56 o2 (.exit 0) (Qee h0_0 x1)) (Qc3 h0_0 x1 v17 h2_0)):=by
 intro h0_0 x1
 refine Qbl.partial_correctness h0_0 x1 _ ?_
 intro Qbl' iQbl v17 h2_0 o2 h
 refine TL.round (Qaj mixed tbOk (lv:=Qd3) _ _ _ ?_)
 refine Qae h (fun hb h=>?_) (fun hb h=>?_)
 ·refine Qxw (l:=x1) (c:=cStr) (c' := cStr) h rfl (fun _=>rfl) (fun _=>rfl) (by decide) (fun x3 hi h=>?_)
  refine And.intro rfl (And.intro (Nat.le_of_ble_eq_true rfl) ?_)
  refine Q6a (l:=h2_0) (k:=x3) (x:=1) (fun a b=>a==b) (ck:=sV) (ca:=iV) (by exact rfl) (by exact rfl) (by exact rfl) (by exact .refl _) (by exact fun _ _=>rfl) ?_
  refine TL.le (τ := Qc3 h0_0 x1 (wr (v17+1)) (mset (fun a b=>a==b) x3 1 h2_0)) ?_ ((iQbl (wr (v17+1)) (mset (fun a b=>a==b) x3 1 h2_0) _ h))
  exact Le.tz 3 1 rfl rfl rfl
 ·exact JP1.a h (Le.tz 3 1 rfl rfl rfl)
theorem Qmo:∀ (h0_0:(List ((List UInt8)×(List (List UInt8))))) (x1:(List (List UInt8))) (v17:Int) (h2_0:(List ((List UInt8)×Int))) (o2:((List ((List UInt8)×Int)))),Qbl h0_0 x1 v17 h2_0=some o2→TL (1,0) Tryz.prog 56 Qh9 (JP1 (1,0) 56 o2 (.exit 0) (Qee h0_0 x1)) (Qc3 h0_0 x1 v17 h2_0):=fun h0_0 x1 v17 h2_0=>(Ql4 h0_0 x1) v17 h2_0
noncomputable def Qbb (h0_0:(List ((List UInt8)×(List (List UInt8))))) (v9:Int) (x5:(List UInt8)) (v6_:(List (List UInt8))) (v38:Int) (h2_0_:(List ((List UInt8)×Int))):Option (((List (List UInt8))×(List ((List UInt8)×Int)))) :=
 if(decide (v38<(((mget (fun a b=>a==b) x5 h0_0).getD []).length:Int))) then
  idx ((mget (fun a b=>a==b) x5 h0_0).getD []) v38>>=fun x7 =>
  if(((mget (fun a b=>a==b) x7 h2_0_).getD 0)==0) then
   appL 16 v6_ [x7]>>=fun x8 =>
   Qbb h0_0 v9 x5 x8 (wr (v38+1)) (mset (fun a b=>a==b) x7 1 h2_0_)
  else
   Qbb h0_0 v9 x5 v6_ (wr (v38+1)) h2_0_
 else
  some (v6_,h2_0_)
 partial_fixpoint
theorem Ql5:∀ (h0_0:(List ((List UInt8)×(List (List UInt8))))) (v9:Int) (x5:(List UInt8)),(∀ (v6_:(List (List UInt8))) (v38:Int) (h2_0_:(List ((List UInt8)×Int))) (o6:((List (List UInt8))×(List ((List UInt8)×Int)))),Qbb h0_0 v9 x5 v6_ v38 h2_0_=some o6→TL (1,0) Tryz.prog 56 Qia (JP1 (1,0) 56 o6 (.exit 4) (Qef h0_0 v9 x5)) (Qb4 h0_0 v9 x5 v6_ v38 h2_0_)):=by
 intro h0_0 v9 x5
 refine Qbb.partial_correctness h0_0 v9 x5 _ ?_
 intro Qbb' iQbb v6_ v38 h2_0_ o6 h
 refine TL.round (Qaj mixed tbOk (lv:=Qd3) _ _ _ ?_)
 refine Qae h (fun hb h=>?_) (fun hb h=>?_)
 ·refine Qa6 (l:=((mget (fun a b=>a==b) x5 h0_0).getD [])) (c:=cStr) (c' := cStr) h (fun _=>rfl) (fun _=>rfl) (by decide) (fun x7 hi h=>?_)
  refine Qow (l:=h2_0_) (k:=x7) (fun a b=>a==b) (ck:=sV) (ca:=iV) (z0:=0) (by exact rfl) (by exact rfl) (by exact rfl) (by exact fun _ _=>rfl) (by exact rfl) (by exact .refl _) ?_
  refine Qae h (fun hb h=>?_) (fun hb h=>?_)
  ·refine Q6a (l:=h2_0_) (k:=x7) (x:=1) (fun a b=>a==b) (ck:=sV) (ca:=iV) (by exact rfl) (by exact rfl) (by exact rfl) (by exact .refl _) (by exact fun _ _=>rfl) ?_
   refine Q53 (a:=v6_) (b:=[x7]) (c:=cStr) h (.refl _) (fun _=>rfl) rfl (fun x8 hi h=>?_)
   refine TL.le (τ := Qb4 h0_0 v9 x5 x8 (wr (v38+1)) (mset (fun a b=>a==b) x7 1 h2_0_)) ?_ ((iQbb x8 (wr (v38+1)) (mset (fun a b=>a==b) x7 1 h2_0_) _ h))
   exact Le.trans (τ := ⟨[(2,.ptr 1 0),(5,.mh 2),(6,.x 0 2 (.sl 9 1 (x8.map cStr))),(9,.p (iV v9)),(36,.p (.sl false (((mget (fun a b=>a==b) x5 h0_0).getD []).map cStr))),(37,.p (iV (((mget (fun a b=>a==b) x5 h0_0).getD []).length:Int))),(38,.p (iV (wr (v38+1))))],⟨[[mpD sV (fun x =>.sl false (x.map cStr)) h0_0],[.mh 0],[mpD sV iV (mset (fun a b=>a==b) x7 1 h2_0_)]],[2]⟩⟩) (Le.tz 3 1 rfl rfl rfl) ((Le.ver (.s 6) 0 2 1 rfl rfl rfl rfl).trans (Le.tz 3 1 rfl rfl rfl))
  ·refine TL.le (τ := Qb4 h0_0 v9 x5 v6_ (wr (v38+1)) h2_0_) ?_ ((iQbb v6_ (wr (v38+1)) h2_0_ _ h))
   exact Le.tz 3 1 rfl rfl rfl
 ·exact JP1.a h (Le.tz 3 1 rfl rfl rfl)
theorem Qmp:∀ (h0_0:(List ((List UInt8)×(List (List UInt8))))) (v9:Int) (x5:(List UInt8)) (v6_:(List (List UInt8))) (v38:Int) (h2_0_:(List ((List UInt8)×Int))) (o6:((List (List UInt8))×(List ((List UInt8)×Int)))),Qbb h0_0 v9 x5 v6_ v38 h2_0_=some o6→TL (1,0) Tryz.prog 56 Qia (JP1 (1,0) 56 o6 (.exit 4) (Qef h0_0 v9 x5)) (Qb4 h0_0 v9 x5 v6_ v38 h2_0_):=fun h0_0 v9 x5 v6_ v38 h2_0_=>(Ql5 h0_0 v9 x5) v6_ v38 h2_0_
noncomputable def Qbc (h0_0:(List ((List UInt8)×(List (List UInt8))))) (v6:(List (List UInt8))) (v9:Int) (h2_0:(List ((List UInt8)×Int))):Option (((List (List UInt8))×(List ((List UInt8)×Int)))) :=
 if(decide (v9<(v6.length:Int))) then
  idx v6 v9>>=fun x5 =>
  (Qbb h0_0 v9 x5 v6 0 h2_0)>>=fun o6 =>
  Qbc h0_0 o6.1 (wr (v9+1)) o6.2
 else
  some (v6,h2_0)
 partial_fixpoint
theorem Ql6:∀ (h0_0:(List ((List UInt8)×(List (List UInt8))))),(∀ (v6:(List (List UInt8))) (v9:Int) (h2_0:(List ((List UInt8)×Int))) (o4:((List (List UInt8))×(List ((List UInt8)×Int)))),Qbc h0_0 v6 v9 h2_0=some o4→TL (1,0) Tryz.prog 56 Qib (JP1 (1,0) 56 o4 (.exit 2) (Qeg h0_0)) (Qc4 h0_0 v6 v9 h2_0)):=by
 intro h0_0
 refine Qbc.partial_correctness h0_0 _ ?_
 intro Qbc' iQbc v6 v9 h2_0 o4 h
 refine TL.round (Qaj mixed tbOk (lv:=Qd3) _ _ _ ?_)
 refine And.intro rfl (Exists.intro _ (And.intro (List.length_map _) ?_))
 refine Qae h (fun hb h=>?_) (fun hb h=>?_)
 ·refine And.intro (by decide +kernel) (And.intro rfl ?_)
  refine And.intro rfl ?_
  refine Qxw (l:=v6) (c:=cStr) (c' := cStr) h rfl (fun _=>rfl) (fun _=>rfl) (by decide) (fun x5 hi h=>?_)
  refine And.intro rfl ?_
  refine And.intro rfl (And.intro (Nat.le_of_ble_eq_true rfl) ?_)
  refine And.intro rfl ?_
  refine Qow (l:=h0_0) (k:=x5) (fun a b=>a==b) (ck:=sV) (ca:=(fun x =>.sl false (x.map cStr))) (z0:=[]) (by exact rfl) (by exact rfl) (by exact rfl) (by exact fun _ _=>rfl) (by exact rfl) (by exact .not) ?_
  refine view (lenMap _ _) rfl ?_
  refine Qag h (fun o6 ho hk=>?_)
  refine Exists.intro (JP1 _ _ o6 (.exit 4) (Qef h0_0 v9 x5)) (And.intro (T_le (τ := Qb4 h0_0 v9 x5 v6 0 h2_0) ?_ (TL.loop (Qmp h0_0 v9 x5 v6 0 h2_0 o6 ho))) (join1 ?_))
  ·exact Le.tz 3 1 rfl rfl rfl
  have h:=hk
  refine TL.le (τ := Qc4 h0_0 o6.1 (wr (v9+1)) o6.2) ?_ ((iQbc o6.1 (wr (v9+1)) o6.2 _ h))
  exact Le.tz 3 1 rfl rfl rfl
 ·exact JP1.a h (Le.tz 3 1 rfl rfl rfl)
theorem Qmq:∀ (h0_0:(List ((List UInt8)×(List (List UInt8))))) (v6:(List (List UInt8))) (v9:Int) (h2_0:(List ((List UInt8)×Int))) (o4:((List (List UInt8))×(List ((List UInt8)×Int)))),Qbc h0_0 v6 v9 h2_0=some o4→TL (1,0) Tryz.prog 56 Qib (JP1 (1,0) 56 o4 (.exit 2) (Qeg h0_0)) (Qc4 h0_0 v6 v9 h2_0):=fun h0_0 v6 v9 h2_0=>(Ql6 h0_0) v6 v9 h2_0
noncomputable def Qb2 (p0:(List (List UInt8))):Option ((List (List UInt8))) :=
 appL 16 [] p0
theorem Qir:∀ (p0:(List (List UInt8))) (o:(List (List UInt8))),Qb2 p0=some o→CallOK Tryz.prog 75 [.p (.sl false (p0.map cStr))] ⟨[],[]⟩ (Qci o) ⟨[],[1]⟩:=by
 intro p0 o h
 unfold Qb2 at h
 have h:(appL 16 ([]:List (List UInt8)) p0>>=fun r=>some r)=some o:=by rw[h]; rfl
 refine CallOK.ofB mixed tbOk Qik Tryz.func75 rfl (by kernel_rfl) (Nat.le_of_ble_eq_true rfl) rfl rfl rfl ?_
 refine⟨rfl,rfl,rfl,fun b hb=>?_⟩
 cases b with
 | true =>
  refine bT ?_
  obtain rfl:=List.map_eq_nil_iff.1 (hb rfl)
  have h:some ([]:List (List UInt8))=some o:=h
  refine Exists.intro _ (And.intro (Le.xnil (.s 2) 9 1 rfl) ?_)
  exact Qfq (t:=Qci) (ss:=fun o=>⟨[],[1]⟩) h ⟨[0],rfl,.refl _,.refl _,rfl⟩
 | false =>
  refine bF ?_
  refine Q7i (a:=([]:List (List UInt8))) (b:=p0) (c:=cStr) h (.refl _) (.refl _) (fun _=>rfl) (.inl rfl) (fun r hi h=>?_)
  refine Exists.intro _ (And.intro (Le.refl _ _ _) ?_)
  exact Qfq (t:=Qci) (ss:=fun o=>⟨[],[1]⟩) h ⟨[0],rfl,.refl _,.refl _,rfl⟩
noncomputable def Qc9 (p1:(List (List UInt8))) (h0_0:(List ((List UInt8)×(List (List UInt8))))):Option ((List (List UInt8))) :=
 Qb2 p1>>=fun x1 =>
 (Qbl h0_0 x1 0 [])>>=fun o2 =>
 (Qbc h0_0 x1 0 o2)>>=fun o4 =>
 need (o4.1.length<4611686018427387904)>>=fun _ =>
 some (srtL o4.1)
theorem Qj2:∀ (p1:(List (List UInt8))) (h0_0:(List ((List UInt8)×(List (List UInt8))))) (o:(List (List UInt8))),Qc9 p1 h0_0=some o→CallOK Tryz.prog 42 [.agg [.mh 0],.p (.sl false (p1.map cStr))] ⟨[[mpD sV (fun x =>.sl false (x.map cStr)) h0_0]],[]⟩ (Qgm o) ⟨[[mpD sV (fun x =>.sl false (x.map cStr)) h0_0]],[]⟩:=by
 intro p1 h0_0 o h
 unfold Qc9 at h
 refine CallOK.ofB mixed tbOk Qd3 Tryz.func42 rfl (by kernel_rfl) (Nat.le_of_ble_eq_true rfl) rfl rfl rfl ?_
 refine And.intro rfl (Exists.intro false ?_)
 refine Qc2 _ _ h (fun x1 hy=>((Qir p1 x1 hy).fr [] [] rfl rfl rfl)) (fun x1 hy h=>?_)
 refine And.intro rfl (Exists.intro _ (And.intro (List.length_map _) ?_))
 refine Qag h (fun o2 ho hk=>?_)
 refine Exists.intro (JP1 _ _ o2 (.exit 0) (Qee h0_0 x1)) (And.intro (T_le (τ := Qc3 h0_0 x1 0 []) ?_ (TL.loop (Qmo h0_0 x1 0 [] o2 ho))) (join1 ?_))
 ·exact Le.tz 3 1 rfl rfl rfl
 have h:=hk
 refine Qag h (fun o4 ho hk=>?_)
 refine Exists.intro (JP1 _ _ o4 (.exit 2) (Qeg h0_0)) (And.intro (T_le (τ := Qc4 h0_0 x1 0 o2) ?_ (TL.loop (Qmq h0_0 x1 0 o2 o4 ho))) (join1 ?_))
 ·exact Le.tz 3 1 rfl rfl rfl
 have h:=hk
 refine Qiz h (fun hn0 h=>?_)
 refine Or.inl ?_
 refine⟨rfl,rfl,_,false,o4.1,(srtL o4.1),_,rfl,rfl,sortFn  hn0 ,rfl,rfl,?_⟩
 refine Exists.intro _ (And.intro (Le.trans (τ := ⟨[(4,.x 0 2 (.sl 9 1 ((srtL o4.1).map cStr)))],⟨[[mpD sV (fun x =>.sl false (x.map cStr)) h0_0]],[2]⟩⟩) (Le.tz 1 1 rfl rfl rfl) (Le.trans (τ := ⟨[(4,.x 0 2 (.sl 9 1 ((srtL o4.1).map cStr)))],⟨[[mpD sV (fun x =>.sl false (x.map cStr)) h0_0]],[2]⟩⟩) (Le.tz 1 1 rfl rfl rfl) ((Le.frzv (.s 4) 0 2 rfl rfl rfl rfl).trans (Le.refl _ _ _)))) ?_)
 refine Qfq (t:=Qgm) (ss:=fun o=>⟨[[mpD sV (fun x =>.sl false (x.map cStr)) h0_0]],[]⟩) h ?_
 exact⟨[],rfl,.refl _,.refl _,rfl⟩
noncomputable def Qar (p0:(List (List UInt8))) (p1:(List UInt8)) (v8:Int):Option (Unit⊕Int) :=
 if(decide (v8<(p0.length:Int))) then
  idx p0 v8>>=fun x4 =>
  if(p1==x4) then
   some (.inr v8)
  else
   Qar p0 p1 (wr (v8+1))
 else
  some (.inl ())
 partial_fixpoint
theorem Qgz:∀ (p0:(List (List UInt8))) (p1:(List UInt8)),(∀ (v8:Int) (o1:Unit⊕Int),Qar p0 p1 v8=some o1→TL (0,0) Tryz.prog 19 Qdp (JP2 (0,0) 19 o1 (.exit 0) (Qbz p0 p1) .ret (Qb0 p0 p1)) (Qbh p0 p1 v8)):=by
 intro p0 p1
 refine Qar.partial_correctness p0 p1 _ ?_
 intro Qar' iQar v8 o1 h
 refine TL.round (Qaj mixed tbOk (lv:=Qd8) _ _ _ ?_)
 refine Qae h (fun hb h=>?_) (fun hb h=>?_)
 ·refine Qa6 (l:=p0) (c:=cStr) (c' := cStr) h (fun _=>rfl) (fun _=>rfl) (by decide) (fun x4 hi h=>?_)
  refine Qae h (fun hb h=>?_) (fun hb h=>?_)
  ·exact JP2.b h (Le.tz 0 0 rfl rfl rfl)
  ·refine TL.le (τ := Qbh p0 p1 (wr (v8+1))) ?_ ((iQar (wr (v8+1)) _ h))
   exact Le.tz 0 0 rfl rfl rfl
 ·exact JP2.a h (Le.tz 0 0 rfl rfl rfl)
theorem Qg3:∀ (p0:(List (List UInt8))) (p1:(List UInt8)) (v8:Int) (o1:Unit⊕Int),Qar p0 p1 v8=some o1→TL (0,0) Tryz.prog 19 Qdp (JP2 (0,0) 19 o1 (.exit 0) (Qbz p0 p1) .ret (Qb0 p0 p1)) (Qbh p0 p1 v8):=fun p0 p1 v8=>(Qgz p0 p1) v8
noncomputable def Qb3 (p0:(List (List UInt8))) (p1:(List UInt8)):Option (Int) :=
 (Qar p0 p1 0)>>=fun o1 =>
 match o1 with
 | .inl y2 =>
  some (-1)
 | .inr y3 =>
  some y3
theorem Qis:∀ (p0:(List (List UInt8))) (p1:(List UInt8)) (o:Int),Qb3 p0 p1=some o→PCall Tryz.prog 74 [.sl false (p0.map cStr),sV p1] (Qbv o):=by
 intro p0 p1 o h
 unfold Qb3 at h
 refine PCall.ofB mixed tbOk Qd8 Tryz.func74 rfl (by kernel_rfl) (Nat.le_of_ble_eq_true rfl) ?_
 refine view (lenMap _ _) rfl ?_
 refine Qag h (fun o1 ho hk=>?_)
 refine Exists.intro (JP2 _ _ o1 (.exit 0) (Qbz p0 p1) .ret (Qb0 p0 p1)) (And.intro (T_le (τ := Qbh p0 p1 0) ?_ (TL.loop (Qg3 p0 p1 0 o1 ho))) (join2 (fun y2 hy=>?_) (fun y3 hy=>?_)))
 ·exact Le.tz 0 0 rfl rfl rfl
 ·have h:=(by rw[hy] at hk; exact hk)
  refine Qal (t:=Qbv) h ?_
  exact .refl _
 ·have h:=(by rw[hy] at hk; exact hk)
  refine Qal (t:=Qbv) h ?_
  exact .refl _
noncomputable def Qa5 (p0:(List (List UInt8))) (p1:(List UInt8)):Option (Bool) :=
 Qb3 p0 p1>>=fun x1 =>
 some (decide (x1 ≥ 0))
theorem Qdl:∀ (p0:(List (List UInt8))) (p1:(List UInt8)) (o:Bool),Qa5 p0 p1=some o→PCall Tryz.prog 41 [.sl false (p0.map cStr),sV p1] (Qbm o):=by
 intro p0 p1 o h
 unfold Qa5 at h
 refine PCall.ofB mixed tbOk Qg2 Tryz.func41 rfl (by kernel_rfl) (Nat.le_of_ble_eq_true rfl) ?_
 refine Qah [.sl false (p0.map cStr),sV p1] Qbv h (fun x1 hy=>(Qis p0 p1 x1 hy)) (fun x1 hy h=>?_)
 refine Qal (t:=Qbm) h ?_
 exact .refl _
noncomputable def Qco (p0:(List Qac)) (x10:(List ((List UInt8)×(List (List UInt8))))) (v85:Int):Option (Unit⊕(List UInt8)) :=
 if(decide (v85<(p0.length:Int))) then
  idx p0 v85>>=fun x22 =>
  Qc9 ((mget (fun a b=>a==b) x22.Name x10).getD []) x10>>=fun x23 =>
  Qa5 x23 x22.Name>>=fun x24 =>
  if x24 then
   some (.inr x22.Name)
  else
   Qco p0 x10 (wr (v85+1))
 else
  some (.inl ())
 partial_fixpoint
theorem Qqe:∀ (p0:(List Qac)) (x10:(List ((List UInt8)×(List (List UInt8))))),(∀ (v85:Int) (o19:Unit⊕(List UInt8)),Qco p0 x10 v85=some o19→TL (0,0) Tryz.prog 102 Qmd (JP2 (0,0) 102 o19 (.exit 6) (Qhi p0 x10) .ret (Qhj p0 x10)) (Qfa p0 x10 v85)):=by
 intro p0 x10
 refine Qco.partial_correctness p0 x10 _ ?_
 intro Qco' iQco v85 o19 h
 refine TL.round (Qaj mixed tbOk (lv:=Qfi) _ _ _ ?_)
 refine Qae h (fun hb h=>?_) (fun hb h=>?_)
 ·refine Qa6 (l:=p0) (c:=Qaf) (c' := Qaf) h (fun _=>rfl) (fun _=>rfl) (by decide) (fun x22 hi h=>?_)
  refine And.intro (by decide +kernel) (And.intro rfl ?_)
  refine And.intro rfl ?_
  refine Qow (l:=x10) (k:=x22.Name) (fun a b=>a==b) (ck:=sV) (ca:=(fun x =>.sl false (x.map cStr))) (z0:=[]) (by exact rfl) (by exact rfl) (by exact rfl) (by exact fun _ _=>rfl) (by exact rfl) (by exact .not) ?_
  refine Q3w (fun x23=>(Qgm x23).ren [0] []) h (fun x23 hy=>(Qj2 ((mget (fun a b=>a==b) x22.Name x10).getD []) x10 x23 hy).fd rfl rfl [0] rfl rfl) (fun x23 hy h=>?_)
  refine Qe6 [.sl false (x23.map cStr),sV x22.Name] Qbm h (fun x24 hy=>(Qdl x23 x22.Name x24 hy)) (fun x24 hy h=>?_)
  refine Qae h (fun hb h=>?_) (fun hb h=>?_)
  ·exact JP2.b h (Le.tz 2 0 rfl rfl rfl)
  ·refine TL.le (τ := Qfa p0 x10 (wr (v85+1))) ?_ ((iQco (wr (v85+1)) _ h))
   exact Le.tz 2 0 rfl rfl rfl
 ·exact JP2.a h (Le.tz 2 0 rfl rfl rfl)
theorem Qq8:∀ (p0:(List Qac)) (x10:(List ((List UInt8)×(List (List UInt8))))) (v85:Int) (o19:Unit⊕(List UInt8)),Qco p0 x10 v85=some o19→TL (0,0) Tryz.prog 102 Qmd (JP2 (0,0) 102 o19 (.exit 6) (Qhi p0 x10) .ret (Qhj p0 x10)) (Qfa p0 x10 v85):=fun p0 x10 v85=>(Qqe p0 x10) v85
mutual
noncomputable def Qcp (p0:(List Qab)) (h0_0:(List (List UInt8))):Option ((List (List UInt8))) :=
 (Qcx p0 0 h0_0)>>=fun o1 =>
 some o1
 partial_fixpoint
noncomputable def Qcx (p0:(List Qab)) (v8:Int) (h0_0_:(List (List UInt8))):Option ((List (List UInt8))) :=
 if(decide (v8<(p0.length:Int))) then
  idx p0 v8>>=fun x2 =>
  ( if(x2.Kind==13) then
    appL 16 h0_0_ [x2.Name]>>=fun x4 =>
    some x4
   else
    some h0_0_:Option ((List (List UInt8))))>>=fun o3 =>
  Qcp x2.Then o3>>=fun x5 =>
  Qcp x2.Else x5>>=fun x6 =>
  Qcx p0 (wr (v8+1)) x6
 else
  some h0_0_
 partial_fixpoint
end
theorem Qsg:(∀ (p0:(List Qab)) (h0_0:(List (List UInt8))) (o:(List (List UInt8))),Qcp p0 h0_0=some o→CallOK Tryz.prog 99 [.p (.sl false (p0.map Qaa)),.ptr 0 0,.ptr 1 0] ⟨[[.x 0 (h0_0.length+1) (.sl 9 1 (h0_0.map cStr))],[.fn (.func 99) [] [.ptr 0 0,.ptr 1 0]]],[(h0_0.length+1)]⟩ (Qkz o) ⟨[[.x 0 (o.length+1) (.sl 9 1 (o.map cStr))],[.fn (.func 99) [] [.ptr 0 0,.ptr 1 0]]],[(o.length+1)]⟩)∧(∀ (p0:(List Qab)) (v8:Int) (h0_0_:(List (List UInt8))) (o1:(List (List UInt8))),Qcx p0 v8 h0_0_=some o1→TL (2,1) Tryz.prog 29 Qq0 (JP1 (2,1) 29 o1 (.exit 0) (Qkd p0)) (Qgl p0 v8 h0_0_)):=by
 refine Qcp.mutual_partial_correctness _ _ ?_ ?_
 ·intro Qcx' iQcx p0 h0_0 o h
  refine CallOK.ofB mixed tbOk Qne Tryz.func99 rfl (by kernel_rfl) (Nat.le_of_ble_eq_true rfl) rfl rfl rfl ?_
  refine view (lenMap _ _) rfl ?_
  refine Qag h (fun o1 ho hk=>?_)
  refine Exists.intro (JP1 _ _ o1 (.exit 0) (Qkd p0)) (And.intro (T_le (τ := Qgl p0 0 h0_0) ?_ (TL.loop (iQcx p0 0 h0_0 o1 ho))) (join1 ?_))
  ·exact Le.tz 2 1 rfl rfl rfl
  have h:=hk
  refine Exists.intro _ (And.intro (Le.refl _ _ _) ?_)
  exact Qfq (t:=Qkz) (ss:=fun o=>⟨[[.x 0 (o.length+1) (.sl 9 1 (o.map cStr))],[.fn (.func 99) [] [.ptr 0 0,.ptr 1 0]]],[(o.length+1)]⟩) h ⟨[0],rfl,.refl _,.refl _,rfl⟩
 ·intro Qcp' Qcx' iQcp iQcx p0 v8 h0_0_ o1 h
  refine TL.round (Qaj mixed tbOk (lv:=Qne) _ _ _ ?_)
  refine Qae h (fun hb h=>?_) (fun hb h=>?_)
  ·refine Qa6 (l:=p0) (c:=Qaa) (c' := Qa4) h Qam (fun _=>rfl) (by decide) (fun x2 hi h=>?_)
   refine Qag h (fun o3 ho hk=>?_)
   refine Exists.intro (JP1 _ _ o3 .normal (Qqz p0 v8 x2)) (And.intro ?_ (join1 ?_))
   ·have h:=ho
    refine Qae h (fun hb h=>?_) (fun hb h=>?_)
    ·refine Q7h (a:=h0_0_) (b:=[x2.Name]) (c:=cStr) h (.refl _) (fun _=>rfl) rfl rfl (Nat.zero_lt_succ _) (fun x4 hi h=>?_)
     refine JP1.a h ?_
     exact Le.tz 3 1 rfl rfl rfl
    ·refine JP1.a h ?_
     exact Le.tz 3 1 rfl rfl rfl
   ·have h:=hk
    refine Qc2 _ _ h (fun x5 hy=>((iQcp x2.Then o3 x5 hy).fr [0,1] [0] rfl rfl rfl)) (fun x5 hy h=>?_)
    refine Qc2 _ _ h (fun x6 hy=>((iQcp x2.Else x5 x6 hy).fr [0,1] [0] rfl rfl rfl)) (fun x6 hy h=>?_)
    refine TL.le (τ := Qgl p0 (wr (v8+1)) x6) ?_ ((iQcx p0 (wr (v8+1)) x6 _ h))
    exact Le.tz 2 1 rfl rfl rfl
  ·exact JP1.a h (Le.tz 2 1 rfl rfl rfl)
theorem Quq:∀ (p0:(List Qab)) (h0_0:(List (List UInt8))) (o:(List (List UInt8))),Qcp p0 h0_0=some o→CallOK Tryz.prog 99 [.p (.sl false (p0.map Qaa)),.ptr 0 0,.ptr 1 0] ⟨[[.x 0 (h0_0.length+1) (.sl 9 1 (h0_0.map cStr))],[.fn (.func 99) [] [.ptr 0 0,.ptr 1 0]]],[(h0_0.length+1)]⟩ (Qkz o) ⟨[[.x 0 (o.length+1) (.sl 9 1 (o.map cStr))],[.fn (.func 99) [] [.ptr 0 0,.ptr 1 0]]],[(o.length+1)]⟩:=fun p0 h0_0=>Qsg.1 p0 h0_0
noncomputable def Qlj (p0:(List Qab)):Option ((List (List UInt8))) :=
 Qcp p0 []>>=fun x1 =>
 need (x1.length<4611686018427387904)>>=fun _ =>
 need ((srtL x1).length<4611686018427387904)>>=fun _ =>
 some (Lib.compact (srtL x1))
theorem Qzb:∀ (p0:(List Qab)) (o:(List (List UInt8))),Qlj p0=some o→CallOK Tryz.prog 73 [.p (.sl false (p0.map Qaa))] ⟨[],[]⟩ (Qnd o) ⟨[],[]⟩:=by
 intro p0 o h
 unfold Qlj at h
 refine CallOK.ofB mixed tbOk Qyo Tryz.func73 rfl (by kernel_rfl) (Nat.le_of_ble_eq_true rfl) rfl rfl rfl ?_
 refine Exists.intro _ (And.intro (Le.xnil (.h 0 0) 9 1 rfl) ?_)
 refine Qc2 _ _ h (fun x1 hy=>((Quq p0 [] x1 hy).fr [0,1] [0] rfl rfl rfl)) (fun x1 hy h=>?_)
 refine Qiz h (fun hn0 h=>?_)
 refine Or.inl ?_
 refine⟨rfl,rfl,_,false,x1,(srtL x1),_,rfl,rfl,sortFn  hn0 ,rfl,rfl,?_⟩
 refine Qiz h (fun hn0 h=>?_)
 refine Or.inl ?_
 refine⟨rfl,rfl,_,true,(srtL x1),(Lib.compact (srtL x1)),_,rfl,rfl,compactFn  hn0 ,rfl,?_⟩
 refine Exists.intro _ (And.intro (Le.trans (τ := ⟨[(2,.x 0 (((x1.length+1)+1)+1) (.sl 9 1 ((Lib.compact (srtL x1)).map cStr)))],⟨[],[(((x1.length+1)+1)+1)]⟩⟩) (Le.tz 0 1 rfl rfl rfl) (Le.trans (τ := ⟨[(2,.x 0 (((x1.length+1)+1)+1) (.sl 9 1 ((Lib.compact (srtL x1)).map cStr)))],⟨[],[(((x1.length+1)+1)+1)]⟩⟩) (Le.tz 0 1 rfl rfl rfl) ((Le.verh 2 0 (((x1.length+1)+1)+1) 1 rfl rfl rfl rfl).trans ((Le.frzv (.s 2) 0 1 rfl rfl rfl rfl).trans (Le.refl _ _ _))))) ?_)
 exact Qfq (t:=Qnd) (ss:=fun o=>⟨[],[]⟩) h ⟨[],rfl,.refl _,.refl _,rfl⟩
noncomputable def Qca (p0:(List Qac)) (v12:Int) (h1_0:(List ((List UInt8)×(List (List UInt8))))):Option (((List ((List UInt8)×(List (List UInt8)))))) :=
 if(decide (v12<(p0.length:Int))) then
  idx p0 v12>>=fun x2 =>
  if(!((mget (fun a b=>a==b) x2.Name h1_0).isSome)) then
   Qlj x2.L>>=fun x3 =>
   Qca p0 (wr (v12+1)) (mset (fun a b=>a==b) x2.Name x3 h1_0)
  else
   Qca p0 (wr (v12+1)) h1_0
 else
  some h1_0
 partial_fixpoint
theorem Qqf:∀ (p0:(List Qac)),(∀ (v12:Int) (h1_0:(List ((List UInt8)×(List (List UInt8))))) (o1:((List ((List UInt8)×(List (List UInt8)))))),Qca p0 v12 h1_0=some o1→TL (0,0) Tryz.prog 35 Qmg (JP1 (0,0) 35 o1 (.exit 0) (Qhm p0)) (Qdo p0 v12 h1_0)):=by
 intro p0
 refine Qca.partial_correctness p0 _ ?_
 intro Qca' iQca v12 h1_0 o1 h
 refine TL.round (Qaj mixed tbOk (lv:=Qor) _ _ _ ?_)
 refine Qae h (fun hb h=>?_) (fun hb h=>?_)
 ·refine Qa6 (l:=p0) (c:=Qaf) (c' := Qaf) h (fun _=>rfl) (fun _=>rfl) (by decide) (fun x2 hi h=>?_)
  refine Qow (l:=h1_0) (k:=x2.Name) (fun a b=>a==b) (ck:=sV) (ca:=(fun x =>.sl false (x.map cStr))) (z0:=[]) (by exact rfl) (by exact rfl) (by exact rfl) (by exact fun _ _=>rfl) (by exact rfl) (by exact .not) ?_
  refine Qae h (fun hb h=>?_) (fun hb h=>?_)
  ·refine And.intro (by decide +kernel) (And.intro (by decide +kernel) (And.intro rfl ?_))
   refine Q3w (fun x3=>(Qnd x3).ren [] []) h (fun x3 hy=>(Qzb x2.L x3 hy).fd rfl rfl [] rfl rfl) (fun x3 hy h=>?_)
   refine Q6a (l:=h1_0) (k:=x2.Name) (x:=x3) (fun a b=>a==b) (ck:=sV) (ca:=(fun x =>.sl false (x.map cStr))) (by exact rfl) (by exact rfl) (by exact rfl) (by exact .refl _) (by exact fun _ _=>rfl) ?_
   refine TL.le (τ := Qdo p0 (wr (v12+1)) (mset (fun a b=>a==b) x2.Name x3 h1_0)) ?_ ((iQca (wr (v12+1)) (mset (fun a b=>a==b) x2.Name x3 h1_0) _ h))
   exact Le.tz 3 0 rfl rfl rfl
  ·refine TL.le (τ := Qdo p0 (wr (v12+1)) h1_0) ?_ ((iQca (wr (v12+1)) h1_0 _ h))
   exact Le.tz 3 0 rfl rfl rfl
 ·exact JP1.a h (Le.tz 3 0 rfl rfl rfl)
theorem Qq9:∀ (p0:(List Qac)) (v12:Int) (h1_0:(List ((List UInt8)×(List (List UInt8))))) (o1:((List ((List UInt8)×(List (List UInt8)))))),Qca p0 v12 h1_0=some o1→TL (0,0) Tryz.prog 35 Qmg (JP1 (0,0) 35 o1 (.exit 0) (Qhm p0)) (Qdo p0 v12 h1_0):=fun p0 v12 h1_0=>(Qqf p0) v12 h1_0
noncomputable def Qfy (p0:(List Qac)):Option ((List ((List UInt8)×(List (List UInt8))))) :=
 (Qca p0 0 [])>>=fun o1 =>
 some o1
theorem Qk4:∀ (p0:(List Qac)) (o:(List ((List UInt8)×(List (List UInt8))))),Qfy p0=some o→CallOK Tryz.prog 40 [.p (.sl false (p0.map Qaf))] ⟨[],[]⟩ (Qpy o) ⟨[[mpD sV (fun x =>.sl false (x.map cStr)) o]],[]⟩:=by
 intro p0 o h
 unfold Qfy at h
 refine CallOK.ofBN mixed tbOk Qor Tryz.func40 rfl (by kernel_rfl) (Nat.le_of_ble_eq_true rfl) rfl rfl (Nat.le_of_ble_eq_true rfl) ?_
 refine And.intro rfl (Exists.intro false ?_)
 refine view (lenMap _ _) rfl ?_
 refine Qag h (fun o1 ho hk=>?_)
 refine Exists.intro (JP1 _ _ o1 (.exit 0) (Qhm p0)) (And.intro (T_le (τ := Qdo p0 0 []) ?_ (TL.loop (Qq9 p0 0 [] o1 ho))) (join1 ?_))
 ·exact Le.tz 3 0 rfl rfl rfl
 have h:=hk
 refine Exists.intro _ (And.intro (Le.refl _ _ _) ?_)
 refine Qtg (t:=Qpy) (ss:=fun o=>⟨[[mpD sV (fun x =>.sl false (x.map cStr)) o]],[]⟩) h ?_
 exact⟨[1],[],rfl,rfl,.refl _,.refl _,rfl,rfl⟩
noncomputable def Qe1 (p0:(List Qac)):Option ((List UInt8)×Int) :=
 if(decide ((p0.length:Int)>16)) then
  some ([],5)
 else
  (Qcl p0 0)>>=fun o1 =>
  match o1 with
  | .inl y2 =>
   Qfy p0>>=fun x10 =>
   (Qcn p0 x10 0)>>=fun o11 =>
   match o11 with
   | .inl y12 =>
    (Qco p0 x10 0)>>=fun o19 =>
    match o19 with
    | .inl y20 =>
     some ([],0)
    | .inr y21 =>
     some (y21,10)
   | .inr y13 =>
    some (y13,4)
  | .inr y3 =>
   some (y3.1,y3.2)
end Go.Proofs.YtfgegilhjlnohaaGreat
end
