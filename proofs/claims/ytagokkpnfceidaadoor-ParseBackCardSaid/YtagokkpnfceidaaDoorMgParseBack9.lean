/- The proof's texts, part 9 of 12: the walks by a logic in which data are by value, the plain laws, and at the end the law, for every input. -/
import Derived.Test.YtagokkpnfceidaaDoorMgParseBack8

section
set_option linter.unusedVariables false
set_option linter.unusedSimpArgs false
set_option maxRecDepth 100000
set_option maxHeartbeats 4000000
namespace Go.Proofs.YtagokkpnfceidaaDoor
open Go.RowKit
mutual
noncomputable def Qd0 (p0:(List Qaa)):Option ((List UInt8)) :=
 (Qbk p0 [] 0)>>=fun o1 =>
 some o1
 partial_fixpoint
noncomputable def Qbk (p0:(List Qaa)) (v3:(List UInt8)) (v4:Int):Option ((List UInt8)) :=
 if(decide (v4<(p0.length:Int))) then
  idx p0 v4>>=fun x2 =>
  if(x2.Kind==8) then
   need (v3.length+x2.Text.length≤9223372036854775807)>>=fun _ =>
   Qbk p0 (v3++x2.Text) (wr (v4+1))
  else
   if(x2.Kind==9) then
    need (v3.length+[123,123,32].length≤9223372036854775807)>>=fun _ =>
    idx x2.L 0>>=fun x3 =>
    Qeh x3>>=fun x4 =>
    need ((v3++[123,123,32]).length+x4.length≤9223372036854775807)>>=fun _ =>
    need (((v3++[123,123,32])++x4).length+[32,125,125].length≤9223372036854775807)>>=fun _ =>
    Qbk p0 (((v3++[123,123,32])++x4)++[32,125,125]) (wr (v4+1))
   else
    if(x2.Kind==13) then
     need (v3.length+[123,123,32,117,115,101,32].length≤9223372036854775807)>>=fun _ =>
     need ((v3++[123,123,32,117,115,101,32]).length+x2.Name.length≤9223372036854775807)>>=fun _ =>
     need (((v3++[123,123,32,117,115,101,32])++x2.Name).length+[32].length≤9223372036854775807)>>=fun _ =>
     idx x2.L 0>>=fun x5 =>
     Qeh x5>>=fun x6 =>
     need ((((v3++[123,123,32,117,115,101,32])++x2.Name)++[32]).length+x6.length≤9223372036854775807)>>=fun _ =>
     need (((((v3++[123,123,32,117,115,101,32])++x2.Name)++[32])++x6).length+[32,125,125].length≤9223372036854775807)>>=fun _ =>
     Qbk p0 (((((v3++[123,123,32,117,115,101,32])++x2.Name)++[32])++x6)++[32,125,125]) (wr (v4+1))
    else
     if(x2.Kind==10) then
      need (v3.length+[123,123,32,105,102,32].length≤9223372036854775807)>>=fun _ =>
      idx x2.L 0>>=fun x7 =>
      Qeh x7>>=fun x8 =>
      need ((v3++[123,123,32,105,102,32]).length+x8.length≤9223372036854775807)>>=fun _ =>
      need (((v3++[123,123,32,105,102,32])++x8).length+[32,125,125].length≤9223372036854775807)>>=fun _ =>
      Qd0 x2.Then>>=fun x9 =>
      need ((((v3++[123,123,32,105,102,32])++x8)++[32,125,125]).length+x9.length≤9223372036854775807)>>=fun _ =>
      if(decide ((x2.Else.length:Int)>0)) then
       need (((((v3++[123,123,32,105,102,32])++x8)++[32,125,125])++x9).length+[123,123,32,101,108,115,101,32,125,125].length≤9223372036854775807)>>=fun _ =>
       Qd0 x2.Else>>=fun x10 =>
       need ((((((v3++[123,123,32,105,102,32])++x8)++[32,125,125])++x9)++[123,123,32,101,108,115,101,32,125,125]).length+x10.length≤9223372036854775807)>>=fun _ =>
       need (((((((v3++[123,123,32,105,102,32])++x8)++[32,125,125])++x9)++[123,123,32,101,108,115,101,32,125,125])++x10).length+[123,123,32,101,110,100,32,125,125].length≤9223372036854775807)>>=fun _ =>
       Qbk p0 (((((((v3++[123,123,32,105,102,32])++x8)++[32,125,125])++x9)++[123,123,32,101,108,115,101,32,125,125])++x10)++[123,123,32,101,110,100,32,125,125]) (wr (v4+1))
      else
       need (((((v3++[123,123,32,105,102,32])++x8)++[32,125,125])++x9).length+[123,123,32,101,110,100,32,125,125].length≤9223372036854775807)>>=fun _ =>
       Qbk p0 (((((v3++[123,123,32,105,102,32])++x8)++[32,125,125])++x9)++[123,123,32,101,110,100,32,125,125]) (wr (v4+1))
     else
      if(x2.Kind==11) then
       need (v3.length+[123,123,32,101,97,99,104,32].length≤9223372036854775807)>>=fun _ =>
       need ((v3++[123,123,32,101,97,99,104,32]).length+x2.Name.length≤9223372036854775807)>>=fun _ =>
       need (((v3++[123,123,32,101,97,99,104,32])++x2.Name).length+[32,105,110,32].length≤9223372036854775807)>>=fun _ =>
       idx x2.L 0>>=fun x11 =>
       Qeh x11>>=fun x12 =>
       need ((((v3++[123,123,32,101,97,99,104,32])++x2.Name)++[32,105,110,32]).length+x12.length≤9223372036854775807)>>=fun _ =>
       need (((((v3++[123,123,32,101,97,99,104,32])++x2.Name)++[32,105,110,32])++x12).length+[32,125,125].length≤9223372036854775807)>>=fun _ =>
       Qd0 x2.Then>>=fun x13 =>
       need ((((((v3++[123,123,32,101,97,99,104,32])++x2.Name)++[32,105,110,32])++x12)++[32,125,125]).length+x13.length≤9223372036854775807)>>=fun _ =>
       need (((((((v3++[123,123,32,101,97,99,104,32])++x2.Name)++[32,105,110,32])++x12)++[32,125,125])++x13).length+[123,123,32,101,110,100,32,125,125].length≤9223372036854775807)>>=fun _ =>
       Qbk p0 (((((((v3++[123,123,32,101,97,99,104,32])++x2.Name)++[32,105,110,32])++x12)++[32,125,125])++x13)++[123,123,32,101,110,100,32,125,125]) (wr (v4+1))
      else
       need (v3.length+[123,123,32,108,101,116,32].length≤9223372036854775807)>>=fun _ =>
       need ((v3++[123,123,32,108,101,116,32]).length+x2.Name.length≤9223372036854775807)>>=fun _ =>
       need (((v3++[123,123,32,108,101,116,32])++x2.Name).length+[32,61,32].length≤9223372036854775807)>>=fun _ =>
       idx x2.L 0>>=fun x14 =>
       Qeh x14>>=fun x15 =>
       need ((((v3++[123,123,32,108,101,116,32])++x2.Name)++[32,61,32]).length+x15.length≤9223372036854775807)>>=fun _ =>
       need (((((v3++[123,123,32,108,101,116,32])++x2.Name)++[32,61,32])++x15).length+[32,125,125].length≤9223372036854775807)>>=fun _ =>
       Qd0 x2.Then>>=fun x16 =>
       need ((((((v3++[123,123,32,108,101,116,32])++x2.Name)++[32,61,32])++x15)++[32,125,125]).length+x16.length≤9223372036854775807)>>=fun _ =>
       need (((((((v3++[123,123,32,108,101,116,32])++x2.Name)++[32,61,32])++x15)++[32,125,125])++x16).length+[123,123,32,101,110,100,32,125,125].length≤9223372036854775807)>>=fun _ =>
       Qbk p0 (((((((v3++[123,123,32,108,101,116,32])++x2.Name)++[32,61,32])++x15)++[32,125,125])++x16)++[123,123,32,101,110,100,32,125,125]) (wr (v4+1))
 else
  some v3
 partial_fixpoint
end
theorem Qwc:(∀ (p0:(List Qaa)) (o:(List UInt8)),Qd0 p0=some o→PCall Tryd.prog 46 [.sl false (p0.map Qac)] (Qej o))∧(∀ (p0:(List Qaa)) (v3:(List UInt8)) (v4:Int) (o1:(List UInt8)),Qbk p0 v3 v4=some o1→TL (0,0) Tryd.prog 116 Qs6 (JP1 (0,0) 116 o1 (.exit 0) (Ql2 p0)) (Qb0 p0 v3 v4)):=by
 refine Qd0.mutual_partial_correctness _ _ ?_ ?_
 ·intro Qbk' iQbk p0 o h
  refine PCall.ofB mixed tbOk Qp5 Tryd.func46 rfl (by kernel_rfl) (Nat.le_of_ble_eq_true rfl) ?_
  refine Qag h (fun o1 ho hk=>?_)
  refine Exists.intro (JP1 _ _ o1 (.exit 0) (Ql2 p0)) (And.intro (T_le (τ := Qb0 p0 [] 0) ?_ (TL.loop (iQbk p0 [] 0 o1 ho))) (join1 ?_))
  ·exact Le.tz 0 0 rfl rfl rfl
  have h:=hk
  refine Qal (t:=Qej) h ?_
  exact .refl _
 ·intro Qd0' Qbk' iQd0 iQbk p0 v3 v4 o1 h
  refine TL.round (Qak mixed tbOk (lv:=Qp5) _ _ _ ?_)
  refine view (lenMap _ _) rfl ?_
  refine Qaf h (fun hb h=>?_) (fun hb h=>?_)
  ·refine Qcl (l:=p0) (c:=Qac) (c' := Qat) h Qah (fun _=>rfl) (by decide) (fun x2 hi h=>?_)
   refine Qaf h (fun hb h=>?_) (fun hb h=>?_)
   ·refine Qa1 h (fun h=>?_)
    refine TL.le (τ := Qb0 p0 (v3++x2.Text) (wr (v4+1))) ?_ ((iQbk p0 (v3++x2.Text) (wr (v4+1)) _ h))
    exact Le.tz 0 0 rfl rfl rfl
   ·refine Qaf h (fun hb h=>?_) (fun hb h=>?_)
    ·refine Qa1 h (fun h=>?_)
     refine Qcl (l:=x2.L) (c:=Qac) (c' := Qat) h Qah (fun _=>rfl) (by decide) (fun x3 hi h=>?_)
     refine Qaj [.agg [iV x3.Kind,sV x3.Name,sV x3.Text,iV x3.N,.sl false (x3.L.map Qac),.sl false (x3.Then.map Qac),.sl false (x3.Else.map Qac)]] Qbx h (fun x4 hy=>(Qi5 x3 x4 hy)) (fun x4 hy h=>?_)
     refine Qa1 h (fun h=>?_)
     refine Qa1 h (fun h=>?_)
     refine TL.le (τ := Qb0 p0 (((v3++[123,123,32])++x4)++[32,125,125]) (wr (v4+1))) ?_ ((iQbk p0 (((v3++[123,123,32])++x4)++[32,125,125]) (wr (v4+1)) _ h))
     exact Le.tz 0 0 rfl rfl rfl
    ·refine Qaf h (fun hb h=>?_) (fun hb h=>?_)
     ·refine And.intro (by decide +kernel) (And.intro rfl ?_)
      refine Qa1 h (fun h=>?_)
      refine Qa1 h (fun h=>?_)
      refine Qa1 h (fun h=>?_)
      refine Qcl (l:=x2.L) (c:=Qac) (c' := Qat) h Qah (fun _=>rfl) (by decide) (fun x5 hi h=>?_)
      refine Qcr [.agg [iV x5.Kind,sV x5.Name,sV x5.Text,iV x5.N,.sl false (x5.L.map Qac),.sl false (x5.Then.map Qac),.sl false (x5.Else.map Qac)]] Qbx h (fun x6 hy=>(Qi5 x5 x6 hy)) (fun x6 hy h=>?_)
      refine Qa1 h (fun h=>?_)
      refine Qa1 h (fun h=>?_)
      refine TL.le (τ := Qb0 p0 (((((v3++[123,123,32,117,115,101,32])++x2.Name)++[32])++x6)++[32,125,125]) (wr (v4+1))) ?_ ((iQbk p0 (((((v3++[123,123,32,117,115,101,32])++x2.Name)++[32])++x6)++[32,125,125]) (wr (v4+1)) _ h))
      exact Le.tz 0 0 rfl rfl rfl
     ·refine Qaf h (fun hb h=>?_) (fun hb h=>?_)
      ·refine And.intro (by decide +kernel) (And.intro rfl ?_)
       refine Qa1 h (fun h=>?_)
       refine Qcl (l:=x2.L) (c:=Qac) (c' := Qat) h Qah (fun _=>rfl) (by decide) (fun x7 hi h=>?_)
       refine Qcr [.agg [iV x7.Kind,sV x7.Name,sV x7.Text,iV x7.N,.sl false (x7.L.map Qac),.sl false (x7.Then.map Qac),.sl false (x7.Else.map Qac)]] Qbx h (fun x8 hy=>(Qi5 x7 x8 hy)) (fun x8 hy h=>?_)
       refine Qa1 h (fun h=>?_)
       refine Qa1 h (fun h=>?_)
       refine Qcr [.sl false (x2.Then.map Qac)] Qej h (fun x9 hy=>(iQd0 x2.Then x9 hy)) (fun x9 hy h=>?_)
       refine Qa1 h (fun h=>?_)
       refine view (lenMap _ _) rfl ?_
       refine Qaf h (fun hb h=>?_) (fun hb h=>?_)
       ·refine Qa1 h (fun h=>?_)
        refine Qaj [.sl false (x2.Else.map Qac)] Qej h (fun x10 hy=>(iQd0 x2.Else x10 hy)) (fun x10 hy h=>?_)
        refine Qa1 h (fun h=>?_)
        refine Qa1 h (fun h=>?_)
        refine TL.le (τ := Qb0 p0 (((((((v3++[123,123,32,105,102,32])++x8)++[32,125,125])++x9)++[123,123,32,101,108,115,101,32,125,125])++x10)++[123,123,32,101,110,100,32,125,125]) (wr (v4+1))) ?_ ((iQbk p0 (((((((v3++[123,123,32,105,102,32])++x8)++[32,125,125])++x9)++[123,123,32,101,108,115,101,32,125,125])++x10)++[123,123,32,101,110,100,32,125,125]) (wr (v4+1)) _ h))
        exact Le.tz 0 0 rfl rfl rfl
       ·refine Qa1 h (fun h=>?_)
        refine TL.le (τ := Qb0 p0 (((((v3++[123,123,32,105,102,32])++x8)++[32,125,125])++x9)++[123,123,32,101,110,100,32,125,125]) (wr (v4+1))) ?_ ((iQbk p0 (((((v3++[123,123,32,105,102,32])++x8)++[32,125,125])++x9)++[123,123,32,101,110,100,32,125,125]) (wr (v4+1)) _ h))
        exact Le.tz 0 0 rfl rfl rfl
      ·refine Qaf h (fun hb h=>?_) (fun hb h=>?_)
       ·refine And.intro (by decide +kernel) (And.intro rfl ?_)
        refine Qa1 h (fun h=>?_)
        refine Qa1 h (fun h=>?_)
        refine Qa1 h (fun h=>?_)
        refine Qcl (l:=x2.L) (c:=Qac) (c' := Qat) h Qah (fun _=>rfl) (by decide) (fun x11 hi h=>?_)
        refine Qcr [.agg [iV x11.Kind,sV x11.Name,sV x11.Text,iV x11.N,.sl false (x11.L.map Qac),.sl false (x11.Then.map Qac),.sl false (x11.Else.map Qac)]] Qbx h (fun x12 hy=>(Qi5 x11 x12 hy)) (fun x12 hy h=>?_)
        refine Qa1 h (fun h=>?_)
        refine Qa1 h (fun h=>?_)
        refine Qcr [.sl false (x2.Then.map Qac)] Qej h (fun x13 hy=>(iQd0 x2.Then x13 hy)) (fun x13 hy h=>?_)
        refine Qa1 h (fun h=>?_)
        refine Qa1 h (fun h=>?_)
        refine TL.le (τ := Qb0 p0 (((((((v3++[123,123,32,101,97,99,104,32])++x2.Name)++[32,105,110,32])++x12)++[32,125,125])++x13)++[123,123,32,101,110,100,32,125,125]) (wr (v4+1))) ?_ ((iQbk p0 (((((((v3++[123,123,32,101,97,99,104,32])++x2.Name)++[32,105,110,32])++x12)++[32,125,125])++x13)++[123,123,32,101,110,100,32,125,125]) (wr (v4+1)) _ h))
        exact Le.tz 0 0 rfl rfl rfl
       ·refine And.intro (by decide +kernel) (And.intro rfl ?_)
        refine Qa1 h (fun h=>?_)
        refine Qa1 h (fun h=>?_)
        refine Qa1 h (fun h=>?_)
        refine Qcl (l:=x2.L) (c:=Qac) (c' := Qat) h Qah (fun _=>rfl) (by decide) (fun x14 hi h=>?_)
        refine Qcr [.agg [iV x14.Kind,sV x14.Name,sV x14.Text,iV x14.N,.sl false (x14.L.map Qac),.sl false (x14.Then.map Qac),.sl false (x14.Else.map Qac)]] Qbx h (fun x15 hy=>(Qi5 x14 x15 hy)) (fun x15 hy h=>?_)
        refine Qa1 h (fun h=>?_)
        refine Qa1 h (fun h=>?_)
        refine Qcr [.sl false (x2.Then.map Qac)] Qej h (fun x16 hy=>(iQd0 x2.Then x16 hy)) (fun x16 hy h=>?_)
        refine Qa1 h (fun h=>?_)
        refine Qa1 h (fun h=>?_)
        refine TL.le (τ := Qb0 p0 (((((((v3++[123,123,32,108,101,116,32])++x2.Name)++[32,61,32])++x15)++[32,125,125])++x16)++[123,123,32,101,110,100,32,125,125]) (wr (v4+1))) ?_ ((iQbk p0 (((((((v3++[123,123,32,108,101,116,32])++x2.Name)++[32,61,32])++x15)++[32,125,125])++x16)++[123,123,32,101,110,100,32,125,125]) (wr (v4+1)) _ h))
        exact Le.tz 0 0 rfl rfl rfl
  ·exact JP1.a h (Le.tz 0 0 rfl rfl rfl)
theorem Qye:∀ (p0:(List Qaa)) (o:(List UInt8)),Qd0 p0=some o→PCall Tryd.prog 46 [.sl false (p0.map Qac)] (Qej o):=fun p0=>Qwc.1 p0
noncomputable def Qmh (p0:(List Qaa)):Option ((List UInt8)×Bool) :=
 Qyd p0>>=fun x1 =>
 if(!x1) then
  some ([],false)
 else
  Qd0 p0>>=fun x2 =>
  if(decide ((x2.length:Int)>65536)) then
   some ([],false)
  else
   some (x2,true)
theorem Qyf:∀ (p0:(List Qaa)) (o:(List UInt8)×Bool),Qmh p0=some o→PCall Tryd.prog 20 [.sl false (p0.map Qac)] (Qix o):=by
 intro p0 o h
 unfold Qmh at h
 refine PCall.ofB mixed tbOk Qxy Tryd.func20 rfl (by kernel_rfl) (Nat.le_of_ble_eq_true rfl) ?_
 refine Qaj [.sl false (p0.map Qac)] Qvf h (fun x1 hy=>(Q4a p0 x1 hy)) (fun x1 hy h=>?_)
 refine Qaf h (fun hb h=>?_) (fun hb h=>?_)
 ·refine Qal (t:=Qix) h ?_
  exact .refl _
 ·refine Qaj [.sl false (p0.map Qac)] Qej h (fun x2 hy=>(Qye p0 x2 hy)) (fun x2 hy h=>?_)
  refine vrfl ?_
  refine Qaf h (fun hb h=>?_) (fun hb h=>?_)
  ·refine Qal (t:=Qix) h ?_
   exact .refl _
  ·refine Qal (t:=Qix) h ?_
   exact .refl _
mutual
noncomputable def Qgl (p0:(List Qaa)) (p1:(List Qaa)):Option (Bool) :=
 if((p0.length:Int) != (p1.length:Int)) then
  some false
 else
  (Qfr p0 p1 0)>>=fun o1 =>
  match o1 with
  | .inl y2 =>
   some true
  | .inr y3 =>
   some false
 partial_fixpoint
noncomputable def Qfr (p0:(List Qaa)) (p1:(List Qaa)) (v5:Int):Option (Unit⊕Unit) :=
 if(decide (v5<(p0.length:Int))) then
  ( idx p0 v5>>=fun x5 =>
   idx p1 v5>>=fun x6 =>
   some (x5.Kind,x5.Name,x5.Text,x5.N,x5.L,x5.Then,x5.Else,x6.Kind,x6.Name,x6.Text,x6.N,x6.L,x6.Then,x6.Else):Option ((Int×(List UInt8)×(List UInt8)×Int×(List Qaa)×(List Qaa)×(List Qaa)×Int×(List UInt8)×(List UInt8)×Int×(List Qaa)×(List Qaa)×(List Qaa))))>>=fun o4 =>
  ( if(o4.1 != o4.2.2.2.2.2.2.2.1) then
    some true
   else
    if(!(o4.2.1==o4.2.2.2.2.2.2.2.2.1)) then
     some true
    else
     if(!(o4.2.2.1==o4.2.2.2.2.2.2.2.2.2.1)) then
      some true
     else
      if(o4.2.2.2.1 != o4.2.2.2.2.2.2.2.2.2.2.1) then
       some true
      else
       Qgl o4.2.2.2.2.1 o4.2.2.2.2.2.2.2.2.2.2.2.1>>=fun x8 =>
       if(!x8) then
        some true
       else
        Qgl o4.2.2.2.2.2.1 o4.2.2.2.2.2.2.2.2.2.2.2.2.1>>=fun x9 =>
        if(!x9) then
         some true
        else
         Qgl o4.2.2.2.2.2.2.1 o4.2.2.2.2.2.2.2.2.2.2.2.2.2>>=fun x10 =>
         some (!x10):Option (Bool))>>=fun o7 =>
  if o7 then
   some (.inr ())
  else
   Qfr p0 p1 (wr (v5+1))
 else
  some (.inl ())
 partial_fixpoint
end
theorem Qyg:(∀ (p0:(List Qaa)) (p1:(List Qaa)) (o:Bool),Qgl p0 p1=some o→PCall Tryd.prog 23 [.sl false (p0.map Qac),.sl false (p1.map Qac)] (Qez o))∧(∀ (p0:(List Qaa)) (p1:(List Qaa)) (v5:Int) (o1:Unit⊕Unit),Qfr p0 p1 v5=some o1→TL (0,0) Tryd.prog 77 Qvi (JP2 (0,0) 77 o1 (.exit 0) (Qnr p0 p1) .ret (Qns p0 p1)) (Qj1 p0 p1 v5)):=by
 refine Qgl.mutual_partial_correctness _ _ ?_ ?_
 ·intro Qfr' iQfr p0 p1 o h
  refine PCall.ofB mixed tbOk Qru Tryd.func23 rfl (by kernel_rfl) (Nat.le_of_ble_eq_true rfl) ?_
  refine view (lenMap _ _) rfl ?_
  refine view (lenMap _ _) rfl ?_
  refine Qaf h (fun hb h=>?_) (fun hb h=>?_)
  ·refine Qal (t:=Qez) h ?_
   exact .refl _
  ·refine Qag h (fun o1 ho hk=>?_)
   refine Exists.intro (JP2 _ _ o1 (.exit 0) (Qnr p0 p1) .ret (Qns p0 p1)) (And.intro (T_le (τ := Qj1 p0 p1 0) ?_ (TL.loop (iQfr p0 p1 0 o1 ho))) (join2 (fun y2 hy=>?_) (fun y3 hy=>?_)))
   ·exact Le.tz 0 0 rfl rfl rfl
   ·have h:=(by rw[hy] at hk; exact hk)
    refine Qal (t:=Qez) h ?_
    exact .refl _
   ·have h:=(by rw[hy] at hk; exact hk)
    refine Qal (t:=Qez) h ?_
    exact .refl _
 ·intro Qgl' Qfr' iQgl iQfr p0 p1 v5 o1 h
  refine TL.round (Qak mixed tbOk (lv:=Qru) _ _ _ ?_)
  refine view (lenMap _ _) rfl ?_
  refine Qaf h (fun hb h=>?_) (fun hb h=>?_)
  ·refine Qag h (fun o4 ho hk=>?_)
   refine Exists.intro (JP1 _ _ o4 .normal (Qvg p0 p1 v5)) (And.intro ?_ (join1 ?_))
   ·have h:=ho
    refine And.intro (by decide +kernel) (And.intro (by decide +kernel) (And.intro (by decide +kernel) (And.intro rfl ?_)))
    refine Qcl (l:=p0) (c:=Qac) (c' := Qat) h Qah (fun _=>rfl) (by decide) (fun x5 hi h=>?_)
    refine Qcl (l:=p1) (c:=Qac) (c' := Qat) h Qah (fun _=>rfl) (by decide) (fun x6 hi h=>?_)
    refine And.intro (Nat.le_of_ble_eq_true rfl) (And.intro ?_ ?_)
    ·refine JP1.a h ?_
     exact Le.tz 2 0 rfl rfl rfl
    ·refine JP1.a h ?_
     exact Le.trans (τ := ⟨[(0,.p (.sl false (p0.map Qac))),(1,.p (.sl false (p1.map Qac))),(5,.p (iV v5)),(6,.ptr 0 0),(7,.ptr 1 0)],⟨[[.p (iV x5.Kind),.p (sV x5.Name),.p (sV x5.Text),.p (iV x5.N),.p (.sl false (x5.L.map Qac)),.p (.sl false (x5.Then.map Qac)),.p (.sl false (x5.Else.map Qac))],[.p (iV x6.Kind),.p (sV x6.Name),.p (sV x6.Text),.p (iV x6.N),.p (.sl false (x6.L.map Qac)),.p (.sl false (x6.Then.map Qac)),.p (.sl false (x6.Else.map Qac))]],[]⟩⟩) (Le.perm [1,0] rfl rfl rfl) (Le.tz 2 0 rfl rfl rfl)
   ·have h:=hk
    refine Qag h (fun o7 ho hk=>?_)
    refine Exists.intro (JP1 _ _ o7 .normal (Qvh p0 p1 v5 o4)) (And.intro ?_ (join1 ?_))
    ·have h:=ho
     refine Qaf h (fun hb h=>?_) (fun hb h=>?_)
     ·refine bT ?_
      refine bT ?_
      refine bT ?_
      refine bT ?_
      refine bT ?_
      refine JP1.a h ?_
      exact Le.tz 2 0 rfl rfl rfl
     ·refine Qaf h (fun hb h=>?_) (fun hb h=>?_)
      ·refine bT ?_
       refine bT ?_
       refine bT ?_
       refine bT ?_
       refine JP1.a h ?_
       exact Le.tz 2 0 rfl rfl rfl
      ·refine Qaf h (fun hb h=>?_) (fun hb h=>?_)
       ·refine bT ?_
        refine bT ?_
        refine bT ?_
        refine JP1.a h ?_
        exact Le.tz 2 0 rfl rfl rfl
       ·refine Qaf h (fun hb h=>?_) (fun hb h=>?_)
        ·refine bT ?_
         refine bT ?_
         refine JP1.a h ?_
         exact Le.tz 2 0 rfl rfl rfl
        ·refine Qaj [.sl false (o4.2.2.2.2.1.map Qac),.sl false (o4.2.2.2.2.2.2.2.2.2.2.2.1.map Qac)] Qez h (fun x8 hy=>(iQgl o4.2.2.2.2.1 o4.2.2.2.2.2.2.2.2.2.2.2.1 x8 hy)) (fun x8 hy h=>?_)
         refine Qaf h (fun hb h=>?_) (fun hb h=>?_)
         ·refine bT ?_
          refine JP1.a h ?_
          exact Le.tz 2 0 rfl rfl rfl
         ·refine Qaj [.sl false (o4.2.2.2.2.2.1.map Qac),.sl false (o4.2.2.2.2.2.2.2.2.2.2.2.2.1.map Qac)] Qez h (fun x9 hy=>(iQgl o4.2.2.2.2.2.1 o4.2.2.2.2.2.2.2.2.2.2.2.2.1 x9 hy)) (fun x9 hy h=>?_)
          refine Qaf h (fun hb h=>?_) (fun hb h=>?_)
          ·refine JP1.a h ?_
           exact Le.tz 2 0 rfl rfl rfl
          ·refine Qaj [.sl false (o4.2.2.2.2.2.2.1.map Qac),.sl false (o4.2.2.2.2.2.2.2.2.2.2.2.2.2.map Qac)] Qez h (fun x10 hy=>(iQgl o4.2.2.2.2.2.2.1 o4.2.2.2.2.2.2.2.2.2.2.2.2.2 x10 hy)) (fun x10 hy h=>?_)
           refine JP1.a h ?_
           exact Le.tz 2 0 rfl rfl rfl
    ·have h:=hk
     refine Qaf h (fun hb h=>?_) (fun hb h=>?_)
     ·exact JP2.b h (Le.tz 0 0 rfl rfl rfl)
     ·refine TL.le (τ := Qj1 p0 p1 (wr (v5+1))) ?_ ((iQfr p0 p1 (wr (v5+1)) _ h))
      exact Le.tz 0 0 rfl rfl rfl
  ·exact JP2.a h (Le.tz 0 0 rfl rfl rfl)
theorem Q0d:∀ (p0:(List Qaa)) (p1:(List Qaa)) (o:Bool),Qgl p0 p1=some o→PCall Tryd.prog 23 [.sl false (p0.map Qac),.sl false (p1.map Qac)] (Qez o):=fun p0 p1=>Qyg.1 p0 p1
noncomputable def Qbq (p0:(List UInt8)) (p1:(List UInt8)):Option (Bool) :=
 ( if(decide ((p0.length:Int) ≥ (p1.length:Int))) then
   cutL p0 0 (p1.length:Int)>>=fun x2 =>
   some (x2==p1)
  else
   some false:Option (Bool))>>=fun o1 =>
 some o1
theorem Qgm:∀ (p0:(List UInt8)) (p1:(List UInt8)) (o:Bool),Qbq p0 p1=some o→PCall Tryd.prog 92 [sV p0,sV p1] (Qb3 o):=by
 intro p0 p1 o h
 unfold Qbq at h
 refine PCall.ofB mixed tbOk Qf6 Tryd.func92 rfl (by kernel_rfl) (Nat.le_of_ble_eq_true rfl) ?_
 refine Qag h (fun o1 ho hk=>?_)
 refine Exists.intro (JP1 _ _ o1 .normal (Qfj )) (And.intro ?_ (join1 ?_))
 ·have h:=ho
  refine vrfl ?_
  refine vrfl ?_
  refine Qaf h (fun hb h=>?_) (fun hb h=>?_)
  ·refine vrfl ?_
   refine Qfg none (some (p1.length:Int)) h (fun x2 hi h=>?_)
   refine JP1.a h ?_
   exact Le.tz 0 0 rfl rfl rfl
  ·refine JP1.a h ?_
   exact Le.tz 0 0 rfl rfl rfl
 ·have h:=hk
  refine Qal (t:=Qb3) h ?_
  exact .refl _
noncomputable def Qb5 (p0:(List UInt8)) (p1:(List UInt8)):Option (Int) :=
 need (p0.length<4294967281)>>=fun _ =>
 some (Lib.index p0 p1)
theorem Qh9:∀ (p0:(List UInt8)) (p1:(List UInt8)) (o:Int),Qb5 p0 p1=some o→PCall Tryd.prog 94 [sV p0,sV p1] (Qec o):=by
 intro p0 p1 o h
 unfold Qb5 at h
 obtain⟨h1,h⟩:=Qj8 h
 cases h
 exact Q5u _ _ h1
noncomputable def Qfc (p0:(List UInt8)) (p1:(List UInt8)):Option ((List UInt8)) :=
 need (p1.length<4294967281)>>=fun _ =>
 need (p1.all (fun b=>decide (b.toNat<128))=true)>>=fun _ =>
 some (Lib.trimLeftS p0 p1)
theorem Qn7:∀ (p0:(List UInt8)) (p1:(List UInt8)) (o:(List UInt8)),Qfc p0 p1=some o→PCall Tryd.prog 107 [sV p0,sV p1] (Qjj o):=by
 intro p0 p1 o h
 unfold Qfc at h
 obtain⟨h1,h⟩:=Qj8 h
 obtain⟨h2,h⟩:=Qj8 h
 cases h
 exact Qzv _ _ h1 h2
noncomputable def Qb1 (h0_0:(List UInt8)) (h0_1:Int) (h0_2:(List Qab)):Option (Int) :=
 cutL h0_0 h0_1 (h0_0.length:Int)>>=fun x1 =>
 Qfc x1 [32,9,10,13]>>=fun x2 =>
 some (wr ((h0_0.length:Int)-(x2.length:Int)))
theorem Qgn:∀ (h0_0:(List UInt8)) (h0_1:Int) (h0_2:(List Qab)) (o:Int),Qb1 h0_0 h0_1 h0_2=some o→CallOK Tryd.prog 78 [.ptr 0 0] ⟨[[.p (sV h0_0),.p (iV h0_1),.own 0 106 5 (h0_2.map Qae)]],[(h0_2.map Qae).length]⟩ (Qgv o) ⟨[[.p (sV h0_0),.p (iV o),.own 0 106 5 (h0_2.map Qae)]],[(h0_2.map Qae).length]⟩:=by
 intro h0_0 h0_1 h0_2 o h
 unfold Qb1 at h
 refine CallOK.ofB mixed tbOk Qkx Tryd.func78 rfl (by kernel_rfl) (Nat.le_of_ble_eq_true rfl) rfl rfl rfl ?_
 refine And.intro (by decide +kernel) (And.intro rfl ?_)
 refine vrfl ?_
 refine Qfg (some h0_1) none h (fun x1 hi h=>?_)
 refine Qcr [sV x1,sV [32,9,10,13]] Qjj h (fun x2 hy=>(Qn7 x1 [32,9,10,13] x2 hy)) (fun x2 hy h=>?_)
 refine vrfl ?_
 refine Exists.intro _ (And.intro (Le.refl _ _ _) ?_)
 exact Qb8 (t:=Qgv) (ss:=fun o=>⟨[[.p (sV h0_0),.p (iV o),.own 0 106 5 (h0_2.map Qae)]],[(h0_2.map Qae).length]⟩) h ⟨[0],rfl,.refl _,.refl _,rfl⟩
noncomputable def Qar (p1:Int) (p2:(List UInt8)) (p3:Int) (p4:Int) (h0_0:(List UInt8)) (h0_1:Int) (h0_2:(List Qab)):Option (Int×(List Qab)) :=
 appL 48 h0_2 [(Qab.mk p1 p2 p3 h0_1 (wr (h0_1+p4)))]>>=fun x1 =>
 some ((wr (h0_1+p4)),x1)
theorem Qbn:∀ (p1:Int) (p2:(List UInt8)) (p3:Int) (p4:Int) (h0_0:(List UInt8)) (h0_1:Int) (h0_2:(List Qab)) (o:Int×(List Qab)),Qar p1 p2 p3 p4 h0_0 h0_1 h0_2=some o→CallOK Tryd.prog 77 [.ptr 0 0,.p (iV p1),.p (sV p2),.p (iV p3),.p (iV p4)] ⟨[[.p (sV h0_0),.p (iV h0_1),.own 0 106 5 (h0_2.map Qae)]],[(h0_2.map Qae).length]⟩ (Qiz o) ⟨[[.p (sV h0_0),.p (iV o.1),.own 0 106 5 (o.2.map Qae)]],[(o.2.map Qae).length]⟩:=by
 intro p1 p2 p3 p4 h0_0 h0_1 h0_2 o h
 unfold Qar at h
 refine CallOK.ofB mixed tbOk Qnd Tryd.func77 rfl (by kernel_rfl) (Nat.le_of_ble_eq_true rfl) rfl rfl rfl ?_
 refine And.intro (by decide +kernel) (And.intro rfl ?_)
 refine Qrj (a:=h0_2) (b:=[(Qab.mk p1 p2 p3 h0_1 (wr (h0_1+p4)))]) (c:=Qae) h (.refl _) (fun _=>rfl) rfl (fun x1 hi h=>?_)
 refine Exists.intro _ (And.intro (Le.refl _ _ _) ?_)
 exact Qb8 (t:=Qiz) (ss:=fun o=>⟨[[.p (sV h0_0),.p (iV o.1),.own 0 106 5 (o.2.map Qae)]],[(o.2.map Qae).length]⟩) h ⟨[0],rfl,.refl _,.refl _,rfl⟩
noncomputable def Qhx (p0:Int):Option (Bool) :=
 ( if(decide (p0 ≥ 48)) then
   some (decide (p0≤57))
  else
   some false:Option (Bool))>>=fun o1 =>
 some o1
theorem Qjl:∀ (p0:Int) (o:Bool),Qhx p0=some o→PCall Tryd.prog 109 [nV .u8 p0] (Qg4 o):=by
 intro p0 o h
 unfold Qhx at h
 refine PCall.ofB mixed tbOk Qx0 Tryd.func109 rfl (by kernel_rfl) (Nat.le_of_ble_eq_true rfl) ?_
 refine Qag h (fun o1 ho hk=>?_)
 refine Exists.intro (JP1 _ _ o1 .normal (Qta )) (And.intro ?_ (join1 ?_))
 ·have h:=ho
  refine Qaf h (fun hb h=>?_) (fun hb h=>?_)
  ·refine JP1.a h ?_
   exact Le.tz 0 0 rfl rfl rfl
  ·refine JP1.a h ?_
   exact Le.tz 0 0 rfl rfl rfl
 ·have h:=hk
  refine Qal (t:=Qg4) h ?_
  exact .refl _
noncomputable def Qg7 (p0:Int):Option (Bool) :=
 ( if(decide (p0 ≥ 97)) then
   if(decide (p0≤122)) then
    some true
   else
    Qhx p0>>=fun x2 =>
    if x2 then
     some true
    else
     some (p0==95)
  else
   Qhx p0>>=fun x3 =>
   if x3 then
    some true
   else
    some (p0==95):Option (Bool))>>=fun o1 =>
 some o1
theorem Qk7:∀ (p0:Int) (o:Bool),Qg7 p0=some o→PCall Tryd.prog 111 [nV .u8 p0] (Qhr o):=by
 intro p0 o h
 unfold Qg7 at h
 refine PCall.ofB mixed tbOk Qvy Tryd.func111 rfl (by kernel_rfl) (Nat.le_of_ble_eq_true rfl) ?_
 refine Qag h (fun o1 ho hk=>?_)
 refine Exists.intro (JP1 _ _ o1 .normal (Qr1 )) (And.intro ?_ (join1 ?_))
 ·have h:=ho
  refine Qaf h (fun hb h=>?_) (fun hb h=>?_)
  ·refine Qaf h (fun hb h=>?_) (fun hb h=>?_)
   ·refine bT ?_
    refine JP1.a h ?_
    exact Le.tz 0 0 rfl rfl rfl
   ·refine Qaj [nV .u8 p0] Qg4 h (fun x2 hy=>(Qjl p0 x2 hy)) (fun x2 hy h=>?_)
    refine Qaf h (fun hb h=>?_) (fun hb h=>?_)
    ·refine JP1.a h ?_
     exact Le.tz 0 0 rfl rfl rfl
    ·refine JP1.a h ?_
     exact Le.tz 0 0 rfl rfl rfl
  ·refine bF ?_
   refine Qaj [nV .u8 p0] Qg4 h (fun x3 hy=>(Qjl p0 x3 hy)) (fun x3 hy h=>?_)
   refine Qaf h (fun hb h=>?_) (fun hb h=>?_)
   ·refine JP1.a h ?_
    exact Le.tz 0 0 rfl rfl rfl
   ·refine JP1.a h ?_
    exact Le.tz 0 0 rfl rfl rfl
 ·have h:=hk
  refine Qal (t:=Qhr) h ?_
  exact .refl _
noncomputable def Qaq (h0_0:(List UInt8)) (h0_1:Int) (h0_2:(List Qab)) (v7:Int):Option (Int) :=
 ( if(decide (v7<(h0_0.length:Int))) then
   idx h0_0 v7>>=fun x3 =>
   Qhx (x3.toNat:Int)>>=fun x4 =>
   some x4
  else
   some false:Option (Bool))>>=fun o2 =>
 if o2 then
  Qaq h0_0 h0_1 h0_2 (wr (v7+1))
 else
  some v7
 partial_fixpoint
theorem Qgs:∀ (h0_0:(List UInt8)) (h0_1:Int) (h0_2:(List Qab)),(∀ (v7:Int) (o1:Int),Qaq h0_0 h0_1 h0_2 v7=some o1→TL (1,1) Tryd.prog 38 Qdk (JP1 (1,1) 38 o1 (.exit 0) (Qca h0_0 h0_1 h0_2)) (Qbm h0_0 h0_1 h0_2 v7)):=by
 intro h0_0 h0_1 h0_2
 refine Qaq.partial_correctness h0_0 h0_1 h0_2 _ ?_
 intro Qaq' iQaq v7 o1 h
 refine TL.round (Qak mixed tbOk (lv:=Qee) _ _ _ ?_)
 refine Qag h (fun o2 ho hk=>?_)
 refine Exists.intro (JP1 _ _ o2 .normal (Qhs h0_0 h0_1 h0_2 v7)) (And.intro ?_ (join1 ?_))
 ·have h:=ho
  refine vrfl ?_
  refine Qaf h (fun hb h=>?_) (fun hb h=>?_)
  ·refine Qc7 h (fun x3 hi h=>?_)
   refine Qaj [nV .u8 (x3.toNat:Int)] Qg4 h (fun x4 hy=>(Qjl (x3.toNat:Int) x4 hy)) (fun x4 hy h=>?_)
   refine JP1.a h ?_
   exact Le.tz 1 1 rfl rfl rfl
  ·refine JP1.a h ?_
   exact Le.tz 1 1 rfl rfl rfl
 ·have h:=hk
  refine Qaf h (fun hb h=>?_) (fun hb h=>?_)
  ·refine TL.le (τ := Qbm h0_0 h0_1 h0_2 (wr (v7+1))) ?_ ((iQaq (wr (v7+1)) _ h))
   exact Le.tz 1 1 rfl rfl rfl
  ·exact JP1.a h (Le.tz 1 1 rfl rfl rfl)
theorem Qg8:∀ (h0_0:(List UInt8)) (h0_1:Int) (h0_2:(List Qab)) (v7:Int) (o1:Int),Qaq h0_0 h0_1 h0_2 v7=some o1→TL (1,1) Tryd.prog 38 Qdk (JP1 (1,1) 38 o1 (.exit 0) (Qca h0_0 h0_1 h0_2)) (Qbm h0_0 h0_1 h0_2 v7):=fun h0_0 h0_1 h0_2 v7=>(Qgs h0_0 h0_1 h0_2) v7
noncomputable def Qce (p1:Int) (h0_0:(List UInt8)) (h0_1:Int) (h0_2:(List Qab)):Option ((List UInt8)) :=
 (Qaq h0_0 h0_1 h0_2 p1)>>=fun o1 =>
 cutL h0_0 h0_1 o1>>=fun x5 =>
 some x5
theorem Qij:∀ (p1:Int) (h0_0:(List UInt8)) (h0_1:Int) (h0_2:(List Qab)) (o:(List UInt8)),Qce p1 h0_0 h0_1 h0_2=some o→CallOK Tryd.prog 142 [.ptr 0 0,.p (iV p1),.fn (.func 109) [] []] ⟨[[.p (sV h0_0),.p (iV h0_1),.own 0 106 5 (h0_2.map Qae)]],[(h0_2.map Qae).length]⟩ (Qel o) ⟨[[.p (sV h0_0),.p (iV h0_1),.own 0 106 5 (h0_2.map Qae)]],[(h0_2.map Qae).length]⟩:=by
 intro p1 h0_0 h0_1 h0_2 o h
 unfold Qce at h
 refine CallOK.ofB mixed tbOk Qee Tryd.func142 rfl (by kernel_rfl) (Nat.le_of_ble_eq_true rfl) rfl rfl rfl ?_
 refine Qag h (fun o1 ho hk=>?_)
 refine Exists.intro (JP1 _ _ o1 (.exit 0) (Qca h0_0 h0_1 h0_2)) (And.intro (T_le (τ := Qbm h0_0 h0_1 h0_2 p1) ?_ (TL.loop (Qg8 h0_0 h0_1 h0_2 p1 o1 ho))) (join1 ?_))
 ·exact Le.tz 1 1 rfl rfl rfl
 have h:=hk
 refine And.intro (by decide +kernel) (And.intro rfl ?_)
 refine Qfg (some h0_1) (some o1) h (fun x5 hi h=>?_)
 refine Exists.intro _ (And.intro (Le.refl _ _ _) ?_)
 exact Qb8 (t:=Qel) (ss:=fun o=>⟨[[.p (sV h0_0),.p (iV h0_1),.own 0 106 5 (h0_2.map Qae)]],[(h0_2.map Qae).length]⟩) h ⟨[0],rfl,.refl _,.refl _,rfl⟩
noncomputable def Qjm (p0:(List UInt8)):Option (Int×Bool) :=
 need (p0.length≤9223372036854775807)>>=fun _ =>
 some (numP p0)
theorem Qsd:∀ (p0:(List UInt8)) (o:Int×Bool),Qjm p0=some o→PCall Tryd.prog 143 [sV p0] (Qnt o):=by
 intro p0 o h
 unfold Qjm at h
 obtain⟨h1,h⟩:=Qj8 h
 cases h
 exact Q34 _ h1
noncomputable def Qc0 (h0_0:(List UInt8)) (h0_1:Int) (h0_2:(List Qab)):Option (Bool×Int×(List Qab)) :=
 Qce (wr (h0_1+1)) h0_0 h0_1 h0_2>>=fun x1 =>
 Qjm x1>>=fun x2 =>
 if x2.2 then
  Qar 6 [] x2.1 (x1.length:Int) h0_0 h0_1 h0_2>>=fun x3 =>
  some (x2.2,x3.1,x3.2)
 else
  some (x2.2,h0_1,h0_2)
theorem Qmi:∀ (h0_0:(List UInt8)) (h0_1:Int) (h0_2:(List Qab)) (o:Bool×Int×(List Qab)),Qc0 h0_0 h0_1 h0_2=some o→CallOK Tryd.prog 110 [.ptr 0 0] ⟨[[.p (sV h0_0),.p (iV h0_1),.own 0 106 5 (h0_2.map Qae)]],[(h0_2.map Qae).length]⟩ (Qe2 o) ⟨[[.p (sV h0_0),.p (iV o.2.1),.own 0 106 5 (o.2.2.map Qae)]],[(o.2.2.map Qae).length]⟩:=by
 intro h0_0 h0_1 h0_2 o h
 unfold Qc0 at h
 refine CallOK.ofB mixed tbOk Ql9 Tryd.func110 rfl (by kernel_rfl) (Nat.le_of_ble_eq_true rfl) rfl rfl rfl ?_
 refine Qau _ _ h (fun x1 hy=>((Qij (wr (h0_1+1)) h0_0 h0_1 h0_2 x1 hy).fr [0] [0] rfl rfl rfl)) (fun x1 hy h=>?_)
 refine Qaj [sV x1] Qnt h (fun x2 hy=>(Qsd x1 x2 hy)) (fun x2 hy h=>?_)
 refine Qaf h (fun hb h=>?_) (fun hb h=>?_)
 ·refine vrfl ?_
  refine Qau _ _ h (fun x3 hy=>((Qbn 6 [] x2.1 (x1.length:Int) h0_0 h0_1 h0_2 x3 hy).fr [0] [0] rfl rfl rfl)) (fun x3 hy h=>?_)
  refine Exists.intro _ (And.intro (Le.refl _ _ _) ?_)
  exact Qb8 (t:=Qe2) (ss:=fun o=>⟨[[.p (sV h0_0),.p (iV o.2.1),.own 0 106 5 (o.2.2.map Qae)]],[(o.2.2.map Qae).length]⟩) h ⟨[0],rfl,.refl _,.refl _,rfl⟩
 ·refine Exists.intro _ (And.intro (Le.refl _ _ _) ?_)
  exact Qb8 (t:=Qe2) (ss:=fun o=>⟨[[.p (sV h0_0),.p (iV o.2.1),.own 0 106 5 (o.2.2.map Qae)]],[(o.2.2.map Qae).length]⟩) h ⟨[0],rfl,.refl _,.refl _,rfl⟩
noncomputable def Qa4 (h0_0:(List UInt8)) (h0_1:Int) (h0_2:(List Qab)) (v13:Int):Option (Unit⊕(Int×(List Qab))) :=
 if(decide (v13<5)) then
  idx ([(Qh1.mk 46 7),(Qh1.mk 40 8),(Qh1.mk 41 9),(Qh1.mk 44 10),(Qh1.mk 61 11)]:List Qh1) v13>>=fun x4 =>
  idx h0_0 h0_1>>=fun x5 =>
  if((x5.toNat:Int)==x4.c_) then
   Qar x4.k_ [] 0 1 h0_0 h0_1 h0_2>>=fun x6 =>
   some (.inr (x6.1,x6.2))
  else
   Qa4 h0_0 h0_1 h0_2 (wr (v13+1))
 else
  some (.inl ())
 partial_fixpoint
theorem Qk8:∀ (h0_0:(List UInt8)) (h0_1:Int) (h0_2:(List Qab)),(∀ (v13:Int) (o1:Unit⊕(Int×(List Qab))),Qa4 h0_0 h0_1 h0_2 v13=some o1→TL (1,1) Tryd.prog 33 Qht (JP2 (1,1) 33 o1 (.exit 0) (Qd8 h0_0 h0_1 h0_2) .ret (Qd9 h0_0 h0_1 h0_2)) (Qcs h0_0 h0_1 h0_2 v13)):=by
 intro h0_0 h0_1 h0_2
 refine Qa4.partial_correctness h0_0 h0_1 h0_2 _ ?_
 intro Qa4' iQa4 v13 o1 h
 refine TL.round (Qak mixed tbOk (lv:=Qi0) _ _ _ ?_)
 refine Qaf h (fun hb h=>?_) (fun hb h=>?_)
 ·refine Q5t (l:=([(Qh1.mk 46 7),(Qh1.mk 40 8),(Qh1.mk 41 9),(Qh1.mk 44 10),(Qh1.mk 61 11)]:List Qh1)) (c:=fun x4=>[nV .u8 x4.c_,iV x4.k_]) h rfl rfl rfl (fun _=>rfl) rfl (fun x4 hi h=>?_)
  refine And.intro (by decide +kernel) (And.intro rfl ?_)
  refine Qc7 h (fun x5 hi h=>?_)
  refine Qaf h (fun hb h=>?_) (fun hb h=>?_)
  ·refine Qau _ _ h (fun x6 hy=>((Qbn x4.k_ [] 0 1 h0_0 h0_1 h0_2 x6 hy).fr [0] [0] rfl rfl rfl)) (fun x6 hy h=>?_)
   exact JP2.b h (Le.tz 2 1 rfl rfl rfl)
  ·refine TL.le (τ := Qcs h0_0 h0_1 h0_2 (wr (v13+1))) ?_ ((iQa4 (wr (v13+1)) _ h))
   exact Le.tz 2 1 rfl rfl rfl
 ·exact JP2.a h (Le.tz 2 1 rfl rfl rfl)
theorem Qlo:∀ (h0_0:(List UInt8)) (h0_1:Int) (h0_2:(List Qab)) (v13:Int) (o1:Unit⊕(Int×(List Qab))),Qa4 h0_0 h0_1 h0_2 v13=some o1→TL (1,1) Tryd.prog 33 Qht (JP2 (1,1) 33 o1 (.exit 0) (Qd8 h0_0 h0_1 h0_2) .ret (Qd9 h0_0 h0_1 h0_2)) (Qcs h0_0 h0_1 h0_2 v13):=fun h0_0 h0_1 h0_2 v13=>(Qk8 h0_0 h0_1 h0_2) v13
noncomputable def Qd1 (h0_0:(List UInt8)) (h0_1:Int) (h0_2:(List Qab)):Option (Bool×Int×(List Qab)) :=
 (Qa4 h0_0 h0_1 h0_2 0)>>=fun o1 =>
 match o1 with
 | .inl y2 =>
  some (false,h0_1,h0_2)
 | .inr y3 =>
  some (true,y3.1,y3.2)
theorem Qn8:∀ (h0_0:(List UInt8)) (h0_1:Int) (h0_2:(List Qab)) (o:Bool×Int×(List Qab)),Qd1 h0_0 h0_1 h0_2=some o→CallOK Tryd.prog 113 [.ptr 0 0] ⟨[[.p (sV h0_0),.p (iV h0_1),.own 0 106 5 (h0_2.map Qae)]],[(h0_2.map Qae).length]⟩ (Qf9 o) ⟨[[.p (sV h0_0),.p (iV o.2.1),.own 0 106 5 (o.2.2.map Qae)]],[(o.2.2.map Qae).length]⟩:=by
 intro h0_0 h0_1 h0_2 o h
 unfold Qd1 at h
 refine CallOK.ofB mixed tbOk Qi0 Tryd.func113 rfl (by kernel_rfl) (Nat.le_of_ble_eq_true rfl) rfl rfl rfl ?_
 refine Qag h (fun o1 ho hk=>?_)
 refine Exists.intro (JP2 _ _ o1 (.exit 0) (Qd8 h0_0 h0_1 h0_2) .ret (Qd9 h0_0 h0_1 h0_2)) (And.intro (T_le (τ := Qcs h0_0 h0_1 h0_2 0) ?_ (TL.loop (Qlo h0_0 h0_1 h0_2 0 o1 ho))) (join2 (fun y2 hy=>?_) (fun y3 hy=>?_)))
 ·exact Le.tz 2 1 rfl rfl rfl
 ·have h:=(by rw[hy] at hk; exact hk)
  refine Exists.intro _ (And.intro (Le.refl _ _ _) ?_)
  exact Qb8 (t:=Qf9) (ss:=fun o=>⟨[[.p (sV h0_0),.p (iV o.2.1),.own 0 106 5 (o.2.2.map Qae)]],[(o.2.2.map Qae).length]⟩) h ⟨[0],rfl,.refl _,.refl _,rfl⟩
 ·have h:=(by rw[hy] at hk; exact hk)
  refine Exists.intro _ (And.intro (Le.refl _ _ _) ?_)
  exact Qb8 (t:=Qf9) (ss:=fun o=>⟨[[.p (sV h0_0),.p (iV o.2.1),.own 0 106 5 (o.2.2.map Qae)]],[(o.2.2.map Qae).length]⟩) h ⟨[0],rfl,.refl _,.refl _,rfl⟩
noncomputable def Qi7 (p0:Int):Option (Int×Bool) :=
 if(p0==110) then
  some (10,true)
 else
  if(p0==116) then
   some (9,true)
  else
   ( if(p0==34) then
     some true
    else
     some (p0==92):Option (Bool))>>=fun o1 =>
   some (p0,o1)
theorem Qtj:∀ (p0:Int) (o:Int×Bool),Qi7 p0=some o→PCall Tryd.prog 141 [nV .u8 p0] (Qf8 o):=by
 intro p0 o h
 unfold Qi7 at h
 refine PCall.ofB mixed tbOk Qtb Tryd.func141 rfl (by kernel_rfl) (Nat.le_of_ble_eq_true rfl) ?_
 refine Qaf h (fun hb h=>?_) (fun hb h=>?_)
 ·refine Qal (t:=Qf8) h ?_
  exact .refl _
 ·refine Qaf h (fun hb h=>?_) (fun hb h=>?_)
  ·refine Qal (t:=Qf8) h ?_
   exact .refl _
  ·refine Qag h (fun o1 ho hk=>?_)
   refine Exists.intro (JP1 _ _ o1 .normal (Qqg p0)) (And.intro ?_ (join1 ?_))
   ·have h:=ho
    refine Qaf h (fun hb h=>?_) (fun hb h=>?_)
    ·refine JP1.a h ?_
     exact Le.tz 0 0 rfl rfl rfl
    ·refine JP1.a h ?_
     exact Le.tz 0 0 rfl rfl rfl
   ·have h:=hk
    refine Qal (t:=Qf8) h ?_
    exact .refl _
noncomputable def Qa6 (h0_0:Bool) (h0_1:(List Int)):Option (Bool) :=
 some true
theorem Qdl:∀ (h0_0:Bool) (h0_1:(List Int)) (o:Bool),Qa6 h0_0 h0_1=some o→CallOK Tryd.prog 53 [.ptr 0 0] ⟨[[.sp Tryd.prog 44 h0_0 0 0,.own 0 5 1 (h0_1.map (cNum .u8))]],[(h0_1.map (cNum .u8)).length]⟩ (Qh4 o) ⟨[[.sp Tryd.prog 44 o 0 0,.own 0 5 1 (h0_1.map (cNum .u8))]],[(h0_1.map (cNum .u8)).length]⟩:=by
 intro h0_0 h0_1 o h
 unfold Qa6 at h
 cases h
 exact Qxs [[.sp Tryd.prog 44 h0_0 0 0,.own 0 5 1 (h0_1.map (cNum .u8))]] _ 0 [.sp Tryd.prog 44 h0_0 0 0,.own 0 5 1 (h0_1.map (cNum .u8))] rfl rfl
noncomputable def Qbl (p1:Int) (h0_0:Bool) (h0_1:(List Int)):Option (Unit×Bool×(List Int)) :=
 Qa6 h0_0 h0_1>>=fun x1 =>
 appL 1 h0_1 [p1]>>=fun x2 =>
 some ((),x1,x2)
theorem Qhy:∀ (p1:Int) (h0_0:Bool) (h0_1:(List Int)) (o:Unit×Bool×(List Int)),Qbl p1 h0_0 h0_1=some o→CallOK Tryd.prog 39 [.ptr 0 0,.p (nV .u8 p1)] ⟨[[.sp Tryd.prog 44 h0_0 0 0,.own 0 5 1 (h0_1.map (cNum .u8))]],[(h0_1.map (cNum .u8)).length]⟩ (Qdz o) ⟨[[.sp Tryd.prog 44 o.2.1 0 0,.own 0 5 1 (o.2.2.map (cNum .u8))]],[(o.2.2.map (cNum .u8)).length]⟩:=by
 intro p1 h0_0 h0_1 o h
 unfold Qbl at h
 refine CallOK.ofB mixed tbOk Qhw Tryd.func39 rfl (by kernel_rfl) (Nat.le_of_ble_eq_true rfl) rfl rfl rfl ?_
 refine Qau _ _ h (fun x1 hy=>((Qdl h0_0 h0_1 x1 hy).fr [0] [0] rfl rfl rfl)) (fun x1 hy h=>?_)
 refine Qrj (a:=h0_1) (b:=[p1]) (c:=(cNum .u8)) h (.refl _) (fun _=>rfl) rfl (fun x2 hi h=>?_)
 refine Exists.intro _ (And.intro (Le.refl _ _ _) ?_)
 exact Qb8 (t:=Qdz) (ss:=fun o=>⟨[[.sp Tryd.prog 44 o.2.1 0 0,.own 0 5 1 (o.2.2.map (cNum .u8))]],[(o.2.2.map (cNum .u8)).length]⟩) h ⟨[0],rfl,.refl _,.refl _,rfl⟩
noncomputable def Qba (p1:(List UInt8)) (h0_0:Bool) (h0_1:(List Int)):Option (Int×Unit×Bool×(List Int)) :=
 Qa6 h0_0 h0_1>>=fun x1 =>
 appL 1 h0_1 (s2b p1)>>=fun x2 =>
 some ((p1.length:Int),(),x1,x2)
theorem Qgt:∀ (p1:(List UInt8)) (h0_0:Bool) (h0_1:(List Int)) (o:Int×Unit×Bool×(List Int)),Qba p1 h0_0 h0_1=some o→CallOK Tryd.prog 26 [.ptr 0 0,.p (sV p1)] ⟨[[.sp Tryd.prog 44 h0_0 0 0,.own 0 5 1 (h0_1.map (cNum .u8))]],[(h0_1.map (cNum .u8)).length]⟩ (Qdd o) ⟨[[.sp Tryd.prog 44 o.2.2.1 0 0,.own 0 5 1 (o.2.2.2.map (cNum .u8))]],[(o.2.2.2.map (cNum .u8)).length]⟩:=by
 intro p1 h0_0 h0_1 o h
 unfold Qba at h
 refine CallOK.ofB mixed tbOk Qgr Tryd.func26 rfl (by kernel_rfl) (Nat.le_of_ble_eq_true rfl) rfl rfl rfl ?_
 refine Qau _ _ h (fun x1 hy=>((Qdl h0_0 h0_1 x1 hy).fr [0] [0] rfl rfl rfl)) (fun x1 hy h=>?_)
 refine Q5p (a:=h0_1) (b:=p1) h rfl (fun x2 hi h=>?_)
 refine vrfl ?_
 refine Exists.intro _ (And.intro (Le.refl _ _ _) ?_)
 exact Qb8 (t:=Qdd) (ss:=fun o=>⟨[[.sp Tryd.prog 44 o.2.2.1 0 0,.own 0 5 1 (o.2.2.2.map (cNum .u8))]],[(o.2.2.2.map (cNum .u8)).length]⟩) h ⟨[0],rfl,.refl _,.refl _,rfl⟩
noncomputable def Qua (p0:Int):Option (Bool) :=
 ( if(decide (p0 ≥ 0)) then
   if(decide (p0≤1114111)) then
    if(decide (p0<55296)) then
     some true
    else
     some (decide (p0>57343))
   else
    some false
  else
   some false:Option (Bool))>>=fun o1 =>
 some o1
theorem Q4b:∀ (p0:Int) (o:Bool),Qua p0=some o→PCall Tryd.prog 89 [nV .i32 p0] (Qv6 o):=by
 intro p0 o h
 unfold Qua at h
 refine PCall.ofB mixed tbOk Q38 Tryd.func89 rfl (by kernel_rfl) (Nat.le_of_ble_eq_true rfl) ?_
 refine Qag h (fun o1 ho hk=>?_)
 refine Exists.intro (JP1 _ _ o1 .normal (Qz8 )) (And.intro ?_ (join1 ?_))
 ·have h:=ho
  refine Qaf h (fun hb h=>?_) (fun hb h=>?_)
  ·refine Qaf h (fun hb h=>?_) (fun hb h=>?_)
   ·refine Qaf h (fun hb h=>?_) (fun hb h=>?_)
    ·refine JP1.a h ?_
     exact Le.tz 0 0 rfl rfl rfl
    ·refine JP1.a h ?_
     exact Le.tz 0 0 rfl rfl rfl
   ·refine JP1.a h ?_
    exact Le.tz 0 0 rfl rfl rfl
  ·refine bF ?_
   refine JP1.a h ?_
   exact Le.tz 0 0 rfl rfl rfl
 ·have h:=hk
  refine Qal (t:=Qv6) h ?_
  exact .refl _
noncomputable def Qer (p0:(List UInt8)) (p2:Int) (v1:Int) (v14:Int):Option (Int⊕Unit) :=
 if(decide (v14<p2)) then
  idx p0 v14>>=fun x4 =>
  if((bits .and .u8 (x4.toNat:Int) 192) != 128) then
   some (.inr ())
  else
   idx p0 v14>>=fun x5 =>
   Qer p0 p2 (bits .or .i32 (IntKind.i32.wrap (v1*2 ^ (min (6:Int).toNat (IntKind.i32.bits)))) (IntKind.i32.wrap (bits .and .u8 (x5.toNat:Int) 63))) (wr (v14+1))
 else
  some (.inl v1)
 partial_fixpoint
theorem Qse:∀ (p0:(List UInt8)) (p2:Int),(∀ (v1:Int) (v14:Int) (o1:Int⊕Unit),Qer p0 p2 v1 v14=some o1→TL (0,0) Tryd.prog 32 Qou (JP2 (0,0) 32 o1 (.exit 0) (Qj4 p0 p2) .ret (Qj5 p0 p2)) (Qhh p0 p2 v1 v14)):=by
 intro p0 p2
 refine Qer.partial_correctness p0 p2 _ ?_
 intro Qer' iQer v1 v14 o1 h
 refine TL.round (Qak mixed tbOk (lv:=Qr5) _ _ _ ?_)
 refine Qaf h (fun hb h=>?_) (fun hb h=>?_)
 ·refine Qc7 h (fun x4 hi h=>?_)
  refine Qaf h (fun hb h=>?_) (fun hb h=>?_)
  ·exact JP2.b h (Le.tz 0 0 rfl rfl rfl)
  ·refine And.intro (by decide) ?_
   refine Qc7 h (fun x5 hi h=>?_)
   refine vrfl ?_
   refine TL.le (τ := Qhh p0 p2 (bits .or .i32 (IntKind.i32.wrap (v1*2 ^ (min (6:Int).toNat (IntKind.i32.bits)))) (IntKind.i32.wrap (bits .and .u8 (x5.toNat:Int) 63))) (wr (v14+1))) ?_ ((iQer (bits .or .i32 (IntKind.i32.wrap (v1*2 ^ (min (6:Int).toNat (IntKind.i32.bits)))) (IntKind.i32.wrap (bits .and .u8 (x5.toNat:Int) 63))) (wr (v14+1)) _ h))
   exact Le.tz 0 0 rfl rfl rfl
 ·exact JP2.a h (Le.tz 0 0 rfl rfl rfl)
theorem Qtk:∀ (p0:(List UInt8)) (p2:Int) (v1:Int) (v14:Int) (o1:Int⊕Unit),Qer p0 p2 v1 v14=some o1→TL (0,0) Tryd.prog 32 Qou (JP2 (0,0) 32 o1 (.exit 0) (Qj4 p0 p2) .ret (Qj5 p0 p2)) (Qhh p0 p2 v1 v14):=fun p0 p2 v1 v14=>(Qse p0 p2) v1 v14
noncomputable def Qna (p0:(List UInt8)) (p1:Int) (p2:Int):Option (Int×Bool) :=
 if(decide ((p0.length:Int)<p2)) then
  some (0,false)
 else
  (Qer p0 p2 p1 0)>>=fun o1 =>
  match o1 with
  | .inl y2 =>
   some (y2,true)
  | .inr y3 =>
   some (0,false)
theorem Q0e:∀ (p0:(List UInt8)) (p1:Int) (p2:Int) (o:Int×Bool),Qna p0 p1 p2=some o→PCall Tryd.prog 147 [sV p0,nV .i32 p1,iV p2] (Qkd o):=by
 intro p0 p1 p2 o h
 unfold Qna at h
 refine PCall.ofB mixed tbOk Qr5 Tryd.func147 rfl (by kernel_rfl) (Nat.le_of_ble_eq_true rfl) ?_
 refine vrfl ?_
 refine Qaf h (fun hb h=>?_) (fun hb h=>?_)
 ·refine Qal (t:=Qkd) h ?_
  exact .refl _
 ·refine Qag h (fun o1 ho hk=>?_)
  refine Exists.intro (JP2 _ _ o1 (.exit 0) (Qj4 p0 p2) .ret (Qj5 p0 p2)) (And.intro (T_le (τ := Qhh p0 p2 p1 0) ?_ (TL.loop (Qtk p0 p2 p1 0 o1 ho))) (join2 (fun y2 hy=>?_) (fun y3 hy=>?_)))
  ·exact Le.tz 0 0 rfl rfl rfl
  ·have h:=(by rw[hy] at hk; exact hk)
   refine Qal (t:=Qkd) h ?_
   exact .refl _
  ·have h:=(by rw[hy] at hk; exact hk)
   refine Qal (t:=Qkd) h ?_
   exact .refl _
noncomputable def Qoz (p0:(List UInt8)) (p1:Int):Option (Int×Int) :=
 ( if(decide (p1<0)) then
   some true
  else
   some (decide (p1 ≥ (p0.length:Int))):Option (Bool))>>=fun o1 =>
 if o1 then
  some (0,0)
 else
  idx p0 p1>>=fun x2 =>
  ( if(decide ((x2.toNat:Int)<128)) then
    some (.inr (IntKind.i32.wrap (x2.toNat:Int)))
   else
    ( if(decide ((x2.toNat:Int) ≥ 192)) then
      some (decide ((x2.toNat:Int)<224))
     else
      some false:Option (Bool))>>=fun o6 =>
    if o6 then
     some (.inl ((IntKind.i32.wrap (bits .and .u8 (x2.toNat:Int) 31)),128,1))
    else
     ( if(decide ((x2.toNat:Int) ≥ 224)) then
       some (decide ((x2.toNat:Int)<240))
      else
       some false:Option (Bool))>>=fun o7 =>
     if o7 then
      some (.inl ((IntKind.i32.wrap (bits .and .u8 (x2.toNat:Int) 15)),2048,2))
     else
      ( if(decide ((x2.toNat:Int) ≥ 240)) then
        some (decide ((x2.toNat:Int)<248))
       else
        some false:Option (Bool))>>=fun o8 =>
      if o8 then
       some (.inl ((IntKind.i32.wrap (bits .and .u8 (x2.toNat:Int) 7)),65536,3))
      else
       some (.inr 65533):Option ((Int×Int×Int)⊕Int))>>=fun o3 =>
  match o3 with
  | .inl y4 =>
   cutL p0 (wr (p1+1)) (p0.length:Int)>>=fun x9 =>
   Qna x9 y4.1 y4.2.2>>=fun x10 =>
   ( if(!x10.2) then
     some true
    else
     if(decide (x10.1<y4.2.1)) then
      some true
     else
      Qua x10.1>>=fun x12 =>
      some (!x12):Option (Bool))>>=fun o11 =>
   if o11 then
    some (65533,1)
   else
    some (x10.1,(wr (y4.2.2+1)))
  | .inr y5 =>
   some (y5,1)
theorem Q0f:∀ (p0:(List UInt8)) (p1:Int) (o:Int×Int),Qoz p0 p1=some o→PCall Tryd.prog 118 [sV p0,iV p1] (Qin o):=by
 intro p0 p1 o h
 unfold Qoz at h
 refine PCall.ofB mixed tbOk Qz7 Tryd.func118 rfl (by kernel_rfl) (Nat.le_of_ble_eq_true rfl) ?_
 refine Qag h (fun o1 ho hk=>?_)
 refine Exists.intro (JP1 _ _ o1 .normal (Qvz p0 p1)) (And.intro ?_ (join1 ?_))
 ·have h:=ho
  refine Qaf h (fun hb h=>?_) (fun hb h=>?_)
  ·refine JP1.a h ?_
   exact Le.tz 0 0 rfl rfl rfl
  ·refine vrfl ?_
   refine JP1.a h ?_
   exact Le.tz 0 0 rfl rfl rfl
 ·have h:=hk
  refine Qaf h (fun hb h=>?_) (fun hb h=>?_)
  ·refine Qal (t:=Qin) h ?_
   exact .refl _
  ·refine Qc7 h (fun x2 hi h=>?_)
   refine Qag h (fun o3 ho hk=>?_)
   refine Exists.intro (JP2 _ _ o3 .normal (Qv0 p0 p1) .ret (Qv1 p0 p1)) (And.intro ?_ (join2 (fun y4 hy=>?_) (fun y5 hy=>?_)))
   ·have h:=ho
    refine Qaf h (fun hb h=>?_) (fun hb h=>?_)
    ·refine vrfl ?_
     refine JP2.b h ?_
     exact Le.tz 0 0 rfl rfl rfl
    ·refine Qag h (fun o6 ho hk=>?_)
     refine Exists.intro (JP1 _ _ o6 .normal (Qv2 p0 p1 x2)) (And.intro ?_ (join1 ?_))
     ·have h:=ho
      refine Qaf h (fun hb h=>?_) (fun hb h=>?_)
      ·refine JP1.a h ?_
       exact Le.tz 0 0 rfl rfl rfl
      ·refine JP1.a h ?_
       exact Le.tz 0 0 rfl rfl rfl
     ·have h:=hk
      refine Qaf h (fun hb h=>?_) (fun hb h=>?_)
      ·refine vrfl ?_
       refine JP2.a h ?_
       exact Le.tz 0 0 rfl rfl rfl
      ·refine Qag h (fun o7 ho hk=>?_)
       refine Exists.intro (JP1 _ _ o7 .normal (Qv3 p0 p1 x2)) (And.intro ?_ (join1 ?_))
       ·have h:=ho
        refine Qaf h (fun hb h=>?_) (fun hb h=>?_)
        ·refine JP1.a h ?_
         exact Le.tz 0 0 rfl rfl rfl
        ·refine JP1.a h ?_
         exact Le.tz 0 0 rfl rfl rfl
       ·have h:=hk
        refine Qaf h (fun hb h=>?_) (fun hb h=>?_)
        ·refine vrfl ?_
         refine JP2.a h ?_
         exact Le.tz 0 0 rfl rfl rfl
        ·refine Qag h (fun o8 ho hk=>?_)
         refine Exists.intro (JP1 _ _ o8 .normal (Qv4 p0 p1 x2)) (And.intro ?_ (join1 ?_))
         ·have h:=ho
          refine Qaf h (fun hb h=>?_) (fun hb h=>?_)
          ·refine JP1.a h ?_
           exact Le.tz 0 0 rfl rfl rfl
          ·refine JP1.a h ?_
           exact Le.tz 0 0 rfl rfl rfl
         ·have h:=hk
          refine Qaf h (fun hb h=>?_) (fun hb h=>?_)
          ·refine vrfl ?_
           refine JP2.a h ?_
           exact Le.tz 0 0 rfl rfl rfl
          ·refine JP2.b h ?_
           exact Le.tz 0 0 rfl rfl rfl
   ·have h:=(by rw[hy] at hk; exact hk)
    refine Qfg (some (wr (p1+1))) none h (fun x9 hi h=>?_)
    refine Qaj [sV x9,nV .i32 y4.1,iV y4.2.2] Qkd h (fun x10 hy=>(Q0e x9 y4.1 y4.2.2 x10 hy)) (fun x10 hy h=>?_)
    refine Qag h (fun o11 ho hk=>?_)
    refine Exists.intro (JP1 _ _ o11 .normal (Qv5 y4 x10)) (And.intro ?_ (join1 ?_))
    ·have h:=ho
     refine Qaf h (fun hb h=>?_) (fun hb h=>?_)
     ·refine bT ?_
      refine JP1.a h ?_
      exact Le.tz 0 0 rfl rfl rfl
     ·refine Qaf h (fun hb h=>?_) (fun hb h=>?_)
      ·refine JP1.a h ?_
       exact Le.tz 0 0 rfl rfl rfl
      ·refine Qaj [nV .i32 x10.1] Qv6 h (fun x12 hy=>(Q4b x10.1 x12 hy)) (fun x12 hy h=>?_)
       refine JP1.a h ?_
       exact Le.tz 0 0 rfl rfl rfl
    ·have h:=hk
     refine Qaf h (fun hb h=>?_) (fun hb h=>?_)
     ·refine Qal (t:=Qin) h ?_
      exact .refl _
     ·refine Qal (t:=Qin) h ?_
      exact .refl _
   ·have h:=(by rw[hy] at hk; exact hk)
    refine Qal (t:=Qin) h ?_
    exact .refl _
noncomputable def Qa5 (h0_0:(List UInt8)) (h0_1:Int) (h0_2:(List Qab)) (v4:Int) (h1_0:Bool) (h1_1:(List Int)):Option ((Int×Bool×(List Int))⊕(Bool×(List Int))) :=
 ( if(decide (v4<(h0_0.length:Int))) then
   idx h0_0 v4>>=fun x5 =>
   some ((x5.toNat:Int) != 34)
  else
   some false:Option (Bool))>>=fun o4 =>
 if o4 then
  Qoz h0_0 v4>>=fun x6 =>
  if(x6.1==92) then
   if((wr (v4+1))==(h0_0.length:Int)) then
    some (.inr (h1_0,h1_1))
   else
    idx h0_0 (wr (v4+1))>>=fun x7 =>
    Qi7 (x7.toNat:Int)>>=fun x8 =>
    if(!x8.2) then
     some (.inr (h1_0,h1_1))
    else
     Qbl x8.1 h1_0 h1_1>>=fun x9 =>
     Qa5 h0_0 h0_1 h0_2 (wr (v4+2)) x9.2.1 x9.2.2
  else
   ( if(x6.1==10) then
     some true
    else
     if(x6.1==13) then
      some true
     else
      if(x6.1==65533) then
       some (x6.2==1)
      else
       some false:Option (Bool))>>=fun o10 =>
   if o10 then
    some (.inr (h1_0,h1_1))
   else
    cutL h0_0 v4 (wr (v4+x6.2))>>=fun x11 =>
    Qba x11 h1_0 h1_1>>=fun x12 =>
    Qa5 h0_0 h0_1 h0_2 (wr (v4+x6.2)) x12.2.2.1 x12.2.2.2
 else
  some (.inl (v4,h1_0,h1_1))
 partial_fixpoint
theorem Qk9:∀ (h0_0:(List UInt8)) (h0_1:Int) (h0_2:(List Qab)),(∀ (v4:Int) (h1_0:Bool) (h1_1:(List Int)) (o1:(Int×Bool×(List Int))⊕(Bool×(List Int))),Qa5 h0_0 h0_1 h0_2 v4 h1_0 h1_1=some o1→TL (1,1) Tryd.prog 112 Qhu (JP2 (1,1) 112 o1 (.exit 0) (Qea h0_0 h0_1 h0_2) .ret (Qeb h0_0 h0_1 h0_2)) (Qb7 h0_0 h0_1 h0_2 v4 h1_0 h1_1)):=by
 intro h0_0 h0_1 h0_2
 refine Qa5.partial_correctness h0_0 h0_1 h0_2 _ ?_
 intro Qa5' iQa5 v4 h1_0 h1_1 o1 h
 refine TL.round (Qak mixed tbOk (lv:=Qi1) _ _ _ ?_)
 refine Qag h (fun o4 ho hk=>?_)
 refine Exists.intro (JP1 _ _ o4 .normal (Qma h0_0 h0_1 h0_2 v4 h1_0 h1_1)) (And.intro ?_ (join1 ?_))
 ·have h:=ho
  refine vrfl ?_
  refine Qaf h (fun hb h=>?_) (fun hb h=>?_)
  ·refine Qc7 h (fun x5 hi h=>?_)
   refine JP1.a h ?_
   exact Le.tz 2 2 rfl rfl rfl
  ·refine JP1.a h ?_
   exact Le.tz 2 2 rfl rfl rfl
 ·have h:=hk
  refine Qaf h (fun hb h=>?_) (fun hb h=>?_)
  ·refine Qaj [sV h0_0,iV v4] Qin h (fun x6 hy=>(Q0f h0_0 v4 x6 hy)) (fun x6 hy h=>?_)
   refine Qaf h (fun hb h=>?_) (fun hb h=>?_)
   ·refine vrfl ?_
    refine Qaf h (fun hb h=>?_) (fun hb h=>?_)
    ·exact JP2.b h (Le.tz 2 2 rfl rfl rfl)
    ·refine Qc7 h (fun x7 hi h=>?_)
     refine Qaj [nV .u8 (x7.toNat:Int)] Qf8 h (fun x8 hy=>(Qtj (x7.toNat:Int) x8 hy)) (fun x8 hy h=>?_)
     refine Qaf h (fun hb h=>?_) (fun hb h=>?_)
     ·exact JP2.b h (Le.tz 2 2 rfl rfl rfl)
     ·refine Qau _ _ h (fun x9 hy=>((Qhy x8.1 h1_0 h1_1 x9 hy).fr [1] [1] rfl rfl rfl)) (fun x9 hy h=>?_)
      refine TL.le (τ := Qb7 h0_0 h0_1 h0_2 (wr (v4+2)) x9.2.1 x9.2.2) ?_ ((iQa5 (wr (v4+2)) x9.2.1 x9.2.2 _ h))
      exact Le.tz 2 2 rfl rfl rfl
   ·refine Qag h (fun o10 ho hk=>?_)
    refine Exists.intro (JP1 _ _ o10 .normal (Qmb h0_0 h0_1 h0_2 v4 h1_0 h1_1 x6)) (And.intro ?_ (join1 ?_))
    ·have h:=ho
     refine Qaf h (fun hb h=>?_) (fun hb h=>?_)
     ·refine bT ?_
      refine JP1.a h ?_
      exact Le.tz 2 2 rfl rfl rfl
     ·refine Qaf h (fun hb h=>?_) (fun hb h=>?_)
      ·refine JP1.a h ?_
       exact Le.tz 2 2 rfl rfl rfl
      ·refine Qaf h (fun hb h=>?_) (fun hb h=>?_)
       ·refine JP1.a h ?_
        exact Le.tz 2 2 rfl rfl rfl
       ·refine JP1.a h ?_
        exact Le.tz 2 2 rfl rfl rfl
    ·have h:=hk
     refine Qaf h (fun hb h=>?_) (fun hb h=>?_)
     ·exact JP2.b h (Le.tz 2 2 rfl rfl rfl)
     ·refine Qfg (some v4) (some (wr (v4+x6.2))) h (fun x11 hi h=>?_)
      refine Qau _ _ h (fun x12 hy=>((Qgt x11 h1_0 h1_1 x12 hy).fr [1] [1] rfl rfl rfl)) (fun x12 hy h=>?_)
      refine TL.le (τ := Qb7 h0_0 h0_1 h0_2 (wr (v4+x6.2)) x12.2.2.1 x12.2.2.2) ?_ ((iQa5 (wr (v4+x6.2)) x12.2.2.1 x12.2.2.2 _ h))
      exact Le.tz 2 2 rfl rfl rfl
  ·exact JP2.a h (Le.tz 2 2 rfl rfl rfl)
theorem Qlp:∀ (h0_0:(List UInt8)) (h0_1:Int) (h0_2:(List Qab)) (v4:Int) (h1_0:Bool) (h1_1:(List Int)) (o1:(Int×Bool×(List Int))⊕(Bool×(List Int))),Qa5 h0_0 h0_1 h0_2 v4 h1_0 h1_1=some o1→TL (1,1) Tryd.prog 112 Qhu (JP2 (1,1) 112 o1 (.exit 0) (Qea h0_0 h0_1 h0_2) .ret (Qeb h0_0 h0_1 h0_2)) (Qb7 h0_0 h0_1 h0_2 v4 h1_0 h1_1):=fun h0_0 h0_1 h0_2 v4 h1_0 h1_1=>(Qk9 h0_0 h0_1 h0_2) v4 h1_0 h1_1
noncomputable def Qci (h0_0:Bool) (h0_1:(List Int)):Option ((List UInt8)) :=
 b2s h0_1
theorem Qi8:∀ (h0_0:Bool) (h0_1:(List Int)) (o:(List UInt8)),Qci h0_0 h0_1=some o→CallOK Tryd.prog 29 [.ptr 0 0] ⟨[[.sp Tryd.prog 44 h0_0 0 0,.own 0 5 1 (h0_1.map (cNum .u8))]],[(h0_1.map (cNum .u8)).length]⟩ (Qjd o) ⟨[[.sp Tryd.prog 44 h0_0 0 0,.p (.sl false (h0_1.map (cNum .u8)))]],[((h0_1.map (cNum .u8)).length+1)]⟩:=by
 intro h0_0 h0_1 o h
 unfold Qci at h
 exact Qqf [[.sp Tryd.prog 44 h0_0 0 0,.own 0 5 1 (h0_1.map (cNum .u8))]] [(h0_1.map (cNum .u8)).length] 0 0 [.sp Tryd.prog 44 h0_0 0 0,.own 0 5 1 (h0_1.map (cNum .u8))] (h0_1.map (cNum .u8)) rfl rfl rfl (Q3w h)
noncomputable def Qd2 (h0_0:(List UInt8)) (h0_1:Int) (h0_2:(List Qab)):Option (Bool×Int×(List Qab)) :=
 (Qa5 h0_0 h0_1 h0_2 (wr (h0_1+1)) false [])>>=fun o1 =>
 match o1 with
 | .inl y2 =>
  if(decide (y2.1 ≥ (h0_0.length:Int))) then
   some (false,h0_1,h0_2)
  else
   Qci y2.2.1 y2.2.2>>=fun x13 =>
   Qar 5 x13 0 (wr ((wr (y2.1+1))-h0_1)) h0_0 h0_1 h0_2>>=fun x14 =>
   some (true,x14.1,x14.2)
 | .inr y3 =>
  some (false,h0_1,h0_2)
theorem Qn9:∀ (h0_0:(List UInt8)) (h0_1:Int) (h0_2:(List Qab)) (o:Bool×Int×(List Qab)),Qd2 h0_0 h0_1 h0_2=some o→CallOK Tryd.prog 108 [.ptr 0 0] ⟨[[.p (sV h0_0),.p (iV h0_1),.own 0 106 5 (h0_2.map Qae)]],[(h0_2.map Qae).length]⟩ (Qeg o) ⟨[[.p (sV h0_0),.p (iV o.2.1),.own 0 106 5 (o.2.2.map Qae)]],[(o.2.2.map Qae).length]⟩:=by
 intro h0_0 h0_1 h0_2 o h
 unfold Qd2 at h
 refine CallOK.ofB mixed tbOk Qi1 Tryd.func108 rfl (by kernel_rfl) (Nat.le_of_ble_eq_true rfl) rfl rfl rfl ?_
 refine Qag h (fun o1 ho hk=>?_)
 refine Exists.intro (JP2 _ _ o1 (.exit 0) (Qea h0_0 h0_1 h0_2) .ret (Qeb h0_0 h0_1 h0_2)) (And.intro (T_le (τ := Qb7 h0_0 h0_1 h0_2 (wr (h0_1+1)) false []) ?_ (TL.loop (Qlp h0_0 h0_1 h0_2 (wr (h0_1+1)) false [] o1 ho))) (join2 (fun y2 hy=>?_) (fun y3 hy=>?_)))
 ·exact(Le.ownH 1 1 5 1 rfl rfl sizeNil).trans (Le.tz 2 2 rfl rfl rfl)
 ·have h:=(by rw[hy] at hk; exact hk)
  refine vrfl ?_
  refine Qaf h (fun hb h=>?_) (fun hb h=>?_)
  ·refine Exists.intro _ (And.intro (Le.refl _ _ _) ?_)
   exact Qb8 (t:=Qeg) (ss:=fun o=>⟨[[.p (sV h0_0),.p (iV o.2.1),.own 0 106 5 (o.2.2.map Qae)]],[(o.2.2.map Qae).length]⟩) h ⟨[0],rfl,.refl _,.refl _,rfl⟩
  ·refine And.intro (by decide +kernel) (And.intro rfl ?_)
   refine Q5q _ _ h (fun x13 hy=>((Qi8 y2.2.1 y2.2.2 x13 hy).ff [1] [1] rfl rfl rfl rfl (Nat.le_of_ble_eq_true rfl))) (fun x13 hy h=>?_)
   refine Q1e _ _ h (fun x14 hy=>((Qbn 5 x13 0 (wr ((wr (y2.1+1))-h0_1)) h0_0 h0_1 h0_2 x14 hy).fg [0] [0] rfl rfl rfl (Nat.le_of_ble_eq_true rfl))) (fun x14 hy h=>?_)
   refine Exists.intro _ (And.intro (Le.refl _ _ _) ?_)
   exact Qb8 (t:=Qeg) (ss:=fun o=>⟨[[.p (sV h0_0),.p (iV o.2.1),.own 0 106 5 (o.2.2.map Qae)]],[(o.2.2.map Qae).length]⟩) h ⟨[0],rfl,.refl _,.refl _,rfl⟩
 ·have h:=(by rw[hy] at hk; exact hk)
  refine Exists.intro _ (And.intro (Le.refl _ _ _) ?_)
  exact Qb8 (t:=Qeg) (ss:=fun o=>⟨[[.p (sV h0_0),.p (iV o.2.1),.own 0 106 5 (o.2.2.map Qae)]],[(o.2.2.map Qae).length]⟩) h ⟨[0],rfl,.refl _,.refl _,rfl⟩
noncomputable def Qes (p0:(List UInt8)) (v6:Int):Option (Unit⊕Unit) :=
 if(decide (v6<(p0.length:Int))) then
  idx p0 v6>>=fun x4 =>
  Qg7 (x4.toNat:Int)>>=fun x5 =>
  if(!x5) then
   some (.inr ())
  else
   Qes p0 (wr (v6+1))
 else
  some (.inl ())
 partial_fixpoint
theorem Qsf:∀ (p0:(List UInt8)),(∀ (v6:Int) (o1:Unit⊕Unit),Qes p0 v6=some o1→TL (0,0) Tryd.prog 27 Qot (JP2 (0,0) 27 o1 (.exit 0) (Qj2 p0) .ret (Qj3 p0)) (Qhf p0 v6)):=by
 intro p0
 refine Qes.partial_correctness p0 _ ?_
 intro Qes' iQes v6 o1 h
 refine TL.round (Qak mixed tbOk (lv:=Qr0) _ _ _ ?_)
 refine Qaf h (fun hb h=>?_) (fun hb h=>?_)
 ·refine Qc7 h (fun x4 hi h=>?_)
  refine Qaj [nV .u8 (x4.toNat:Int)] Qhr h (fun x5 hy=>(Qk7 (x4.toNat:Int) x5 hy)) (fun x5 hy h=>?_)
  refine Qaf h (fun hb h=>?_) (fun hb h=>?_)
  ·exact JP2.b h (Le.tz 0 0 rfl rfl rfl)
  ·refine TL.le (τ := Qhf p0 (wr (v6+1))) ?_ ((iQes (wr (v6+1)) _ h))
   exact Le.tz 0 0 rfl rfl rfl
 ·exact JP2.a h (Le.tz 0 0 rfl rfl rfl)
theorem Qtl:∀ (p0:(List UInt8)) (v6:Int) (o1:Unit⊕Unit),Qes p0 v6=some o1→TL (0,0) Tryd.prog 27 Qot (JP2 (0,0) 27 o1 (.exit 0) (Qj2 p0) .ret (Qj3 p0)) (Qhf p0 v6):=fun p0 v6=>(Qsf p0) v6
noncomputable def Qjn (p0:(List UInt8)):Option (Bool) :=
 (Qes p0 0)>>=fun o1 =>
 match o1 with
 | .inl y2 =>
  ( if(!(p0==[])) then
    if(decide ((p0.length:Int)≤32)) then
     idx p0 0>>=fun x7 =>
     some (decide ((x7.toNat:Int) ≥ 97))
    else
     some false
   else
    some false:Option (Bool))>>=fun o6 =>
  some o6
 | .inr y3 =>
  some false
theorem Qoa:∀ (p0:(List UInt8)) (o:Bool),Qjn p0=some o→PCall Tryd.prog 144 [sV p0] (Qim o):=by
 intro p0 o h
 unfold Qjn at h
 refine PCall.ofB mixed tbOk Qr0 Tryd.func144 rfl (by kernel_rfl) (Nat.le_of_ble_eq_true rfl) ?_
 refine vrfl ?_
 refine Qag h (fun o1 ho hk=>?_)
 refine Exists.intro (JP2 _ _ o1 (.exit 0) (Qj2 p0) .ret (Qj3 p0)) (And.intro (T_le (τ := Qhf p0 0) ?_ (TL.loop (Qtl p0 0 o1 ho))) (join2 (fun y2 hy=>?_) (fun y3 hy=>?_)))
 ·exact Le.tz 0 0 rfl rfl rfl
 ·have h:=(by rw[hy] at hk; exact hk)
  refine Qag h (fun o6 ho hk=>?_)
  refine Exists.intro (JP1 _ _ o6 .normal (Qvx )) (And.intro ?_ (join1 ?_))
  ·have h:=ho
   refine Qaf h (fun hb h=>?_) (fun hb h=>?_)
   ·refine vrfl ?_
    refine Qaf h (fun hb h=>?_) (fun hb h=>?_)
    ·refine Qc7 h (fun x7 hi h=>?_)
     refine JP1.a h ?_
     exact Le.tz 0 0 rfl rfl rfl
    ·refine JP1.a h ?_
     exact Le.tz 0 0 rfl rfl rfl
   ·refine bF ?_
    refine JP1.a h ?_
    exact Le.tz 0 0 rfl rfl rfl
  ·have h:=hk
   refine Qal (t:=Qim) h ?_
   exact .refl _
 ·have h:=(by rw[hy] at hk; exact hk)
  refine Qal (t:=Qim) h ?_
  exact .refl _
noncomputable def Qao (h0_0:(List UInt8)) (h0_1:Int) (h0_2:(List Qab)) (v7:Int):Option (Int) :=
 ( if(decide (v7<(h0_0.length:Int))) then
   idx h0_0 v7>>=fun x3 =>
   Qg7 (x3.toNat:Int)>>=fun x4 =>
   some x4
  else
   some false:Option (Bool))>>=fun o2 =>
 if o2 then
  Qao h0_0 h0_1 h0_2 (wr (v7+1))
 else
  some v7
 partial_fixpoint
theorem Qgo:∀ (h0_0:(List UInt8)) (h0_1:Int) (h0_2:(List Qab)),(∀ (v7:Int) (o1:Int),Qao h0_0 h0_1 h0_2 v7=some o1→TL (1,1) Tryd.prog 38 Qdc (JP1 (1,1) 38 o1 (.exit 0) (Qb4 h0_0 h0_1 h0_2)) (Qbi h0_0 h0_1 h0_2 v7)):=by
 intro h0_0 h0_1 h0_2
 refine Qao.partial_correctness h0_0 h0_1 h0_2 _ ?_
 intro Qao' iQao v7 o1 h
 refine TL.round (Qak mixed tbOk (lv:=Qdy) _ _ _ ?_)
 refine Qag h (fun o2 ho hk=>?_)
 refine Exists.intro (JP1 _ _ o2 .normal (Qg5 h0_0 h0_1 h0_2 v7)) (And.intro ?_ (join1 ?_))
 ·have h:=ho
  refine vrfl ?_
  refine Qaf h (fun hb h=>?_) (fun hb h=>?_)
  ·refine Qc7 h (fun x3 hi h=>?_)
   refine Qaj [nV .u8 (x3.toNat:Int)] Qhr h (fun x4 hy=>(Qk7 (x3.toNat:Int) x4 hy)) (fun x4 hy h=>?_)
   refine JP1.a h ?_
   exact Le.tz 1 1 rfl rfl rfl
  ·refine JP1.a h ?_
   exact Le.tz 1 1 rfl rfl rfl
 ·have h:=hk
  refine Qaf h (fun hb h=>?_) (fun hb h=>?_)
  ·refine TL.le (τ := Qbi h0_0 h0_1 h0_2 (wr (v7+1))) ?_ ((iQao (wr (v7+1)) _ h))
   exact Le.tz 1 1 rfl rfl rfl
  ·exact JP1.a h (Le.tz 1 1 rfl rfl rfl)
theorem Qgu:∀ (h0_0:(List UInt8)) (h0_1:Int) (h0_2:(List Qab)) (v7:Int) (o1:Int),Qao h0_0 h0_1 h0_2 v7=some o1→TL (1,1) Tryd.prog 38 Qdc (JP1 (1,1) 38 o1 (.exit 0) (Qb4 h0_0 h0_1 h0_2)) (Qbi h0_0 h0_1 h0_2 v7):=fun h0_0 h0_1 h0_2 v7=>(Qgo h0_0 h0_1 h0_2) v7
noncomputable def Qb6 (p1:Int) (h0_0:(List UInt8)) (h0_1:Int) (h0_2:(List Qab)):Option ((List UInt8)) :=
 (Qao h0_0 h0_1 h0_2 p1)>>=fun o1 =>
 cutL h0_0 h0_1 o1>>=fun x5 =>
 some x5
theorem Qia:∀ (p1:Int) (h0_0:(List UInt8)) (h0_1:Int) (h0_2:(List Qab)) (o:(List UInt8)),Qb6 p1 h0_0 h0_1 h0_2=some o→CallOK Tryd.prog 142 [.ptr 0 0,.p (iV p1),.fn (.func 111) [] []] ⟨[[.p (sV h0_0),.p (iV h0_1),.own 0 106 5 (h0_2.map Qae)]],[(h0_2.map Qae).length]⟩ (Qef o) ⟨[[.p (sV h0_0),.p (iV h0_1),.own 0 106 5 (h0_2.map Qae)]],[(h0_2.map Qae).length]⟩:=by
 intro p1 h0_0 h0_1 h0_2 o h
 unfold Qb6 at h
 refine CallOK.ofB mixed tbOk Qdy Tryd.func142 rfl (by kernel_rfl) (Nat.le_of_ble_eq_true rfl) rfl rfl rfl ?_
 refine Qag h (fun o1 ho hk=>?_)
 refine Exists.intro (JP1 _ _ o1 (.exit 0) (Qb4 h0_0 h0_1 h0_2)) (And.intro (T_le (τ := Qbi h0_0 h0_1 h0_2 p1) ?_ (TL.loop (Qgu h0_0 h0_1 h0_2 p1 o1 ho))) (join1 ?_))
 ·exact Le.tz 1 1 rfl rfl rfl
 have h:=hk
 refine And.intro (by decide +kernel) (And.intro rfl ?_)
 refine Qfg (some h0_1) (some o1) h (fun x5 hi h=>?_)
 refine Exists.intro _ (And.intro (Le.refl _ _ _) ?_)
 exact Qb8 (t:=Qef) (ss:=fun o=>⟨[[.p (sV h0_0),.p (iV h0_1),.own 0 106 5 (h0_2.map Qae)]],[(h0_2.map Qae).length]⟩) h ⟨[0],rfl,.refl _,.refl _,rfl⟩
noncomputable def Qd3 (h0_0:(List UInt8)) (h0_1:Int) (h0_2:(List Qab)):Option (Bool×Int×(List Qab)) :=
 Qb6 h0_1 h0_0 h0_1 h0_2>>=fun x1 =>
 Qjn x1>>=fun x2 =>
 if(!x2) then
  some (false,h0_1,h0_2)
 else
  Qar 4 x1 0 (x1.length:Int) h0_0 h0_1 h0_2>>=fun x3 =>
  some (true,x3.1,x3.2)
theorem Qob:∀ (h0_0:(List UInt8)) (h0_1:Int) (h0_2:(List Qab)) (o:Bool×Int×(List Qab)),Qd3 h0_0 h0_1 h0_2=some o→CallOK Tryd.prog 112 [.ptr 0 0] ⟨[[.p (sV h0_0),.p (iV h0_1),.own 0 106 5 (h0_2.map Qae)]],[(h0_2.map Qae).length]⟩ (Qga o) ⟨[[.p (sV h0_0),.p (iV o.2.1),.own 0 106 5 (o.2.2.map Qae)]],[(o.2.2.map Qae).length]⟩:=by
 intro h0_0 h0_1 h0_2 o h
 unfold Qd3 at h
 refine CallOK.ofB mixed tbOk Qn3 Tryd.func112 rfl (by kernel_rfl) (Nat.le_of_ble_eq_true rfl) rfl rfl rfl ?_
 refine Qau _ _ h (fun x1 hy=>((Qia h0_1 h0_0 h0_1 h0_2 x1 hy).fr [0] [0] rfl rfl rfl)) (fun x1 hy h=>?_)
 refine Qaj [sV x1] Qim h (fun x2 hy=>(Qoa x1 x2 hy)) (fun x2 hy h=>?_)
 refine Qaf h (fun hb h=>?_) (fun hb h=>?_)
 ·refine Exists.intro _ (And.intro (Le.refl _ _ _) ?_)
  exact Qb8 (t:=Qga) (ss:=fun o=>⟨[[.p (sV h0_0),.p (iV o.2.1),.own 0 106 5 (o.2.2.map Qae)]],[(o.2.2.map Qae).length]⟩) h ⟨[0],rfl,.refl _,.refl _,rfl⟩
 ·refine vrfl ?_
  refine Qau _ _ h (fun x3 hy=>((Qbn 4 x1 0 (x1.length:Int) h0_0 h0_1 h0_2 x3 hy).fr [0] [0] rfl rfl rfl)) (fun x3 hy h=>?_)
  refine Exists.intro _ (And.intro (Le.refl _ _ _) ?_)
  exact Qb8 (t:=Qga) (ss:=fun o=>⟨[[.p (sV h0_0),.p (iV o.2.1),.own 0 106 5 (o.2.2.map Qae)]],[(o.2.2.map Qae).length]⟩) h ⟨[0],rfl,.refl _,.refl _,rfl⟩
noncomputable def Qcn (h0_0:(List UInt8)) (h0_1:Int) (h0_2:(List Qab)):Option (Bool×Int×(List Qab)) :=
 idx h0_0 h0_1>>=fun x1 =>
 if((x1.toNat:Int)==34) then
  Qd2 h0_0 h0_1 h0_2>>=fun x2 =>
  some (x2.1,x2.2.1,x2.2.2)
 else
  ( if((x1.toNat:Int)==45) then
    some true
   else
    Qhx (x1.toNat:Int)>>=fun x4 =>
    some x4:Option (Bool))>>=fun o3 =>
  if o3 then
   Qc0 h0_0 h0_1 h0_2>>=fun x5 =>
   some (x5.1,x5.2.1,x5.2.2)
  else
   Qg7 (x1.toNat:Int)>>=fun x6 =>
   if x6 then
    Qd3 h0_0 h0_1 h0_2>>=fun x7 =>
    some (x7.1,x7.2.1,x7.2.2)
   else
    Qd1 h0_0 h0_1 h0_2>>=fun x8 =>
    some (x8.1,x8.2.1,x8.2.2)
theorem Qlq:∀ (h0_0:(List UInt8)) (h0_1:Int) (h0_2:(List Qab)) (o:Bool×Int×(List Qab)),Qcn h0_0 h0_1 h0_2=some o→CallOK Tryd.prog 79 [.ptr 0 0] ⟨[[.p (sV h0_0),.p (iV h0_1),.own 0 106 5 (h0_2.map Qae)]],[(h0_2.map Qae).length]⟩ (Qcf o) ⟨[[.p (sV h0_0),.p (iV o.2.1),.own 0 106 5 (o.2.2.map Qae)]],[(o.2.2.map Qae).length]⟩:=by
 intro h0_0 h0_1 h0_2 o h
 unfold Qcn at h
 refine CallOK.ofB mixed tbOk Qlg Tryd.func79 rfl (by kernel_rfl) (Nat.le_of_ble_eq_true rfl) rfl rfl rfl ?_
 refine And.intro (by decide +kernel) (And.intro rfl ?_)
 refine Qc7 h (fun x1 hi h=>?_)
 refine Qaf h (fun hb h=>?_) (fun hb h=>?_)
 ·refine Qau _ _ h (fun x2 hy=>((Qn9 h0_0 h0_1 h0_2 x2 hy).fr [0] [0] rfl rfl rfl)) (fun x2 hy h=>?_)
  refine Exists.intro _ (And.intro (Le.refl _ _ _) ?_)
  exact Qb8 (t:=Qcf) (ss:=fun o=>⟨[[.p (sV h0_0),.p (iV o.2.1),.own 0 106 5 (o.2.2.map Qae)]],[(o.2.2.map Qae).length]⟩) h ⟨[0],rfl,.refl _,.refl _,rfl⟩
 ·refine Qag h (fun o3 ho hk=>?_)
  refine Exists.intro (JP1 _ _ o3 .normal (Qka h0_0 h0_1 h0_2 x1)) (And.intro ?_ (join1 ?_))
  ·have h:=ho
   refine Qaf h (fun hb h=>?_) (fun hb h=>?_)
   ·refine JP1.a h ?_
    exact Le.tz 1 1 rfl rfl rfl
   ·refine Qaj [nV .u8 (x1.toNat:Int)] Qg4 h (fun x4 hy=>(Qjl (x1.toNat:Int) x4 hy)) (fun x4 hy h=>?_)
    refine JP1.a h ?_
    exact Le.tz 1 1 rfl rfl rfl
  ·have h:=hk
   refine Qaf h (fun hb h=>?_) (fun hb h=>?_)
   ·refine Qau _ _ h (fun x5 hy=>((Qmi h0_0 h0_1 h0_2 x5 hy).fr [0] [0] rfl rfl rfl)) (fun x5 hy h=>?_)
    refine Exists.intro _ (And.intro (Le.refl _ _ _) ?_)
    exact Qb8 (t:=Qcf) (ss:=fun o=>⟨[[.p (sV h0_0),.p (iV o.2.1),.own 0 106 5 (o.2.2.map Qae)]],[(o.2.2.map Qae).length]⟩) h ⟨[0],rfl,.refl _,.refl _,rfl⟩
   ·refine Qaj [nV .u8 (x1.toNat:Int)] Qhr h (fun x6 hy=>(Qk7 (x1.toNat:Int) x6 hy)) (fun x6 hy h=>?_)
    refine Qaf h (fun hb h=>?_) (fun hb h=>?_)
    ·refine Qau _ _ h (fun x7 hy=>((Qob h0_0 h0_1 h0_2 x7 hy).fr [0] [0] rfl rfl rfl)) (fun x7 hy h=>?_)
     refine Exists.intro _ (And.intro (Le.refl _ _ _) ?_)
     exact Qb8 (t:=Qcf) (ss:=fun o=>⟨[[.p (sV h0_0),.p (iV o.2.1),.own 0 106 5 (o.2.2.map Qae)]],[(o.2.2.map Qae).length]⟩) h ⟨[0],rfl,.refl _,.refl _,rfl⟩
    ·refine Qau _ _ h (fun x8 hy=>((Qn8 h0_0 h0_1 h0_2 x8 hy).fr [0] [0] rfl rfl rfl)) (fun x8 hy h=>?_)
     refine Exists.intro _ (And.intro (Le.refl _ _ _) ?_)
     exact Qb8 (t:=Qcf) (ss:=fun o=>⟨[[.p (sV h0_0),.p (iV o.2.1),.own 0 106 5 (o.2.2.map Qae)]],[(o.2.2.map Qae).length]⟩) h ⟨[0],rfl,.refl _,.refl _,rfl⟩
noncomputable def strings_HasPrefix (p0:(List UInt8)) (p1:(List UInt8)):Option (Bool) :=
 Qbq p0 p1>>=fun x1 =>
 some x1
theorem Qnm:∀ (p0:(List UInt8)) (p1:(List UInt8)) (o:Bool),strings_HasPrefix p0 p1=some o→PCall Tryd.prog 59 [sV p0,sV p1] (Qfp o):=by
 intro p0 p1 o h
 unfold strings_HasPrefix at h
 refine PCall.ofB mixed tbOk Qnl Tryd.func59 rfl (by kernel_rfl) (Nat.le_of_ble_eq_true rfl) ?_
 refine Qaj [sV p0,sV p1] Qb3 h (fun x1 hy=>(Qgm p0 p1 x1 hy)) (fun x1 hy h=>?_)
 refine Qal (t:=Qfp) h ?_
 exact .refl _
noncomputable def Qdm (p0:(List UInt8)) (p1:(List UInt8)) (p2:Int):Option (Bool) :=
 ( if(decide (p2 ≥ 0)) then
   if(decide (p2≤(p0.length:Int))) then
    cutL p0 p2 (p0.length:Int)>>=fun x2 =>
    strings_HasPrefix x2 p1>>=fun x3 =>
    some x3
   else
    some false
  else
   some false:Option (Bool))>>=fun o1 =>
 some o1
theorem Qmj:∀ (p0:(List UInt8)) (p1:(List UInt8)) (p2:Int) (o:Bool),Qdm p0 p1 p2=some o→PCall Tryd.prog 31 [sV p0,sV p1,iV p2] (Qhg o):=by
 intro p0 p1 p2 o h
 unfold Qdm at h
 refine PCall.ofB mixed tbOk Qr2 Tryd.func31 rfl (by kernel_rfl) (Nat.le_of_ble_eq_true rfl) ?_
 refine Qag h (fun o1 ho hk=>?_)
 refine Exists.intro (JP1 _ _ o1 .normal (Qpp )) (And.intro ?_ (join1 ?_))
 ·have h:=ho
  refine Qaf h (fun hb h=>?_) (fun hb h=>?_)
  ·refine vrfl ?_
   refine Qaf h (fun hb h=>?_) (fun hb h=>?_)
   ·refine Qfg (some p2) none h (fun x2 hi h=>?_)
    refine Qaj [sV x2,sV p1] Qfp h (fun x3 hy=>(Qnm x2 p1 x3 hy)) (fun x3 hy h=>?_)
    refine JP1.a h ?_
    exact Le.tz 0 0 rfl rfl rfl
   ·refine JP1.a h ?_
    exact Le.tz 0 0 rfl rfl rfl
  ·refine bF ?_
   refine JP1.a h ?_
   exact Le.tz 0 0 rfl rfl rfl
 ·have h:=hk
  refine Qal (t:=Qhg) h ?_
  exact .refl _
noncomputable def strings_Index (p0:(List UInt8)) (p1:(List UInt8)):Option (Int) :=
 Qb5 p0 p1>>=fun x1 =>
 some x1
theorem Qlf:∀ (p0:(List UInt8)) (p1:(List UInt8)) (o:Int),strings_Index p0 p1=some o→PCall Tryd.prog 76 [sV p0,sV p1] (Qgf o):=by
 intro p0 p1 o h
 unfold strings_Index at h
 refine PCall.ofB mixed tbOk Qqh Tryd.func76 rfl (by kernel_rfl) (Nat.le_of_ble_eq_true rfl) ?_
 refine Qaj [sV p0,sV p1] Qec h (fun x1 hy=>(Qh9 p0 p1 x1 hy)) (fun x1 hy h=>?_)
 refine Qal (t:=Qgf) h ?_
 exact .refl _
mutual
noncomputable def Qcg (p0:(List UInt8)) (w0:Int×(List Qab)):Option (((List Qab)×Int×Int)) :=
 cutL p0 w0.1 (p0.length:Int)>>=fun x2 =>
 strings_Index x2 [123,123]>>=fun x3 =>
 ( if(decide (x3<0)) then
   some (wr ((p0.length:Int)-w0.1))
  else
   some x3:Option (Int))>>=fun o4 =>
 ( if(decide (o4>0)) then
   cutL p0 w0.1 (wr (w0.1+o4))>>=fun x6 =>
   Qar 1 x6 0 o4 p0 w0.1 w0.2>>=fun x7 =>
   some (x7.1,x7.2)
  else
   some (w0.1,w0.2):Option ((Int×(List Qab))))>>=fun o5 =>
 if(o5.1==(p0.length:Int)) then
  some (o5.2,0,0)
 else
  Qar 2 [] 0 2 p0 o5.1 o5.2>>=fun x8 =>
  Qb1 p0 x8.1 x8.2>>=fun x9 =>
  ( Qdm p0 [35] x9>>=fun x13 =>
   if x13 then
    cutL p0 x9 (p0.length:Int)>>=fun x14 =>
    strings_Index x14 [125,125]>>=fun x15 =>
    if(decide (x15<0)) then
     some (.inr ())
    else
     some (.inl (wr (x9+x15)))
   else
    some (.inl x9):Option (Int⊕Unit))>>=fun o10 =>
  match o10 with
  | .inl y11 =>
   Qet p0 (y11,x8.2)
  | .inr y12 =>
   some ([],(p0.length:Int),7)
 partial_fixpoint
noncomputable def Qet (p0:(List UInt8)) (w1:Int×(List Qab)):Option (((List Qab)×Int×Int)) :=
 Qb1 p0 w1.1 w1.2>>=fun x16 =>
 Qdm p0 [125,125] x16>>=fun x17 =>
 if x17 then
  Qar 3 [] 0 2 p0 x16 w1.2>>=fun x18 =>
  Qcg p0 (x18.1,x18.2)
 else
  ( if(x16==(p0.length:Int)) then
    some (true,x16,w1.2)
   else
    Qcn p0 x16 w1.2>>=fun x20 =>
    some ((!x20.1),x20.2.1,x20.2.2):Option ((Bool×Int×(List Qab))))>>=fun o19 =>
  if o19.1 then
   some ([],o19.2.1,7)
  else
   Qet p0 (o19.2.1,o19.2.2)
 partial_fixpoint
end
theorem Qoc:∀ (p0:(List UInt8)),(∀ (w0:Int×(List Qab)) (o1:((List Qab)×Int×Int)),Qcg p0 w0=some o1→TG (0,0) Tryd.prog 112 Qdb (behind Qdb 0) (JP1 (0,0) 112 o1 .ret (Qfb p0)) (Qed p0 w0))∧(∀ (w1:Int×(List Qab)) (o1:((List Qab)×Int×Int)),Qet p0 w1=some o1→TG (0,0) Tryd.prog 112 Qdb (behind Qdb 1) (JP1 (0,0) 112 o1 .ret (Qfb p0)) (Qf7 p0 w1)):=by
 intro p0
 refine Qcg.mutual_partial_correctness p0 _ _ ?_ ?_
 ·intro Qet' iQet w0 o1 h
  refine TG.seqb mixed tbOk (lv:=Qa8) ?_
  refine Qfg (some w0.1) none h (fun x2 hi h=>?_)
  refine Qaj [sV x2,sV [123,123]] Qgf h (fun x3 hy=>(Qlf x2 [123,123] x3 hy)) (fun x3 hy h=>?_)
  refine TG.seqj mixed tbOk (lv:=Qa8) ?_
  refine Qag h (fun o4 ho hk=>?_)
  refine Exists.intro (JP1 _ _ o4 .normal (Qrv p0 w0)) (And.intro ?_ (join1 ?_))
  ·have h:=ho
   refine Qaf h (fun hb h=>?_) (fun hb h=>?_)
   ·refine vrfl ?_
    refine JP1.a h ?_
    exact Le.tz 1 1 rfl rfl rfl
   ·refine JP1.a h ?_
    exact Le.tz 1 1 rfl rfl rfl
  ·have h:=hk
   refine TG.seqj mixed tbOk (lv:=Qa8) ?_
   refine Qag h (fun o5 ho hk=>?_)
   refine Exists.intro (JP1 _ _ o5 .normal (Qrw p0)) (And.intro ?_ (join1 ?_))
   ·have h:=ho
    refine Qaf h (fun hb h=>?_) (fun hb h=>?_)
    ·refine And.intro (by decide +kernel) (And.intro rfl ?_)
     refine Qfg (some w0.1) (some (wr (w0.1+o4))) h (fun x6 hi h=>?_)
     refine Q1e _ _ h (fun x7 hy=>((Qbn 1 x6 0 o4 p0 w0.1 w0.2 x7 hy).fg [0] [0] rfl rfl rfl (Nat.le_of_ble_eq_true rfl))) (fun x7 hy h=>?_)
     refine JP1.a h ?_
     exact Le.tz 1 1 rfl rfl rfl
    ·refine JP1.a h ?_
     exact Le.tz 1 1 rfl rfl rfl
   ·have h:=hk
    refine TG.seqb mixed tbOk (lv:=Qa8) ?_
    refine vrfl ?_
    refine Qaf h (fun hb h=>?_) (fun hb h=>?_)
    ·refine JP1.a h ?_
     exact Le.tz 0 0 rfl rfl rfl
    ·refine TG.seqb mixed tbOk (lv:=Qa8) ?_
     refine Qau _ _ h (fun x8 hy=>((Qbn 2 [] 0 2 p0 o5.1 o5.2 x8 hy).fr [0] [0] rfl rfl rfl)) (fun x8 hy h=>?_)
     refine TG.seqb mixed tbOk (lv:=Qa8) ?_
     refine Qau _ _ h (fun x9 hy=>((Qgn p0 x8.1 x8.2 x9 hy).fr [0] [0] rfl rfl rfl)) (fun x9 hy h=>?_)
     refine TG.seqj mixed tbOk (lv:=Qa8) ?_
     refine Qag h (fun o10 ho hk=>?_)
     refine Exists.intro (JP2 _ _ o10 .normal (Qrx p0 x8 x9) .ret (Qry p0 x8 x9)) (And.intro ?_ (join2 (fun y11 hy=>?_) (fun y12 hy=>?_)))
     ·have h:=ho
      refine Qaj [sV p0,sV [35],iV x9] Qhg h (fun x13 hy=>(Qmj p0 [35] x9 x13 hy)) (fun x13 hy h=>?_)
      refine Qaf h (fun hb h=>?_) (fun hb h=>?_)
      ·refine Qfg (some x9) none h (fun x14 hi h=>?_)
       refine Qaj [sV x14,sV [125,125]] Qgf h (fun x15 hy=>(Qlf x14 [125,125] x15 hy)) (fun x15 hy h=>?_)
       refine Qaf h (fun hb h=>?_) (fun hb h=>?_)
       ·refine vrfl ?_
        refine JP2.b h ?_
        exact Le.tz 1 1 rfl rfl rfl
       ·refine JP2.a h ?_
        exact Le.tz 1 1 rfl rfl rfl
      ·refine JP2.a h ?_
       exact Le.tz 1 1 rfl rfl rfl
     ·have h:=(by rw[hy] at hk; exact hk)
      refine TG.label (TG.le (τ := Qf7 p0 (y11,x8.2)) ?_ ((iQet (y11,x8.2) _ h)))
      exact Le.tz 1 1 rfl rfl rfl
     ·have h:=(by rw[hy] at hk; exact hk)
      refine JP1.a h ?_
      exact Le.tow 0 0 rfl (.cons rfl (.p (.not)) (.cons rfl (.refl _) (.cons rfl (.refl _) (.nil)))) (.refl _) rfl
 ·intro Qcg' Qet' iQcg iQet w1 o1 h
  refine TG.seqb mixed tbOk (lv:=Qa8) ?_
  refine Qau _ _ h (fun x16 hy=>((Qgn p0 w1.1 w1.2 x16 hy).fr [0] [0] rfl rfl rfl)) (fun x16 hy h=>?_)
  refine TG.seqb mixed tbOk (lv:=Qa8) ?_
  refine Qaj [sV p0,sV [125,125],iV x16] Qhg h (fun x17 hy=>(Qmj p0 [125,125] x16 x17 hy)) (fun x17 hy h=>?_)
  refine Qaf h (fun hb h=>?_) (fun hb h=>?_)
  ·refine Qau _ _ h (fun x18 hy=>((Qbn 3 [] 0 2 p0 x16 w1.2 x18 hy).fr [0] [0] rfl rfl rfl)) (fun x18 hy h=>?_)
   refine Exists.intro _ (And.intro rfl (TG.skip (TG.le (τ := Qed p0 (x18.1,x18.2)) ?_ ((iQcg (x18.1,x18.2) _ h)))))
   exact Le.tz 1 1 rfl rfl rfl
  ·refine TG.seqb mixed tbOk (lv:=Qa8) ?_
   refine Qag h (fun o19 ho hk=>?_)
   refine Exists.intro (JP1 _ _ o19 .normal (Qrz p0)) (And.intro ?_ (join1 ?_))
   ·have h:=ho
    refine vrfl ?_
    refine Qaf h (fun hb h=>?_) (fun hb h=>?_)
    ·refine JP1.a h ?_
     exact Le.tz 1 1 rfl rfl rfl
    ·refine Qau _ _ h (fun x20 hy=>((Qlq p0 x16 w1.2 x20 hy).fr [0] [0] rfl rfl rfl)) (fun x20 hy h=>?_)
     refine JP1.a h ?_
     exact Le.tz 1 1 rfl rfl rfl
   ·have h:=hk
    refine Qaf h (fun hb h=>?_) (fun hb h=>?_)
    ·refine And.intro (by decide +kernel) (And.intro rfl ?_)
     refine JP1.a h ?_
     exact Le.tow 0 0 rfl (.cons rfl (.p (.not)) (.cons rfl (.refl _) (.cons rfl (.refl _) (.nil)))) (.refl _) rfl
    ·refine TG.lastb mixed tbOk (lv:=Qa8) ?_
     refine Exists.intro _ (And.intro rfl (TG.skip (TG.le (τ := Qf7 p0 (o19.2.1,o19.2.2)) ?_ ((iQet (o19.2.1,o19.2.2) _ h)))))
     exact Le.tz 1 1 rfl rfl rfl
theorem Qo0:∀ (p0:(List UInt8)) (w0:Int×(List Qab)) (o1:((List Qab)×Int×Int)),Qcg p0 w0=some o1→TG (0,0) Tryd.prog 112 Qdb (behind Qdb 0) (JP1 (0,0) 112 o1 .ret (Qfb p0)) (Qed p0 w0):=fun p0 w0=>(Qoc p0).1 w0
noncomputable def Qki (p0:(List UInt8)):Option ((List Qab)×Int×Int) :=
 ( if(decide ((p0.length:Int)>65536)) then
   some ([],0,6)
  else
   Qcg p0 (0,[]):Option (((List Qab)×Int×Int)))>>=fun o1 =>
 some (o1.1,o1.2.1,o1.2.2)
theorem Qwd:∀ (p0:(List UInt8)) (o:(List Qab)×Int×Int),Qki p0=some o→PCall Tryd.prog 47 [sV p0] (Ql8 o):=by
 intro p0 o h
 unfold Qki at h
 refine PCall.ofB mixed tbOk Qa8 Tryd.func47 rfl (by kernel_rfl) (Nat.le_of_ble_eq_true rfl) ?_
 refine Qag h (fun o1 ho hk=>?_)
 refine Exists.intro (JP1 _ _ o1 .ret (Qfb p0)) (And.intro (TG.scope ?_) (join1 ?_))
 ·have h:=ho
  refine TG.seqb mixed tbOk (lv:=Qa8) ?_
  refine vrfl ?_
  refine Qaf h (fun hb h=>?_) (fun hb h=>?_)
  ·refine JP1.a h ?_
   exact Le.tow 0 0 rfl (.cons rfl (.p (.not)) (.cons rfl (.refl _) (.cons rfl (.refl _) (.nil)))) (.refl _) rfl
  ·refine TG.seqb mixed tbOk (lv:=Qa8) ?_
   refine TG.seqb mixed tbOk (lv:=Qa8) ?_
   refine TG.label (TG.le (τ := Qed p0 (0,[])) ?_ ((Qo0 p0 (0,[]) _ h)))
   exact(Le.ownH 0 2 106 5 rfl rfl sizeNil).trans (Le.tz 1 1 rfl rfl rfl)
 ·have h:=hk
  refine Qal (t:=Ql8) h ?_
  exact .refl _
mutual
noncomputable def Qav (p0:(List Qaa)) (p1:Int) (p2:Int):Option ((List Qaa)×Int) :=
 (Qbo p0 p1 p2 [] 0)>>=fun o1 =>
 some (o1.2,o1.1)
 partial_fixpoint
noncomputable def Qbo (p0:(List Qaa)) (p1:Int) (v2:Int) (v8:(List Qaa)) (v9:Int):Option ((Int×(List Qaa))) :=
 ( if(decide (v9<(p0.length:Int))) then
   if(decide (v2>0)) then
    some (decide (p1>0))
   else
    some false
  else
   some false:Option (Bool))>>=fun o2 =>
 if o2 then
  idx p0 v9>>=fun x3 =>
  cutL x3.Name 0 (if 40<(x3.Name.length:Int) then 40 else(x3.Name.length:Int))>>=fun x4 =>
  cutL x3.Text 0 (if 60<(x3.Text.length:Int) then 60 else(x3.Text.length:Int))>>=fun x5 =>
  Qav x3.L (wr (p1-1)) (wr (v2-1))>>=fun x6 =>
  Qav x3.Then (wr (p1-1)) x6.2>>=fun x7 =>
  Qav x3.Else (wr (p1-1)) x7.2>>=fun x8 =>
  appL 120 v8 [(Qaa.mk x3.Kind x4 x5 x3.N x6.1 x7.1 x8.1)]>>=fun x9 =>
  Qbo p0 p1 x8.2 x9 (wr (v9+1))
 else
  some (v2,v8)
 partial_fixpoint
end
theorem Qmk:(∀ (p0:(List Qaa)) (p1:Int) (p2:Int) (o:(List Qaa)×Int),Qav p0 p1 p2=some o→PCall Tryd.prog 19 [.sl false (p0.map Qac),iV p1,iV p2] (Qbv o))∧(∀ (p0:(List Qaa)) (p1:Int) (v2:Int) (v8:(List Qaa)) (v9:Int) (o1:(Int×(List Qaa))),Qbo p0 p1 v2 v8 v9=some o1→TL (0,0) Tryd.prog 88 Qli (JP1 (0,0) 88 o1 (.exit 0) (Qgb p0 p1)) (Qdo p0 p1 v2 v8 v9)):=by
 refine Qav.mutual_partial_correctness _ _ ?_ ?_
 ·intro Qbo' iQbo p0 p1 p2 o h
  refine PCall.ofB mixed tbOk Qib Tryd.func19 rfl (by kernel_rfl) (Nat.le_of_ble_eq_true rfl) ?_
  refine Qag h (fun o1 ho hk=>?_)
  refine Exists.intro (JP1 _ _ o1 (.exit 0) (Qgb p0 p1)) (And.intro (T_le (τ := Qdo p0 p1 p2 [] 0) ?_ (TL.loop (iQbo p0 p1 p2 [] 0 o1 ho))) (join1 ?_))
  ·exact Le.trans (τ := ⟨[(0,.p (.sl false (p0.map Qac))),(1,.p (iV p1)),(2,.p (iV p2)),(8,.p (.sl true [])),(9,.p (iV 0))],⟨[],[]⟩⟩) (Le.tz 0 0 rfl rfl rfl) ((Le.own 8 71 7 rfl sizeNil).trans (Le.tz 0 1 rfl rfl rfl))
  have h:=hk
  refine Qal (t:=Qbv) h ?_
  exact .refl _
 ·intro Qav' Qbo' iQav iQbo p0 p1 v2 v8 v9 o1 h
  refine TL.round (Qak mixed tbOk (lv:=Qib) _ _ _ ?_)
  refine Qag h (fun o2 ho hk=>?_)
  refine Exists.intro (JP1 _ _ o2 .normal (Qlh p0 p1 v2 v8 v9)) (And.intro ?_ (join1 ?_))
  ·have h:=ho
   refine view (lenMap _ _) rfl ?_
   refine Qaf h (fun hb h=>?_) (fun hb h=>?_)
   ·refine Qaf h (fun hb h=>?_) (fun hb h=>?_)
    ·refine JP1.a h ?_
     exact Le.tz 0 1 rfl rfl rfl
    ·refine JP1.a h ?_
     exact Le.tz 0 1 rfl rfl rfl
   ·refine bF ?_
    refine JP1.a h ?_
    exact Le.tz 0 1 rfl rfl rfl
  ·have h:=hk
   refine Qaf h (fun hb h=>?_) (fun hb h=>?_)
   ·refine Qcl (l:=p0) (c:=Qac) (c' := Qat) h Qah (fun _=>rfl) (by decide) (fun x3 hi h=>?_)
    refine And.intro (by decide +kernel) (And.intro rfl ?_)
    refine vrfl ?_
    refine Qfg none (some (if 40<(x3.Name.length:Int) then 40 else(x3.Name.length:Int))) h (fun x4 hi h=>?_)
    refine vrfl ?_
    refine Qfg none (some (if 60<(x3.Text.length:Int) then 60 else(x3.Text.length:Int))) h (fun x5 hi h=>?_)
    refine Qaj [.sl false (x3.L.map Qac),iV (wr (p1-1)),iV (wr (v2-1))] Qbv h (fun x6 hy=>(iQav x3.L (wr (p1-1)) (wr (v2-1)) x6 hy)) (fun x6 hy h=>?_)
    refine Qaj [.sl false (x3.Then.map Qac),iV (wr (p1-1)),iV x6.2] Qbv h (fun x7 hy=>(iQav x3.Then (wr (p1-1)) x6.2 x7 hy)) (fun x7 hy h=>?_)
    refine Qaj [.sl false (x3.Else.map Qac),iV (wr (p1-1)),iV x7.2] Qbv h (fun x8 hy=>(iQav x3.Else (wr (p1-1)) x7.2 x8 hy)) (fun x8 hy h=>?_)
    refine Qrj (a:=v8) (b:=[(Qaa.mk x3.Kind x4 x5 x3.N x6.1 x7.1 x8.1)]) (c:=Qac) h (.cons (.ceq (Qah _) (.refl _)) (.nil)) (fun x=>by rw[Qah]; rfl) rfl (fun x9 hi h=>?_)
    refine TL.le (τ := Qdo p0 p1 x8.2 x9 (wr (v9+1))) ?_ ((iQbo p0 p1 x8.2 x9 (wr (v9+1)) _ h))
    exact Le.tz 0 1 rfl rfl rfl
   ·exact JP1.a h (Le.tz 0 1 rfl rfl rfl)
theorem Qnn:∀ (p0:(List Qaa)) (p1:Int) (p2:Int) (o:(List Qaa)×Int),Qav p0 p1 p2=some o→PCall Tryd.prog 19 [.sl false (p0.map Qac),iV p1,iV p2] (Qbv o):=fun p0 p1 p2=>Qmk.1 p0 p1 p2
noncomputable def Qa2 (h0_0:(List Qab)) (h0_1:Int):Option (Qab) :=
 if(h0_1==(h0_0.length:Int)) then
  some (Qab.mk 0 [] 0 0 0)
 else
  idx h0_0 h0_1>>=fun x1 =>
  some x1
theorem Qbp:∀ (h0_0:(List Qab)) (h0_1:Int) (o:Qab),Qa2 h0_0 h0_1=some o→CallOK Tryd.prog 80 [.ptr 0 0] ⟨[[.p (.sl false (h0_0.map Qae)),.p (iV h0_1)]],[]⟩ (Qfm o) ⟨[[.p (.sl false (h0_0.map Qae)),.p (iV h0_1)]],[]⟩:=by
 intro h0_0 h0_1 o h
 unfold Qa2 at h
 refine CallOK.ofB mixed tbOk Qng Tryd.func80 rfl (by kernel_rfl) (Nat.le_of_ble_eq_true rfl) rfl rfl rfl ?_
 refine And.intro (by decide +kernel) (And.intro rfl ?_)
 refine view (lenMap _ _) rfl ?_
 refine Qaf h (fun hb h=>?_) (fun hb h=>?_)
 ·refine Exists.intro _ (And.intro (Le.refl _ _ _) ?_)
  exact Qb8 (t:=Qfm) (ss:=fun o=>⟨[[.p (.sl false (h0_0.map Qae)),.p (iV h0_1)]],[]⟩) h ⟨[],rfl,.refl _,.refl _,rfl⟩
 ·refine And.intro (by decide +kernel) (And.intro rfl ?_)
  refine Qcl (l:=h0_0) (c:=Qae) (c' := Qae) h (fun _=>rfl) (fun _=>rfl) (by decide) (fun x1 hi h=>?_)
  refine Exists.intro _ (And.intro (Le.refl _ _ _) ?_)
  exact Qb8 (t:=Qfm) (ss:=fun o=>⟨[[.p (.sl false (h0_0.map Qae)),.p (iV h0_1)]],[]⟩) h ⟨[],rfl,.refl _,.refl _,rfl⟩
noncomputable def Qbb (p1:Int) (h0_0:(List Qab)) (h0_1:Int):Option (Bool×Int) :=
 Qa2 h0_0 h0_1>>=fun x1 =>
 if(x1.Kind != p1) then
  some (false,h0_1)
 else
  some (true,(wr (h0_1+1)))
theorem Qb2:∀ (p1:Int) (h0_0:(List Qab)) (h0_1:Int) (o:Bool×Int),Qbb p1 h0_0 h0_1=some o→CallOK Tryd.prog 81 [.ptr 0 0,.p (iV p1)] ⟨[[.p (.sl false (h0_0.map Qae)),.p (iV h0_1)]],[]⟩ (Qfn o) ⟨[[.p (.sl false (h0_0.map Qae)),.p (iV o.2)]],[]⟩:=by
 intro p1 h0_0 h0_1 o h
 unfold Qbb at h
 refine CallOK.ofB mixed tbOk Qnh Tryd.func81 rfl (by kernel_rfl) (Nat.le_of_ble_eq_true rfl) rfl rfl rfl ?_
 refine Qau _ _ h (fun x1 hy=>((Qbp h0_0 h0_1 x1 hy).fr [0] [] rfl rfl rfl)) (fun x1 hy h=>?_)
 refine Qaf h (fun hb h=>?_) (fun hb h=>?_)
 ·refine Exists.intro _ (And.intro (Le.refl _ _ _) ?_)
  exact Qb8 (t:=Qfn) (ss:=fun o=>⟨[[.p (.sl false (h0_0.map Qae)),.p (iV o.2)]],[]⟩) h ⟨[],rfl,.refl _,.refl _,rfl⟩
 ·refine Exists.intro _ (And.intro (Le.refl _ _ _) ?_)
  exact Qb8 (t:=Qfn) (ss:=fun o=>⟨[[.p (.sl false (h0_0.map Qae)),.p (iV o.2)]],[]⟩) h ⟨[],rfl,.refl _,.refl _,rfl⟩
noncomputable def Qas (p1:Bool) (h0_0:(List Qab)) (h0_1:Int):Option ((Unit)⊕(Unit)) :=
 some (mustO p1)
theorem Qaz:∀ (p1:Bool) (h0_0:(List Qab)) (h0_1:Int) (o:(Unit)⊕(Unit)),Qas p1 h0_0 h0_1=some o→CallS Tryd.prog 85 [.ptr 0 0,.p (bV p1)] ⟨[[.p (.sl false (h0_0.map Qae)),.p (iV h0_1)]],[]⟩ Qn4 (fun(o:Unit)=>⟨[[.p (.sl false (h0_0.map Qae)),.p (iV h0_1)]],[]⟩) (fun(o:Unit)=>⟨[[.p (.sl false (h0_0.map Qae)),.p (iV h0_1)]],[]⟩) o:=by
 intro p1 h0_0 h0_1 o h
 unfold Qas at h
 cases h
 exact Q6z _ _ _ _ rfl _ rfl
noncomputable def Qam (p1:Int) (h0_0:(List Qab)) (h0_1:Int):Option ((Qab×Int)⊕(Unit)) :=
 Qa2 h0_0 h0_1>>=fun x1 =>
 Qas (x1.Kind==p1) h0_0 h0_1>>=fun o3 =>
 match o3 with
 | .inl x2 =>
  some (.inl (x1,(wr (h0_1+1))))
 | .inr z4 =>
  some (.inr ())
theorem Qai:∀ (p1:Int) (h0_0:(List Qab)) (h0_1:Int) (o:(Qab×Int)⊕(Unit)),Qam p1 h0_0 h0_1=some o→CallS Tryd.prog 82 [.ptr 0 0,.p (iV p1)] ⟨[[.p (.sl false (h0_0.map Qae)),.p (iV h0_1)]],[]⟩ Qi3 (fun(o:Qab×Int)=>⟨[[.p (.sl false (h0_0.map Qae)),.p (iV o.2)]],[]⟩) (fun(o:Unit)=>⟨[[.p (.sl false (h0_0.map Qae)),.p (iV h0_1)]],[]⟩) o:=by
 intro p1 h0_0 h0_1 o h
 unfold Qam at h
 refine CallS.ofB mixed tbOk Qnj Tryd.func82 rfl (by kernel_rfl) (Nat.le_of_ble_eq_true rfl) (fun _=>rfl) (fun _=>rfl) (fun _=>rfl) (fun _=>rfl) (fun _=>rfl) ?_
 refine Qau _ _ h (fun x1 hy=>((Qbp h0_0 h0_1 x1 hy).fr [0] [] rfl rfl rfl)) (fun x1 hy h=>?_)
 refine xle ?_
 refine Qa3 _ _ _ h (fun x2 hy=>(Qaz (x1.Kind==p1) h0_0 h0_1 (.inl x2) hy).a.fr [0] [] rfl rfl rfl) (fun z4 hy=>(Qaz (x1.Kind==p1) h0_0 h0_1 (.inr z4) hy).b.fr [0] [] rfl rfl rfl) (fun x2 hy h=>?_) (fun z4 hy h=>?_)
 ·refine Exists.intro _ (And.intro (Le.refl _ _ _) ?_)
  exact Qda (t:=Qi3) (ss:=fun(o:Qab×Int)=>⟨[[.p (.sl false (h0_0.map Qae)),.p (iV o.2)]],[]⟩) h ⟨[],rfl,.refl _,.refl _,rfl⟩
 ·refine xle ?_
  exact Qbu (sp:=fun(o:Unit)=>⟨[[.p (.sl false (h0_0.map Qae)),.p (iV h0_1)]],[]⟩) h ⟨[],rfl,.refl _,.refl _,rfl⟩
noncomputable instance Qub:Lean.Order.CCPO ((List Qaa)→(List Qaa)→(List Qaa)→Option ((Int×Int×(List UInt8)×(List UInt8)×Int×(List Qaa)×(List Qaa)×(List Qaa))⊕(Int×Int×(List UInt8)×(List UInt8)×Int×(List Qaa)×(List Qaa)×(List Qaa)))):=inferInstance
noncomputable instance Quc:Lean.Order.CCPO ((List UInt8)→(List UInt8)→Int→(List Qaa)→(List Qaa)→(List Qaa)→Option ((Int×Int×(List UInt8)×(List UInt8)×Int×(List Qaa)×(List Qaa)×(List Qaa))⊕(Int×Int×(List UInt8)×(List UInt8)×Int×(List Qaa)×(List Qaa)×(List Qaa)))):=inferInstance
noncomputable def Qbd (h0_0:(List Qab)) (h0_1_:Int) (h2_0:Int) (h2_1:(List UInt8)) (h2_2:(List UInt8)) (h2_3:Int) (h2_4:(List Qaa)) (h2_5:(List Qaa)) (h2_6:(List Qaa)):Option ((Int×Int×(List UInt8)×(List UInt8)×Int×(List Qaa)×(List Qaa)×(List Qaa))⊕(Int×Int×(List UInt8)×(List UInt8)×Int×(List Qaa)×(List Qaa)×(List Qaa))) :=
 Qbb 7 h0_0 h0_1_>>=fun x7 =>
 if x7.1 then
  Qam 4 h0_0 x7.2>>=fun o9 =>
  match o9 with
  | .inl x8 =>
   Qbd h0_0 x8.2 5 x8.1.Text [] 0 [(Qaa.mk h2_0 h2_1 h2_2 h2_3 h2_4 h2_5 h2_6)] [] []
  | .inr z10 =>
   some (.inr (x7.2,h2_0,h2_1,h2_2,h2_3,h2_4,h2_5,h2_6))
 else
  some (.inl (x7.2,h2_0,h2_1,h2_2,h2_3,h2_4,h2_5,h2_6))
 partial_fixpoint
theorem Qkj:∀ (h0_0:(List Qab)),(∀ (h0_1_:Int) (h2_0:Int) (h2_1:(List UInt8)) (h2_2:(List UInt8)) (h2_3:Int) (h2_4:(List Qaa)) (h2_5:(List Qaa)) (h2_6:(List Qaa)) (o4:(Int×Int×(List UInt8)×(List UInt8)×Int×(List Qaa)×(List Qaa)×(List Qaa))⊕(Int×Int×(List UInt8)×(List UInt8)×Int×(List Qaa)×(List Qaa)×(List Qaa))),Qbd h0_0 h0_1_ h2_0 h2_1 h2_2 h2_3 h2_4 h2_5 h2_6=some o4→TL (1,0) Tryd.prog 15 Qgw (JP2 (1,0) 15 o4 (.exit 0) (Qds h0_0) (.panic panCH) (Qdt h0_0)) (Qck h0_0 h0_1_ h2_0 h2_1 h2_2 h2_3 h2_4 h2_5 h2_6)):=by
 intro h0_0
 refine Qbd.partial_correctness h0_0 _ ?_
 intro Qbd' iQbd h0_1_ h2_0 h2_1 h2_2 h2_3 h2_4 h2_5 h2_6 o4 h
 refine TL.round (Qak mixed tbOk (lv:=Qid) _ _ _ ?_)
 refine Qau _ _ h (fun x7 hy=>((Qb2 7 h0_0 h0_1_ x7 hy).fr [0] [] rfl rfl rfl)) (fun x7 hy h=>?_)
 refine Qaf h (fun hb h=>?_) (fun hb h=>?_)
 ·refine xle ?_
  refine Q5v h (fun x8 hy h=>?_) (fun z10 hy h=>?_)
  ·refine And.intro (by decide +kernel) (And.intro rfl ?_)
   refine Exists.intro _ (Exists.intro _ (And.intro ((Qai 4 h0_0 x7.2 (.inl x8) hy).a.fg [0] [] rfl rfl rfl (Nat.le_of_ble_eq_true rfl)) ?_))
   refine TL.le (τ := Qck h0_0 x8.2 5 x8.1.Text [] 0 [(Qaa.mk h2_0 h2_1 h2_2 h2_3 h2_4 h2_5 h2_6)] [] []) ?_ ((iQbd x8.2 5 x8.1.Text [] 0 [(Qaa.mk h2_0 h2_1 h2_2 h2_3 h2_4 h2_5 h2_6)] [] [] _ h))
   exact Le.tow 3 0 rfl (.cons rfl (.refl _) (.cons rfl (.refl _) (.cons rfl (.refl _) (.nil)))) (.cons (.refl _) (.cons (.refl _) (.cons (.cons (.refl _) (.cons (.refl _) (.cons (.refl _) (.cons (.refl _) (.cons (.p (.no (.cons (.ceq (Qah _) (.refl _)) (.nil)))) (.cons (.p (.not)) (.cons (.p (.not)) (.nil)))))))) (.nil)))) rfl
  ·refine Exists.intro ((.op 0 (.pan 1 (.op 3 (.pan 1 (.op 4 (.pan 1 (.nil)) (.nil))) (.nil))) (.op 3 (.op 0 (.pan 1 (.op 4 (.pan 1 (.nil)) (.nil))) (.op 4 (.op 0 (.pan 1 (.nil)) (.nil)) (.nil))) (.nil)):PT)) (And.intro (by decide +kernel) ?_)
   refine And.intro (And.intro ?_ (And.intro (And.intro ?_ (And.intro (And.intro ?_ (trivial)) (trivial))) (trivial))) (And.intro (And.intro (And.intro ?_ (And.intro (And.intro ?_ (trivial)) (trivial))) (And.intro (And.intro (And.intro ?_ (trivial)) (trivial)) (trivial))) (trivial))
   all_goals
    refine Or.inr (Exists.intro _ (And.intro ((Qai 4 h0_0 x7.2 (.inr z10) hy).b.fr [0] [] rfl rfl rfl) ?_))
    exact JP2.b h (Le.tz 3 0 rfl rfl rfl)
 ·exact JP2.a h (Le.tz 3 0 rfl rfl rfl)
theorem Qla:∀ (h0_0:(List Qab)) (h0_1_:Int) (h2_0:Int) (h2_1:(List UInt8)) (h2_2:(List UInt8)) (h2_3:Int) (h2_4:(List Qaa)) (h2_5:(List Qaa)) (h2_6:(List Qaa)) (o4:(Int×Int×(List UInt8)×(List UInt8)×Int×(List Qaa)×(List Qaa)×(List Qaa))⊕(Int×Int×(List UInt8)×(List UInt8)×Int×(List Qaa)×(List Qaa)×(List Qaa))),Qbd h0_0 h0_1_ h2_0 h2_1 h2_2 h2_3 h2_4 h2_5 h2_6=some o4→TL (1,0) Tryd.prog 15 Qgw (JP2 (1,0) 15 o4 (.exit 0) (Qds h0_0) (.panic panCH) (Qdt h0_0)) (Qck h0_0 h0_1_ h2_0 h2_1 h2_2 h2_3 h2_4 h2_5 h2_6):=fun h0_0 h0_1_ h2_0 h2_1 h2_2 h2_3 h2_4 h2_5 h2_6=>(Qkj h0_0) h0_1_ h2_0 h2_1 h2_2 h2_3 h2_4 h2_5 h2_6
noncomputable def Qml (p0:(List UInt8)):Option (Bool) :=
 ( if(p0==[105,102]) then
   some (p0==[105,102])
  else
   if(p0==[101,108,115,101]) then
    some (p0==[101,108,115,101])
   else
    if(p0==[101,110,100]) then
     some (p0==[101,110,100])
    else
     if(p0==[101,97,99,104]) then
      some (p0==[101,97,99,104])
     else
      if(p0==[105,110]) then
       some (p0==[105,110])
      else
       if(p0==[108,101,116]) then
        some (p0==[108,101,116])
       else
        if(p0==[117,115,101]) then
         some (p0==[117,115,101])
        else
         if(p0==[116,114,117,101]) then
          some (p0==[116,114,117,101])
         else
          if(p0==[102,97,108,115,101]) then
           some (p0==[102,97,108,115,101])
          else
           some (p0==[115,101,99,114,101,116]):Option (Bool))>>=fun o1 =>
 if o1 then
  some false
 else
  Qjn p0>>=fun x2 =>
  some x2
theorem Qyh:∀ (p0:(List UInt8)) (o:Bool),Qml p0=some o→PCall Tryd.prog 146 [sV p0] (Qk3 o):=by
 intro p0 o h
 unfold Qml at h
 refine PCall.ofB mixed tbOk Qx1 Tryd.func146 rfl (by kernel_rfl) (Nat.le_of_ble_eq_true rfl) ?_
 refine Qag h (fun o1 ho hk=>?_)
 refine Exists.intro (JP1 _ _ o1 .normal (Qtd p0)) (And.intro ?_ (join1 ?_))
 ·have h:=ho
  refine Qaf h (fun hb h=>?_) (fun hb h=>?_)
  ·refine JP1.a h ?_
   exact Le.tz 0 0 rfl rfl rfl
  ·refine Qaf h (fun hb h=>?_) (fun hb h=>?_)
   ·refine JP1.a h ?_
    exact Le.tz 0 0 rfl rfl rfl
   ·refine Qaf h (fun hb h=>?_) (fun hb h=>?_)
    ·refine JP1.a h ?_
     exact Le.tz 0 0 rfl rfl rfl
    ·refine Qaf h (fun hb h=>?_) (fun hb h=>?_)
     ·refine JP1.a h ?_
      exact Le.tz 0 0 rfl rfl rfl
     ·refine Qaf h (fun hb h=>?_) (fun hb h=>?_)
      ·refine JP1.a h ?_
       exact Le.tz 0 0 rfl rfl rfl
      ·refine Qaf h (fun hb h=>?_) (fun hb h=>?_)
       ·refine JP1.a h ?_
        exact Le.tz 0 0 rfl rfl rfl
       ·refine Qaf h (fun hb h=>?_) (fun hb h=>?_)
        ·refine JP1.a h ?_
         exact Le.tz 0 0 rfl rfl rfl
        ·refine Qaf h (fun hb h=>?_) (fun hb h=>?_)
         ·refine JP1.a h ?_
          exact Le.tz 0 0 rfl rfl rfl
         ·refine Qaf h (fun hb h=>?_) (fun hb h=>?_)
          ·refine JP1.a h ?_
           exact Le.tz 0 0 rfl rfl rfl
          ·refine JP1.a h ?_
           exact Le.tz 0 0 rfl rfl rfl
 ·have h:=hk
  refine Qaf h (fun hb h=>?_) (fun hb h=>?_)
  ·refine Qal (t:=Qk3) h ?_
   exact .refl _
  ·refine Qaj [sV p0] Qim h (fun x2 hy=>(Qoa p0 x2 hy)) (fun x2 hy h=>?_)
   refine Qal (t:=Qk3) h ?_
   exact .refl _
noncomputable def Qby (h0_0:(List Qab)) (h0_1:Int):Option (((List UInt8)×Int)⊕(Unit)) :=
 Qa2 h0_0 h0_1>>=fun x1 =>
 Qml x1.Text>>=fun x2 =>
 Qas x2 h0_0 h0_1>>=fun o4 =>
 match o4 with
 | .inl x3 =>
  Qam 4 h0_0 h0_1>>=fun o7 =>
  match o7 with
  | .inl x6 =>
   some (.inl (x6.1.Text,x6.2))
  | .inr z8 =>
   some (.inr ())
 | .inr z5 =>
  some (.inr ())
theorem Qbe:∀ (h0_0:(List Qab)) (h0_1:Int) (o:((List UInt8)×Int)⊕(Unit)),Qby h0_0 h0_1=some o→CallS Tryd.prog 115 [.ptr 0 0] ⟨[[.p (.sl false (h0_0.map Qae)),.p (iV h0_1)]],[]⟩ Qi2 (fun(o:(List UInt8)×Int)=>⟨[[.p (.sl false (h0_0.map Qae)),.p (iV o.2)]],[]⟩) (fun(o:Unit)=>⟨[[.p (.sl false (h0_0.map Qae)),.p (iV h0_1)]],[]⟩) o:=by
 intro h0_0 h0_1 o h
 unfold Qby at h
 refine CallS.ofB mixed tbOk Qnf Tryd.func115 rfl (by kernel_rfl) (Nat.le_of_ble_eq_true rfl) (fun _=>rfl) (fun _=>rfl) (fun _=>rfl) (fun _=>rfl) (fun _=>rfl) ?_
 refine xle ?_
 refine Qau _ _ h (fun x1 hy=>((Qbp h0_0 h0_1 x1 hy).fr [0] [] rfl rfl rfl)) (fun x1 hy h=>?_)
 refine Qaj [sV x1.Text] Qk3 h (fun x2 hy=>(Qyh x1.Text x2 hy)) (fun x2 hy h=>?_)
 refine Qa3 _ _ _ h (fun x3 hy=>(Qaz x2 h0_0 h0_1 (.inl x3) hy).a.fr [0] [] rfl rfl rfl) (fun z5 hy=>(Qaz x2 h0_0 h0_1 (.inr z5) hy).b.fr [0] [] rfl rfl rfl) (fun x3 hy h=>?_) (fun z5 hy h=>?_)
 ·refine xle ?_
  refine Qa3 _ _ _ h (fun x6 hy=>(Qai 4 h0_0 h0_1 (.inl x6) hy).a.fr [0] [] rfl rfl rfl) (fun z8 hy=>(Qai 4 h0_0 h0_1 (.inr z8) hy).b.fr [0] [] rfl rfl rfl) (fun x6 hy h=>?_) (fun z8 hy h=>?_)
  ·refine Exists.intro _ (And.intro (Le.refl _ _ _) ?_)
   exact Qda (t:=Qi2) (ss:=fun(o:(List UInt8)×Int)=>⟨[[.p (.sl false (h0_0.map Qae)),.p (iV o.2)]],[]⟩) h ⟨[],rfl,.refl _,.refl _,rfl⟩
  ·refine xle ?_
   exact Qbu (sp:=fun(o:Unit)=>⟨[[.p (.sl false (h0_0.map Qae)),.p (iV h0_1)]],[]⟩) h ⟨[],rfl,.refl _,.refl _,rfl⟩
 ·refine xle ?_
  exact Qbu (sp:=fun(o:Unit)=>⟨[[.p (.sl false (h0_0.map Qae)),.p (iV h0_1)]],[]⟩) h ⟨[],rfl,.refl _,.refl _,rfl⟩
noncomputable def Qan (p1:(List UInt8)) (h0_0:(List Qab)) (h0_1:Int):Option (Bool×Int) :=
 Qa2 h0_0 h0_1>>=fun x1 =>
 ( if(x1.Kind != 4) then
   some true
  else
   some (!(x1.Text==p1)):Option (Bool))>>=fun o2 =>
 if o2 then
  some (false,h0_1)
 else
  some (true,(wr (h0_1+1)))
theorem Qa0:∀ (p1:(List UInt8)) (h0_0:(List Qab)) (h0_1:Int) (o:Bool×Int),Qan p1 h0_0 h0_1=some o→CallOK Tryd.prog 83 [.ptr 0 0,.p (sV p1)] ⟨[[.p (.sl false (h0_0.map Qae)),.p (iV h0_1)]],[]⟩ (Qfo o) ⟨[[.p (.sl false (h0_0.map Qae)),.p (iV o.2)]],[]⟩:=by
 intro p1 h0_0 h0_1 o h
 unfold Qan at h
 refine CallOK.ofB mixed tbOk Qnk Tryd.func83 rfl (by kernel_rfl) (Nat.le_of_ble_eq_true rfl) rfl rfl rfl ?_
 refine Qau _ _ h (fun x1 hy=>((Qbp h0_0 h0_1 x1 hy).fr [0] [] rfl rfl rfl)) (fun x1 hy h=>?_)
 refine Qag h (fun o2 ho hk=>?_)
 refine Exists.intro (JP1 _ _ o2 .normal (Qln h0_0 h0_1 x1)) (And.intro ?_ (join1 ?_))
 ·have h:=ho
  refine Qaf h (fun hb h=>?_) (fun hb h=>?_)
  ·refine JP1.a h ?_
   exact Le.tz 2 0 rfl rfl rfl
  ·refine JP1.a h ?_
   exact Le.tz 2 0 rfl rfl rfl
 ·have h:=hk
  refine Qaf h (fun hb h=>?_) (fun hb h=>?_)
  ·refine Exists.intro _ (And.intro (Le.refl _ _ _) ?_)
   exact Qb8 (t:=Qfo) (ss:=fun o=>⟨[[.p (.sl false (h0_0.map Qae)),.p (iV o.2)]],[]⟩) h ⟨[],rfl,.refl _,.refl _,rfl⟩
  ·refine Exists.intro _ (And.intro (Le.refl _ _ _) ?_)
   exact Qb8 (t:=Qfo) (ss:=fun o=>⟨[[.p (.sl false (h0_0.map Qae)),.p (iV o.2)]],[]⟩) h ⟨[],rfl,.refl _,.refl _,rfl⟩
mutual
noncomputable def Qdh (h0_0:(List Qab)) (h0_1:Int):Option (((List Qaa)×Int)⊕(Int)) :=
 Qbb 9 h0_0 h0_1>>=fun x1 =>
 if x1.1 then
  some (.inl ([],x1.2))
 else
  Qbz h0_0 x1.2>>=fun o3 =>
  match o3 with
  | .inl x2 =>
   (Qbf h0_0 [x2.1] x2.2)>>=fun o5 =>
   match o5 with
   | .inl y6 =>
    Qam 9 h0_0 y6.2>>=fun o15 =>
    match o15 with
    | .inl x14 =>
     some (.inl (y6.1,x14.2))
    | .inr z16 =>
     some (.inr y6.2)
   | .inr y7 =>
    some (.inr y7)
  | .inr z4 =>
   some (.inr z4)
 partial_fixpoint
noncomputable def Qbf (h0_0:(List Qab)) (v3:(List Qaa)) (h0_1_:Int):Option (((List Qaa)×Int)⊕Int) :=
 ( if(decide ((v3.length:Int)<3)) then
   Qbb 10 h0_0 h0_1_>>=fun x9 =>
   some (x9.1,x9.2)
  else
   some (false,h0_1_):Option ((Bool×Int)))>>=fun o8 =>
 if o8.1 then
  Qbz h0_0 o8.2>>=fun o11 =>
  match o11 with
  | .inl x10 =>
   appL 120 v3 [x10.1]>>=fun x13 =>
   Qbf h0_0 x13 x10.2
  | .inr z12 =>
   some (.inr z12)
 else
  some (.inl (v3,o8.2))
 partial_fixpoint
noncomputable def Qbz (h0_0:(List Qab)) (h0_1:Int):Option ((Qaa×Int)⊕(Int)) :=
 Qei h0_0 h0_1>>=fun o2 =>
 match o2 with
 | .inl x1 =>
  (Qbd h0_0 x1.2 x1.1.Kind x1.1.Name x1.1.Text x1.1.N x1.1.L x1.1.Then x1.1.Else)>>=fun o4 =>
  match o4 with
  | .inl y5 =>
   some (.inl ((Qaa.mk y5.2.1 y5.2.2.1 y5.2.2.2.1 y5.2.2.2.2.1 y5.2.2.2.2.2.1 y5.2.2.2.2.2.2.1 y5.2.2.2.2.2.2.2),y5.1))
  | .inr y6 =>
   some (.inr y6.1)
 | .inr z3 =>
  some (.inr z3)
 partial_fixpoint
noncomputable def Qei (h0_0:(List Qab)) (h0_1:Int):Option ((Qaa×Int)⊕(Int)) :=
 Qa2 h0_0 h0_1>>=fun x1 =>
 if(x1.Kind==5) then
  some (.inl ((Qaa.mk 1 [] x1.Text 0 [] [] []),(wr (h0_1+1))))
 else
  if(x1.Kind==6) then
   some (.inl ((Qaa.mk 2 [] [] x1.N [] [] []),(wr (h0_1+1))))
  else
   Qan [116,114,117,101] h0_0 h0_1>>=fun x2 =>
   if x2.1 then
    some (.inl ((Qaa.mk 3 [] [] 1 [] [] []),x2.2))
   else
    Qan [102,97,108,115,101] h0_0 x2.2>>=fun x3 =>
    if x3.1 then
     some (.inl ((Qaa.mk 3 [] [] 0 [] [] []),x3.2))
    else
     Qan [115,101,99,114,101,116] h0_0 x3.2>>=fun x4 =>
     if x4.1 then
      Qam 8 h0_0 x4.2>>=fun o6 =>
      match o6 with
      | .inl x5 =>
       Qa2 h0_0 x5.2>>=fun x8 =>
       Qjn x8.Text>>=fun x9 =>
       Qas x9 h0_0 x5.2>>=fun o11 =>
       match o11 with
       | .inl x10 =>
        Qam 5 h0_0 x5.2>>=fun o14 =>
        match o14 with
        | .inl x13 =>
         Qam 9 h0_0 x13.2>>=fun o17 =>
         match o17 with
         | .inl x16 =>
          some (.inl ((Qaa.mk 7 x13.1.Text [] 0 [] [] []),x16.2))
         | .inr z18 =>
          some (.inr x13.2)
        | .inr z15 =>
         some (.inr x5.2)
       | .inr z12 =>
        some (.inr x5.2)
      | .inr z7 =>
       some (.inr x4.2)
     else
      Qby h0_0 x4.2>>=fun o20 =>
      match o20 with
      | .inl x19 =>
       Qbb 8 h0_0 x19.2>>=fun x22 =>
       if x22.1 then
        Qdh h0_0 x22.2>>=fun o24 =>
        match o24 with
        | .inl x23 =>
         some (.inl ((Qaa.mk 6 x19.1 [] 0 x23.1 [] []),x23.2))
        | .inr z25 =>
         some (.inr z25)
       else
        some (.inl ((Qaa.mk 4 x19.1 [] 0 [] [] []),x22.2))
      | .inr z21 =>
       some (.inr x4.2)
 partial_fixpoint
end
theorem Qmm:∀ (h0_0:(List Qab)),(∀ (h0_1:Int) (o:((List Qaa)×Int)⊕(Int)),Qdh h0_0 h0_1=some o→CallS Tryd.prog 160 [.ptr 0 0] ⟨[[.p (.sl false (h0_0.map Qae)),.p (iV h0_1)]],[]⟩ Qfk (fun(o:(List Qaa)×Int)=>⟨[[.p (.sl false (h0_0.map Qae)),.p (iV o.2)]],[]⟩) (fun(o:Int)=>⟨[[.p (.sl false (h0_0.map Qae)),.p (iV o)]],[]⟩) o)∧(∀ (v3:(List Qaa)) (h0_1_:Int) (o5:((List Qaa)×Int)⊕Int),Qbf h0_0 v3 h0_1_=some o5→TL (1,0) Tryd.prog 24 Qll (JP2 (1,0) 24 o5 (.exit 0) (Qgc h0_0) (.panic panCH) (Qgd h0_0)) (Qdr h0_0 v3 h0_1_))∧(∀ (h0_1:Int) (o:(Qaa×Int)⊕(Int)),Qbz h0_0 h0_1=some o→CallS Tryd.prog 145 [.ptr 0 0] ⟨[[.p (.sl false (h0_0.map Qae)),.p (iV h0_1)]],[]⟩ Qfl (fun(o:Qaa×Int)=>⟨[[.p (.sl false (h0_0.map Qae)),.p (iV o.2)]],[]⟩) (fun(o:Int)=>⟨[[.p (.sl false (h0_0.map Qae)),.p (iV o)]],[]⟩) o)∧(∀ (h0_1:Int) (o:(Qaa×Int)⊕(Int)),Qei h0_0 h0_1=some o→CallS Tryd.prog 156 [.ptr 0 0] ⟨[[.p (.sl false (h0_0.map Qae)),.p (iV h0_1)]],[]⟩ Qbc (fun(o:Qaa×Int)=>⟨[[.p (.sl false (h0_0.map Qae)),.p (iV o.2)]],[]⟩) (fun(o:Int)=>⟨[[.p (.sl false (h0_0.map Qae)),.p (iV o)]],[]⟩) o):=by
 intro h0_0
 refine Qdh.mutual_partial_correctness h0_0 _ _ _ _ ?_ ?_ ?_ ?_
 ·intro Qbf' Qbz' iQbf iQbz h0_1 o h
  refine CallS.ofB mixed tbOk Qic Tryd.func160 rfl (by kernel_rfl) (Nat.le_of_ble_eq_true rfl) (fun _=>rfl) (fun _=>rfl) (fun _=>rfl) (fun _=>rfl) (fun _=>rfl) ?_
  refine Qau _ _ h (fun x1 hy=>((Qb2 9 h0_0 h0_1 x1 hy).fr [0] [] rfl rfl rfl)) (fun x1 hy h=>?_)
  refine Qaf h (fun hb h=>?_) (fun hb h=>?_)
  ·refine Exists.intro _ (And.intro (Le.refl _ _ _) ?_)
   exact Qda (t:=Qfk) (ss:=fun(o:(List Qaa)×Int)=>⟨[[.p (.sl false (h0_0.map Qae)),.p (iV o.2)]],[]⟩) h ⟨[],rfl,.p (.not),.refl _,rfl⟩
  ·refine xle ?_
   refine Qa3 _ _ _ h (fun x2 hy=>(iQbz x1.2 (.inl x2) hy).a.fr [0] [] rfl rfl rfl) (fun z4 hy=>(iQbz x1.2 (.inr z4) hy).b.fr [0] [] rfl rfl rfl) (fun x2 hy h=>?_) (fun z4 hy h=>?_)
   ·refine Qag h (fun o5 ho hk=>?_)
    refine Exists.intro (JP2 _ _ o5 (.exit 0) (Qgc h0_0) (.panic panCH) (Qgd h0_0)) (And.intro (T_le (τ := Qdr h0_0 [x2.1] x2.2) ?_ (TL.loop (iQbf [x2.1] x2.2 o5 ho))) (join2 (fun y6 hy=>?_) (fun y7 hy=>?_)))
    ·exact Le.trans (τ := ⟨[(0,.ptr 0 0),(3,.p (.sl true ([x2.1].map Qac)))],⟨[[.p (.sl false (h0_0.map Qae)),.p (iV x2.2)]],[]⟩⟩) (Le.tow 1 0 rfl (.cons rfl (.refl _) (.cons rfl (.p (.sl' (fun h=>h) (.cons (.ceq (Qah _) (.refl _)) (.nil)))) (.nil))) (.refl _) rfl) ((Le.ownW 3 71 7 rfl (mapSize fun x=>by rw[Qah]; rfl)).trans (Le.tz 1 1 rfl rfl rfl))
    ·have h:=(by rw[hy] at hk; exact hk)
     refine xle ?_
     refine Qa3 _ _ _ h (fun x14 hy=>(Qai 9 h0_0 y6.2 (.inl x14) hy).a.fr [0] [] rfl rfl rfl) (fun z16 hy=>(Qai 9 h0_0 y6.2 (.inr z16) hy).b.fr [0] [] rfl rfl rfl) (fun x14 hy h=>?_) (fun z16 hy h=>?_)
     ·refine Exists.intro _ (And.intro (Le.refl _ _ _) ?_)
      exact Qda (t:=Qfk) (ss:=fun(o:(List Qaa)×Int)=>⟨[[.p (.sl false (h0_0.map Qae)),.p (iV o.2)]],[]⟩) h ⟨[],rfl,.refl _,.refl _,rfl⟩
     ·refine xle ?_
      exact Qbu (sp:=fun(o:Int)=>⟨[[.p (.sl false (h0_0.map Qae)),.p (iV o)]],[]⟩) h ⟨[],rfl,.refl _,.refl _,rfl⟩
    ·have h:=(by rw[hy] at hk; exact hk)
     refine xle ?_
     exact Qbu (sp:=fun(o:Int)=>⟨[[.p (.sl false (h0_0.map Qae)),.p (iV o)]],[]⟩) h ⟨[],rfl,.refl _,.refl _,rfl⟩
   ·refine xle ?_
    exact Qbu (sp:=fun(o:Int)=>⟨[[.p (.sl false (h0_0.map Qae)),.p (iV o)]],[]⟩) h ⟨[],rfl,.refl _,.refl _,rfl⟩
 ·intro Qbf' Qbz' iQbf iQbz v3 h0_1_ o5 h
  refine TL.round (Qak mixed tbOk (lv:=Qic) _ _ _ ?_)
  refine Qag h (fun o8 ho hk=>?_)
  refine Exists.intro (JP1 _ _ o8 .normal (Qlk h0_0 v3)) (And.intro ?_ (join1 ?_))
  ·have h:=ho
   refine view (lenMap _ _) rfl ?_
   refine Qaf h (fun hb h=>?_) (fun hb h=>?_)
   ·refine Qau _ _ h (fun x9 hy=>((Qb2 10 h0_0 h0_1_ x9 hy).fr [0] [] rfl rfl rfl)) (fun x9 hy h=>?_)
    refine JP1.a h ?_
    exact Le.tz 1 1 rfl rfl rfl
   ·refine JP1.a h ?_
    exact Le.tz 1 1 rfl rfl rfl
  ·have h:=hk
   refine Qaf h (fun hb h=>?_) (fun hb h=>?_)
   ·refine xle ?_
    refine Qa3 _ _ _ h (fun x10 hy=>(iQbz o8.2 (.inl x10) hy).a.fr [0] [] rfl rfl rfl) (fun z12 hy=>(iQbz o8.2 (.inr z12) hy).b.fr [0] [] rfl rfl rfl) (fun x10 hy h=>?_) (fun z12 hy h=>?_)
    ·refine Qrj (a:=v3) (b:=[x10.1]) (c:=Qac) h (.cons (.ceq (Qah _) (.refl _)) (.nil)) (fun x=>by rw[Qah]; rfl) rfl (fun x13 hi h=>?_)
     refine TL.le (τ := Qdr h0_0 x13 x10.2) ?_ ((iQbf x13 x10.2 _ h))
     exact Le.tz 1 1 rfl rfl rfl
    ·exact JP2.b h (Le.tz 1 0 rfl rfl rfl)
   ·exact JP2.a h (Le.tz 1 1 rfl rfl rfl)
 ·intro Qei' iQei h0_1 o h
  refine CallS.ofB mixed tbOk Qid Tryd.func145 rfl (by kernel_rfl) (Nat.le_of_ble_eq_true rfl) (fun _=>rfl) (fun _=>rfl) (fun _=>rfl) (fun _=>rfl) (fun _=>rfl) ?_
  refine xle ?_
  refine Qa3 _ _ _ h (fun x1 hy=>(iQei h0_1 (.inl x1) hy).a.fr [0] [] rfl rfl rfl) (fun z3 hy=>(iQei h0_1 (.inr z3) hy).b.fr [0] [] rfl rfl rfl) (fun x1 hy h=>?_) (fun z3 hy h=>?_)
  ·refine Qag h (fun o4 ho hk=>?_)
   refine Exists.intro (JP2 _ _ o4 (.exit 0) (Qds h0_0) (.panic panCH) (Qdt h0_0)) (And.intro (T_le (τ := Qck h0_0 x1.2 x1.1.Kind x1.1.Name x1.1.Text x1.1.N x1.1.L x1.1.Then x1.1.Else) ?_ (TL.loop (Qla h0_0 x1.2 x1.1.Kind x1.1.Name x1.1.Text x1.1.N x1.1.L x1.1.Then x1.1.Else o4 ho))) (join2 (fun y5 hy=>?_) (fun y6 hy=>?_)))
   ·exact Le.tz 3 0 rfl rfl rfl
   ·have h:=(by rw[hy] at hk; exact hk)
    refine Exists.intro _ (And.intro (Le.refl _ _ _) ?_)
    exact Qda (t:=Qfl) (ss:=fun(o:Qaa×Int)=>⟨[[.p (.sl false (h0_0.map Qae)),.p (iV o.2)]],[]⟩) h ⟨[],rfl,.refl _,.refl _,rfl⟩
   ·have h:=(by rw[hy] at hk; exact hk)
    refine xle ?_
    exact Qbu (sp:=fun(o:Int)=>⟨[[.p (.sl false (h0_0.map Qae)),.p (iV o)]],[]⟩) h ⟨[],rfl,.refl _,.refl _,rfl⟩
  ·refine xle ?_
   exact Qbu (sp:=fun(o:Int)=>⟨[[.p (.sl false (h0_0.map Qae)),.p (iV o)]],[]⟩) h ⟨[],rfl,.refl _,.refl _,rfl⟩
 ·intro Qdh' iQdh h0_1 o h
  refine CallS.ofB mixed tbOk Qmc Tryd.func156 rfl (by kernel_rfl) (Nat.le_of_ble_eq_true rfl) (fun _=>rfl) (fun _=>rfl) (fun _=>rfl) (fun _=>rfl) (fun _=>rfl) ?_
  refine Qau _ _ h (fun x1 hy=>((Qbp h0_0 h0_1 x1 hy).fr [0] [] rfl rfl rfl)) (fun x1 hy h=>?_)
  refine Qaf h (fun hb h=>?_) (fun hb h=>?_)
  ·refine Exists.intro _ (And.intro (Le.refl _ _ _) ?_)
   exact Qda (t:=Qbc) (ss:=fun(o:Qaa×Int)=>⟨[[.p (.sl false (h0_0.map Qae)),.p (iV o.2)]],[]⟩) h ⟨[],rfl,.p (.agg' (.cons (.refl _) (.cons (.refl _) (.cons (.refl _) (.cons (.refl _) (.cons (.not) (.cons (.not) (.cons (.not) (.nil))))))))),.refl _,rfl⟩
  ·refine Qaf h (fun hb h=>?_) (fun hb h=>?_)
   ·refine Exists.intro _ (And.intro (Le.refl _ _ _) ?_)
    exact Qda (t:=Qbc) (ss:=fun(o:Qaa×Int)=>⟨[[.p (.sl false (h0_0.map Qae)),.p (iV o.2)]],[]⟩) h ⟨[],rfl,.p (.agg' (.cons (.refl _) (.cons (.refl _) (.cons (.refl _) (.cons (.refl _) (.cons (.not) (.cons (.not) (.cons (.not) (.nil))))))))),.refl _,rfl⟩
   ·refine Qau _ _ h (fun x2 hy=>((Qa0 [116,114,117,101] h0_0 h0_1 x2 hy).fr [0] [] rfl rfl rfl)) (fun x2 hy h=>?_)
    refine Qaf h (fun hb h=>?_) (fun hb h=>?_)
    ·refine Exists.intro _ (And.intro (Le.refl _ _ _) ?_)
     exact Qda (t:=Qbc) (ss:=fun(o:Qaa×Int)=>⟨[[.p (.sl false (h0_0.map Qae)),.p (iV o.2)]],[]⟩) h ⟨[],rfl,.p (.agg' (.cons (.refl _) (.cons (.refl _) (.cons (.refl _) (.cons (.refl _) (.cons (.not) (.cons (.not) (.cons (.not) (.nil))))))))),.refl _,rfl⟩
    ·refine Qau _ _ h (fun x3 hy=>((Qa0 [102,97,108,115,101] h0_0 x2.2 x3 hy).fr [0] [] rfl rfl rfl)) (fun x3 hy h=>?_)
     refine Qaf h (fun hb h=>?_) (fun hb h=>?_)
     ·refine Exists.intro _ (And.intro (Le.refl _ _ _) ?_)
      exact Qda (t:=Qbc) (ss:=fun(o:Qaa×Int)=>⟨[[.p (.sl false (h0_0.map Qae)),.p (iV o.2)]],[]⟩) h ⟨[],rfl,.p (.agg' (.cons (.refl _) (.cons (.refl _) (.cons (.refl _) (.cons (.refl _) (.cons (.not) (.cons (.not) (.cons (.not) (.nil))))))))),.refl _,rfl⟩
     ·refine Qau _ _ h (fun x4 hy=>((Qa0 [115,101,99,114,101,116] h0_0 x3.2 x4 hy).fr [0] [] rfl rfl rfl)) (fun x4 hy h=>?_)
      refine Qaf h (fun hb h=>?_) (fun hb h=>?_)
      ·refine xle ?_
       refine Qa3 _ _ _ h (fun x5 hy=>(Qai 8 h0_0 x4.2 (.inl x5) hy).a.fr [0] [] rfl rfl rfl) (fun z7 hy=>(Qai 8 h0_0 x4.2 (.inr z7) hy).b.fr [0] [] rfl rfl rfl) (fun x5 hy h=>?_) (fun z7 hy h=>?_)
       ·refine xle ?_
        refine Qau _ _ h (fun x8 hy=>((Qbp h0_0 x5.2 x8 hy).fr [0] [] rfl rfl rfl)) (fun x8 hy h=>?_)
        refine Qaj [sV x8.Text] Qim h (fun x9 hy=>(Qoa x8.Text x9 hy)) (fun x9 hy h=>?_)
        refine Qa3 _ _ _ h (fun x10 hy=>(Qaz x9 h0_0 x5.2 (.inl x10) hy).a.fr [0] [] rfl rfl rfl) (fun z12 hy=>(Qaz x9 h0_0 x5.2 (.inr z12) hy).b.fr [0] [] rfl rfl rfl) (fun x10 hy h=>?_) (fun z12 hy h=>?_)
        ·refine xle ?_
         refine Qa3 _ _ _ h (fun x13 hy=>(Qai 5 h0_0 x5.2 (.inl x13) hy).a.fr [0] [] rfl rfl rfl) (fun z15 hy=>(Qai 5 h0_0 x5.2 (.inr z15) hy).b.fr [0] [] rfl rfl rfl) (fun x13 hy h=>?_) (fun z15 hy h=>?_)
         ·refine xle ?_
          refine Qa3 _ _ _ h (fun x16 hy=>(Qai 9 h0_0 x13.2 (.inl x16) hy).a.fr [0] [] rfl rfl rfl) (fun z18 hy=>(Qai 9 h0_0 x13.2 (.inr z18) hy).b.fr [0] [] rfl rfl rfl) (fun x16 hy h=>?_) (fun z18 hy h=>?_)
          ·refine Exists.intro _ (And.intro (Le.refl _ _ _) ?_)
           exact Qda (t:=Qbc) (ss:=fun(o:Qaa×Int)=>⟨[[.p (.sl false (h0_0.map Qae)),.p (iV o.2)]],[]⟩) h ⟨[],rfl,.p (.agg' (.cons (.refl _) (.cons (.refl _) (.cons (.refl _) (.cons (.refl _) (.cons (.not) (.cons (.not) (.cons (.not) (.nil))))))))),.refl _,rfl⟩
          ·refine xle ?_
           exact Qbu (sp:=fun(o:Int)=>⟨[[.p (.sl false (h0_0.map Qae)),.p (iV o)]],[]⟩) h ⟨[],rfl,.refl _,.refl _,rfl⟩
         ·refine xle ?_
          exact Qbu (sp:=fun(o:Int)=>⟨[[.p (.sl false (h0_0.map Qae)),.p (iV o)]],[]⟩) h ⟨[],rfl,.refl _,.refl _,rfl⟩
        ·refine xle ?_
         exact Qbu (sp:=fun(o:Int)=>⟨[[.p (.sl false (h0_0.map Qae)),.p (iV o)]],[]⟩) h ⟨[],rfl,.refl _,.refl _,rfl⟩
       ·refine xle ?_
        exact Qbu (sp:=fun(o:Int)=>⟨[[.p (.sl false (h0_0.map Qae)),.p (iV o)]],[]⟩) h ⟨[],rfl,.refl _,.refl _,rfl⟩
      ·refine xle ?_
       refine Qa3 _ _ _ h (fun x19 hy=>(Qbe h0_0 x4.2 (.inl x19) hy).a.fr [0] [] rfl rfl rfl) (fun z21 hy=>(Qbe h0_0 x4.2 (.inr z21) hy).b.fr [0] [] rfl rfl rfl) (fun x19 hy h=>?_) (fun z21 hy h=>?_)
       ·refine Qau _ _ h (fun x22 hy=>((Qb2 8 h0_0 x19.2 x22 hy).fr [0] [] rfl rfl rfl)) (fun x22 hy h=>?_)
        refine Qaf h (fun hb h=>?_) (fun hb h=>?_)
        ·refine xle ?_
         refine Qa3 _ _ _ h (fun x23 hy=>(iQdh x22.2 (.inl x23) hy).a.fr [0] [] rfl rfl rfl) (fun z25 hy=>(iQdh x22.2 (.inr z25) hy).b.fr [0] [] rfl rfl rfl) (fun x23 hy h=>?_) (fun z25 hy h=>?_)
         ·refine Exists.intro _ (And.intro (Le.refl _ _ _) ?_)
          exact Qda (t:=Qbc) (ss:=fun(o:Qaa×Int)=>⟨[[.p (.sl false (h0_0.map Qae)),.p (iV o.2)]],[]⟩) h ⟨[],rfl,.p (.agg' (.cons (.refl _) (.cons (.refl _) (.cons (.refl _) (.cons (.refl _) (.cons (.refl _) (.cons (.not) (.cons (.not) (.nil))))))))),.refl _,rfl⟩
         ·refine xle ?_
          exact Qbu (sp:=fun(o:Int)=>⟨[[.p (.sl false (h0_0.map Qae)),.p (iV o)]],[]⟩) h ⟨[],rfl,.refl _,.refl _,rfl⟩
        ·refine Exists.intro _ (And.intro (Le.refl _ _ _) ?_)
         exact Qda (t:=Qbc) (ss:=fun(o:Qaa×Int)=>⟨[[.p (.sl false (h0_0.map Qae)),.p (iV o.2)]],[]⟩) h ⟨[],rfl,.p (.agg' (.cons (.refl _) (.cons (.refl _) (.cons (.refl _) (.cons (.refl _) (.cons (.not) (.cons (.not) (.cons (.not) (.nil))))))))),.refl _,rfl⟩
       ·refine xle ?_
        exact Qbu (sp:=fun(o:Int)=>⟨[[.p (.sl false (h0_0.map Qae)),.p (iV o)]],[]⟩) h ⟨[],rfl,.refl _,.refl _,rfl⟩
theorem Qie:∀ (h0_0:(List Qab)) (h0_1:Int) (o:(Qaa×Int)⊕(Int)),Qbz h0_0 h0_1=some o→CallS Tryd.prog 145 [.ptr 0 0] ⟨[[.p (.sl false (h0_0.map Qae)),.p (iV h0_1)]],[]⟩ Qfl (fun(o:Qaa×Int)=>⟨[[.p (.sl false (h0_0.map Qae)),.p (iV o.2)]],[]⟩) (fun(o:Int)=>⟨[[.p (.sl false (h0_0.map Qae)),.p (iV o)]],[]⟩) o:=fun h0_0 h0_1=>(Qmm h0_0).2.2.1 h0_1
noncomputable def Qa9 (h0_0:(List Qab)) (h0_1:Int):Option (((List Qaa)×Int)⊕(Int)) :=
 Qbz h0_0 h0_1>>=fun o2 =>
 match o2 with
 | .inl x1 =>
  Qam 3 h0_0 x1.2>>=fun o5 =>
  match o5 with
  | .inl x4 =>
   some (.inl ([x1.1],x4.2))
  | .inr z6 =>
   some (.inr x1.2)
 | .inr z3 =>
  some (.inr z3)
theorem Qax:∀ (h0_0:(List Qab)) (h0_1:Int) (o:((List Qaa)×Int)⊕(Int)),Qa9 h0_0 h0_1=some o→CallS Tryd.prog 114 [.ptr 0 0] ⟨[[.p (.sl false (h0_0.map Qae)),.p (iV h0_1)]],[]⟩ Qhv (fun(o:(List Qaa)×Int)=>⟨[[.p (.sl false (h0_0.map Qae)),.p (iV o.2)]],[]⟩) (fun(o:Int)=>⟨[[.p (.sl false (h0_0.map Qae)),.p (iV o)]],[]⟩) o:=by
 intro h0_0 h0_1 o h
 unfold Qa9 at h
 refine CallS.ofB mixed tbOk Qlm Tryd.func114 rfl (by kernel_rfl) (Nat.le_of_ble_eq_true rfl) (fun _=>rfl) (fun _=>rfl) (fun _=>rfl) (fun _=>rfl) (fun _=>rfl) ?_
 refine xle ?_
 refine Qa3 _ _ _ h (fun x1 hy=>(Qie h0_0 h0_1 (.inl x1) hy).a.fr [0] [] rfl rfl rfl) (fun z3 hy=>(Qie h0_0 h0_1 (.inr z3) hy).b.fr [0] [] rfl rfl rfl) (fun x1 hy h=>?_) (fun z3 hy h=>?_)
 ·refine xle ?_
  refine Qa3 _ _ _ h (fun x4 hy=>(Qai 3 h0_0 x1.2 (.inl x4) hy).a.fr [0] [] rfl rfl rfl) (fun z6 hy=>(Qai 3 h0_0 x1.2 (.inr z6) hy).b.fr [0] [] rfl rfl rfl) (fun x4 hy h=>?_) (fun z6 hy h=>?_)
  ·refine Exists.intro _ (And.intro (Le.refl _ _ _) ?_)
   exact Qda (t:=Qhv) (ss:=fun(o:(List Qaa)×Int)=>⟨[[.p (.sl false (h0_0.map Qae)),.p (iV o.2)]],[]⟩) h ⟨[],rfl,.p (.no (.cons (.ceq (Qah _) (.refl _)) (.nil))),.refl _,rfl⟩
  ·refine xle ?_
   exact Qbu (sp:=fun(o:Int)=>⟨[[.p (.sl false (h0_0.map Qae)),.p (iV o)]],[]⟩) h ⟨[],rfl,.refl _,.refl _,rfl⟩
 ·refine xle ?_
  exact Qbu (sp:=fun(o:Int)=>⟨[[.p (.sl false (h0_0.map Qae)),.p (iV o)]],[]⟩) h ⟨[],rfl,.refl _,.refl _,rfl⟩
mutual
noncomputable def Qaw (p1:Bool) (p2:Bool) (h0_0:(List Qab)) (h0_1:Int):Option (((List Qaa)×Int×Int)⊕(Int)) :=
 (Qdw p1 p2 h0_0 h0_1 ())>>=fun o1 =>
 match o1 with
 | .inl y2 =>
  some (.inl (y2.1,y2.2.1,y2.2.2))
 | .inr y3 =>
  some (.inr y3)
 partial_fixpoint
noncomputable def Qdw (p1:Bool) (p2:Bool) (h0_0:(List Qab)) (h0_1:Int) (w0:Unit):Option (((List Qaa)×Int×Int)⊕Int) :=
 (Qap p1 p2 h0_0 [] h0_1)>>=fun o4 =>
 match o4 with
 | .inl y5 =>
  Qas (!p1) h0_0 y5.2>>=fun o34 =>
  match o34 with
  | .inl x33 =>
   some (.inl (y5.1,2,y5.2))
  | .inr z35 =>
   some (.inr y5.2)
 | .inr (.inl y6) =>
  some (.inl (y6.1,y6.2.1,y6.2.2))
 | .inr (.inr y7) =>
  some (.inr y7)
 partial_fixpoint
noncomputable def Qap (p1:Bool) (p2:Bool) (h0_0:(List Qab)) (v8:(List Qaa)) (h0_1_:Int):Option (((List Qaa)×Int)⊕((List Qaa)×Int×Int)⊕Int) :=
 if(decide (h0_1_<(h0_0.length:Int))) then
  Qa2 h0_0 h0_1_>>=fun x8 =>
  Qbb 1 h0_0 h0_1_>>=fun x9 =>
  if x9.1 then
   ( if(decide ((wr ((v8.length:Int)-1)) ≥ 0)) then
     idx v8 (wr ((v8.length:Int)-1))>>=fun x11 =>
     some (x11.Kind==8)
    else
     some false:Option (Bool))>>=fun o10 =>
   if o10 then
    idx v8 (wr ((v8.length:Int)-1))>>=fun x12 =>
    need (x12.Text.length+x8.Text.length≤9223372036854775807)>>=fun _ =>
    idx v8 (wr ((v8.length:Int)-1))>>=fun x13 =>
    Qap p1 p2 h0_0 (v8.set ((wr ((v8.length:Int)-1)).toNat) (Qaa.mk x13.Kind x13.Name (x12.Text++x8.Text) x13.N x13.L x13.Then x13.Else)) x9.2
   else
    appL 120 v8 ([(Qaa.mk 8 [] x8.Text 0 [] [] [])])>>=fun x14 =>
    Qap p1 p2 h0_0 x14 x9.2
  else
   Qam 2 h0_0 x9.2>>=fun o16 =>
   match o16 with
   | .inl x15 =>
    Qbb 3 h0_0 x15.2>>=fun x18 =>
    if x18.1 then
     Qap p1 p2 h0_0 v8 x18.2
    else
     ( if p1 then
       Qan [101,110,100] h0_0 x18.2>>=fun x20 =>
       some (x20.1,x20.2)
      else
       some (false,x18.2):Option ((Bool×Int)))>>=fun o19 =>
     if o19.1 then
      Qam 3 h0_0 o19.2>>=fun o22 =>
      match o22 with
      | .inl x21 =>
       some (.inr (.inl (v8,0,x21.2)))
      | .inr z23 =>
       some (.inr (.inr o19.2))
     else
      ( if p2 then
        Qan [101,108,115,101] h0_0 o19.2>>=fun x25 =>
        some (x25.1,x25.2)
       else
        some (false,o19.2):Option ((Bool×Int)))>>=fun o24 =>
      if o24.1 then
       Qam 3 h0_0 o24.2>>=fun o27 =>
       match o27 with
       | .inl x26 =>
        some (.inr (.inl (v8,1,x26.2)))
       | .inr z28 =>
        some (.inr (.inr o24.2))
      else
       Qe0 h0_0 o24.2>>=fun o30 =>
       match o30 with
       | .inl x29 =>
        appL 120 v8 [x29.1]>>=fun x32 =>
        Qap p1 p2 h0_0 x32 x29.2
       | .inr z31 =>
        some (.inr (.inr z31))
   | .inr z17 =>
    some (.inr (.inr x9.2))
 else
  some (.inl (v8,h0_1_))
 partial_fixpoint
noncomputable def Qe0 (h0_0:(List Qab)) (h0_1:Int):Option ((Qaa×Int)⊕(Int)) :=
 Qan [105,102] h0_0 h0_1>>=fun x1 =>
 if x1.1 then
  Qa9 h0_0 x1.2>>=fun o3 =>
  match o3 with
  | .inl x2 =>
   Qaw true true h0_0 x2.2>>=fun o6 =>
   match o6 with
   | .inl x5 =>
    if(x5.2.1==1) then
     Qaw true false h0_0 x5.2.2>>=fun o9 =>
     match o9 with
     | .inl x8 =>
      some (.inl ((Qaa.mk 10 [] [] 0 x2.1 x5.1 x8.1),x8.2.2))
     | .inr z10 =>
      some (.inr z10)
    else
     some (.inl ((Qaa.mk 10 [] [] 0 x2.1 x5.1 []),x5.2.2))
   | .inr z7 =>
    some (.inr z7)
  | .inr z4 =>
   some (.inr z4)
 else
  Qan [101,97,99,104] h0_0 x1.2>>=fun x11 =>
  if x11.1 then
   Qby h0_0 x11.2>>=fun o13 =>
   match o13 with
   | .inl x12 =>
    Qan [105,110] h0_0 x12.2>>=fun x15 =>
    Qas x15.1 h0_0 x15.2>>=fun o17 =>
    match o17 with
    | .inl x16 =>
     Qa9 h0_0 x15.2>>=fun o20 =>
     match o20 with
     | .inl x19 =>
      Qaw true false h0_0 x19.2>>=fun o23 =>
      match o23 with
      | .inl x22 =>
       some (.inl ((Qaa.mk 11 x12.1 [] 0 x19.1 x22.1 []),x22.2.2))
      | .inr z24 =>
       some (.inr z24)
     | .inr z21 =>
      some (.inr z21)
    | .inr z18 =>
     some (.inr x15.2)
   | .inr z14 =>
    some (.inr x11.2)
  else
   Qan [108,101,116] h0_0 x11.2>>=fun x25 =>
   if x25.1 then
    Qby h0_0 x25.2>>=fun o27 =>
    match o27 with
    | .inl x26 =>
     Qam 11 h0_0 x26.2>>=fun o30 =>
     match o30 with
     | .inl x29 =>
      Qa9 h0_0 x29.2>>=fun o33 =>
      match o33 with
      | .inl x32 =>
       Qaw true false h0_0 x32.2>>=fun o36 =>
       match o36 with
       | .inl x35 =>
        some (.inl ((Qaa.mk 12 x26.1 [] 0 x32.1 x35.1 []),x35.2.2))
       | .inr z37 =>
        some (.inr z37)
      | .inr z34 =>
       some (.inr z34)
     | .inr z31 =>
      some (.inr x26.2)
    | .inr z28 =>
     some (.inr x25.2)
   else
    Qan [117,115,101] h0_0 x25.2>>=fun x38 =>
    if x38.1 then
     Qby h0_0 x38.2>>=fun o40 =>
     match o40 with
     | .inl x39 =>
      Qa9 h0_0 x39.2>>=fun o43 =>
      match o43 with
      | .inl x42 =>
       some (.inl ((Qaa.mk 13 x39.1 [] 0 x42.1 [] []),x42.2))
      | .inr z44 =>
       some (.inr z44)
     | .inr z41 =>
      some (.inr x38.2)
    else
     Qa9 h0_0 x38.2>>=fun o46 =>
     match o46 with
     | .inl x45 =>
      some (.inl ((Qaa.mk 9 [] [] 0 x45.1 [] []),x45.2))
     | .inr z47 =>
      some (.inr z47)
 partial_fixpoint
end
theorem Qlr:∀ (h0_0:(List Qab)),(∀ (p1:Bool) (p2:Bool) (h0_1:Int) (o:((List Qaa)×Int×Int)⊕(Int)),Qaw p1 p2 h0_0 h0_1=some o→CallS Tryd.prog 50 [.ptr 0 0,.p (bV p1),.p (bV p2)] ⟨[[.p (.sl false (h0_0.map Qae)),.p (iV h0_1)]],[]⟩ Qe3 (fun(o:(List Qaa)×Int×Int)=>⟨[[.p (.sl false (h0_0.map Qae)),.p (iV o.2.2)]],[]⟩) (fun(o:Int)=>⟨[[.p (.sl false (h0_0.map Qae)),.p (iV o)]],[]⟩) o)∧(∀ (p1:Bool) (p2:Bool) (h0_1:Int) (w0:Unit) (o1:((List Qaa)×Int×Int)⊕Int),Qdw p1 p2 h0_0 h0_1 w0=some o1→TG (1,0) Tryd.prog 87 Qge (behind Qge 0) (JP2 (1,0) 87 o1 .ret (Qfz p1 p2 h0_0 h0_1) (.panic panCH) (Qf0 p1 p2 h0_0 h0_1)) (Qe1 p1 p2 h0_0 h0_1 w0))∧(∀ (p1:Bool) (p2:Bool) (v8:(List Qaa)) (h0_1_:Int) (o4:((List Qaa)×Int)⊕((List Qaa)×Int×Int)⊕Int),Qap p1 p2 h0_0 v8 h0_1_=some o4→TL (1,0) Tryd.prog 87 Qk1 (JP3 (1,0) 87 o4 (.exit 0) (Qfw p1 p2 h0_0) .ret (Qfx p1 p2 h0_0) (.panic panCH) (Qfy p1 p2 h0_0)) (Qbh p1 p2 h0_0 v8 h0_1_))∧(∀ (h0_1:Int) (o:(Qaa×Int)⊕(Int)),Qe0 h0_0 h0_1=some o→CallS Tryd.prog 84 [.ptr 0 0] ⟨[[.p (.sl false (h0_0.map Qae)),.p (iV h0_1)]],[]⟩ Qbw (fun(o:Qaa×Int)=>⟨[[.p (.sl false (h0_0.map Qae)),.p (iV o.2)]],[]⟩) (fun(o:Int)=>⟨[[.p (.sl false (h0_0.map Qae)),.p (iV o)]],[]⟩) o):=by
 intro h0_0
 refine Qaw.mutual_partial_correctness h0_0 _ _ _ _ ?_ ?_ ?_ ?_
 ·intro Qdw' iQdw p1 p2 h0_1 o h
  refine CallS.ofB mixed tbOk Qbj Tryd.func50 rfl (by kernel_rfl) (Nat.le_of_ble_eq_true rfl) (fun _=>rfl) (fun _=>rfl) (fun _=>rfl) (fun _=>rfl) (fun _=>rfl) ?_
  refine Qag h (fun o1 ho hk=>?_)
  refine Exists.intro (JP2 _ _ o1 .ret (Qfz p1 p2 h0_0 h0_1) (.panic panCH) (Qf0 p1 p2 h0_0 h0_1)) (And.intro (TG.scope ?_) (join2 (fun y2 hy=>?_) (fun y3 hy=>?_)))
  ·have h:=ho
   refine TG.seqb mixed tbOk (lv:=Qbj) ?_
   refine TG.label (TG.le (τ := Qe1 p1 p2 h0_0 h0_1 ()) ?_ ((iQdw p1 p2 h0_1 () _ h)))
   exact Le.tz 1 0 rfl rfl rfl
  ·have h:=(by rw[hy] at hk; exact hk)
   refine Exists.intro _ (And.intro (Le.refl _ _ _) ?_)
   exact Qda (t:=Qe3) (ss:=fun(o:(List Qaa)×Int×Int)=>⟨[[.p (.sl false (h0_0.map Qae)),.p (iV o.2.2)]],[]⟩) h ⟨[],rfl,.refl _,.refl _,rfl⟩
  ·have h:=(by rw[hy] at hk; exact hk)
   refine xle ?_
   exact Qbu (sp:=fun(o:Int)=>⟨[[.p (.sl false (h0_0.map Qae)),.p (iV o)]],[]⟩) h ⟨[],rfl,.refl _,.refl _,rfl⟩
 ·intro Qap' iQap p1 p2 h0_1 w0 o1 h
  refine TG.seqb mixed tbOk (lv:=Qbj) ?_
  refine Qag h (fun o4 ho hk=>?_)
  refine Exists.intro (JP3 _ _ o4 (.exit 0) (Qfw p1 p2 h0_0) .ret (Qfx p1 p2 h0_0) (.panic panCH) (Qfy p1 p2 h0_0)) (And.intro (T_le (τ := Qbh p1 p2 h0_0 [] h0_1) ?_ (TL.loop (iQap p1 p2 [] h0_1 o4 ho))) (join3 (fun y5 hy=>?_) (fun y6 hy=>?_) (fun y7 hy=>?_)))
  ·exact(Le.xnil (.s 8) 71 7 rfl).trans (Le.tz 1 1 rfl rfl rfl)
  ·have h:=(by rw[hy] at hk; exact hk)
   refine TG.seqb mixed tbOk (lv:=Qbj) ?_
   refine xle ?_
   refine Qa3 _ _ _ h (fun x33 hy=>(Qaz (!p1) h0_0 y5.2 (.inl x33) hy).a.fr [0] [] rfl rfl rfl) (fun z35 hy=>(Qaz (!p1) h0_0 y5.2 (.inr z35) hy).b.fr [0] [] rfl rfl rfl) (fun x33 hy h=>?_) (fun z35 hy h=>?_)
   ·refine TG.seqb mixed tbOk (lv:=Qbj) ?_
    refine Exists.intro _ (And.intro (Le.frzv (.s 8) 0 1 rfl rfl rfl rfl) ?_)
    refine TG.lastb mixed tbOk (lv:=Qbj) ?_
    refine JP2.a h ?_
    exact Le.tz 1 1 rfl rfl rfl
   ·refine JP2.b h ?_
    exact Le.tz 1 1 rfl rfl rfl
  ·have h:=(by rw[hy] at hk; exact hk)
   refine JP2.a h ?_
   exact Le.tz 1 1 rfl rfl rfl
  ·have h:=(by rw[hy] at hk; exact hk)
   refine JP2.b h ?_
   exact Le.tz 1 1 rfl rfl rfl
 ·intro Qap' Qe0' iQap iQe0 p1 p2 v8 h0_1_ o4 h
  refine TL.round (Qak mixed tbOk (lv:=Qbj) _ _ _ ?_)
  refine And.intro (by decide +kernel) (And.intro rfl ?_)
  refine view (lenMap _ _) rfl ?_
  refine Qaf h (fun hb h=>?_) (fun hb h=>?_)
  ·refine And.intro rfl (Exists.intro _ (And.intro (List.length_map _) ?_))
   refine Qau _ _ h (fun x8 hy=>((Qbp h0_0 h0_1_ x8 hy).fr [0] [] rfl rfl rfl)) (fun x8 hy h=>?_)
   refine Qau _ _ h (fun x9 hy=>((Qb2 1 h0_0 h0_1_ x9 hy).fr [0] [] rfl rfl rfl)) (fun x9 hy h=>?_)
   refine Qaf h (fun hb h=>?_) (fun hb h=>?_)
   ·refine Qag h (fun o10 ho hk=>?_)
    refine Exists.intro (JP1 _ _ o10 .normal (Qky p1 p2 h0_0 v8 x8 x9)) (And.intro ?_ (join1 ?_))
    ·have h:=ho
     refine Qaf h (fun hb h=>?_) (fun hb h=>?_)
     ·refine Qzr (l:=v8) (c:=Qac) (c' := Qat) h rfl Qah (fun _=>rfl) (by decide) (fun x11 hi h=>?_)
      refine And.intro rfl ?_
      refine And.intro rfl (And.intro (Nat.le_of_ble_eq_true rfl) ?_)
      refine JP1.a h ?_
      exact Le.tz 2 1 rfl rfl rfl
     ·refine JP1.a h ?_
      exact Le.tz 2 1 rfl rfl rfl
    ·have h:=hk
     refine Qaf h (fun hb h=>?_) (fun hb h=>?_)
     ·refine And.intro (by decide +kernel) (And.intro (by decide +kernel) (And.intro rfl ?_))
      refine And.intro rfl ?_
      refine Qzr (l:=v8) (c:=Qac) (c' := Qat) h rfl Qah (fun _=>rfl) (by decide) (fun x12 hi h=>?_)
      refine And.intro rfl ?_
      refine And.intro rfl ?_
      refine And.intro rfl ?_
      refine And.intro rfl (And.intro (Nat.le_of_ble_eq_true rfl) ?_)
      refine Qa1 h (fun h=>?_)
      refine Qzr (l:=v8) (c:=Qac) (c' := Qat) h rfl Qah (fun _=>rfl) (by decide) (fun x13 hi h=>?_)
      refine And.intro rfl ?_
      refine And.intro rfl (And.intro (Nat.le_of_ble_eq_true rfl) (And.intro rfl (And.intro rfl (Exists.intro ((v8.set ((wr ((v8.length:Int)-1)).toNat) (Qaa.mk x13.Kind x13.Name (x12.Text++x8.Text) x13.N x13.L x13.Then x13.Else)).map Qac) (And.intro (setMap (.ceq (Qah _) (.refl _))) ?_)))))
      refine TL.le (τ := Qbh p1 p2 h0_0 (v8.set ((wr ((v8.length:Int)-1)).toNat) (Qaa.mk x13.Kind x13.Name (x12.Text++x8.Text) x13.N x13.L x13.Then x13.Else)) x9.2) ?_ ((iQap p1 p2 (v8.set ((wr ((v8.length:Int)-1)).toNat) (Qaa.mk x13.Kind x13.Name (x12.Text++x8.Text) x13.N x13.L x13.Then x13.Else)) x9.2 _ h))
      exact Le.trans (τ := ⟨[(0,.ptr 0 0),(1,.p (bV p1)),(2,.p (bV p2)),(8,.x 0 2 (.sl 71 7 ((v8.set ((wr ((v8.length:Int)-1)).toNat) (Qaa.mk x13.Kind x13.Name (x12.Text++x8.Text) x13.N x13.L x13.Then x13.Else)).map Qac)))],⟨[[.p (.sl false (h0_0.map Qae)),.p (iV x9.2)],[.p (iV x8.Kind),.p (sV x8.Text),.p (iV x8.N),.p (iV x8.From),.p (iV x8.To)]],[2]⟩⟩) (Le.tz 2 1 rfl rfl rfl) ((Le.ver (.s 8) 0 2 1 rfl rfl rfl rfl).trans (Le.tz 1 1 rfl rfl rfl))
     ·refine Q3v (a:=v8) (b:=[(Qaa.mk 8 [] x8.Text 0 [] [] [])]) (c:=Qac) h (.cons (.ceq (Qah _) (.cons (.refl _) (.cons (.refl _) (.cons (.refl _) (.cons (.refl _) (.cons (.not) (.cons (.not) (.cons (.not) (.nil))))))))) (.nil)) (fun x=>by rw[Qah]; rfl) rfl (fun x14 hi h=>?_)
      refine TL.le (τ := Qbh p1 p2 h0_0 x14 x9.2) ?_ ((iQap p1 p2 x14 x9.2 _ h))
      exact Le.trans (τ := ⟨[(0,.ptr 0 0),(1,.p (bV p1)),(2,.p (bV p2)),(8,.x 0 2 (.sl 71 7 (x14.map Qac)))],⟨[[.p (.sl false (h0_0.map Qae)),.p (iV x9.2)],[.p (iV x8.Kind),.p (sV x8.Text),.p (iV x8.N),.p (iV x8.From),.p (iV x8.To)]],[2]⟩⟩) (Le.tz 2 1 rfl rfl rfl) ((Le.ver (.s 8) 0 2 1 rfl rfl rfl rfl).trans (Le.tz 1 1 rfl rfl rfl))
   ·refine xle ?_
    refine Qa3 _ _ _ h (fun x15 hy=>(Qai 2 h0_0 x9.2 (.inl x15) hy).a.fr [0] [] rfl rfl rfl) (fun z17 hy=>(Qai 2 h0_0 x9.2 (.inr z17) hy).b.fr [0] [] rfl rfl rfl) (fun x15 hy h=>?_) (fun z17 hy h=>?_)
    ·refine Qau _ _ h (fun x18 hy=>((Qb2 3 h0_0 x15.2 x18 hy).fr [0] [] rfl rfl rfl)) (fun x18 hy h=>?_)
     refine Qaf h (fun hb h=>?_) (fun hb h=>?_)
     ·refine TL.le (τ := Qbh p1 p2 h0_0 v8 x18.2) ?_ ((iQap p1 p2 v8 x18.2 _ h))
      exact Le.tz 1 1 rfl rfl rfl
     ·refine Qag h (fun o19 ho hk=>?_)
      refine Exists.intro (JP1 _ _ o19 .normal (Qkz p1 p2 h0_0 v8 x8)) (And.intro ?_ (join1 ?_))
      ·have h:=ho
       refine Qaf h (fun hb h=>?_) (fun hb h=>?_)
       ·refine Qau _ _ h (fun x20 hy=>((Qa0 [101,110,100] h0_0 x18.2 x20 hy).fr [0] [] rfl rfl rfl)) (fun x20 hy h=>?_)
        refine JP1.a h ?_
        exact Le.tz 2 1 rfl rfl rfl
       ·refine JP1.a h ?_
        exact Le.tz 2 1 rfl rfl rfl
      ·have h:=hk
       refine Qaf h (fun hb h=>?_) (fun hb h=>?_)
       ·refine xle ?_
        refine Qa3 _ _ _ h (fun x21 hy=>(Qai 3 h0_0 o19.2 (.inl x21) hy).a.fr [0] [] rfl rfl rfl) (fun z23 hy=>(Qai 3 h0_0 o19.2 (.inr z23) hy).b.fr [0] [] rfl rfl rfl) (fun x21 hy h=>?_) (fun z23 hy h=>?_)
        ·refine Exists.intro _ (And.intro (Le.frzv (.s 8) 0 1 rfl rfl rfl rfl) ?_)
         exact JP3.b h (Le.tz 1 1 rfl rfl rfl)
        ·exact JP3.c h (Le.tz 1 1 rfl rfl rfl)
       ·refine Qag h (fun o24 ho hk=>?_)
        refine Exists.intro (JP1 _ _ o24 .normal (Qk0 p1 p2 h0_0 v8 x8)) (And.intro ?_ (join1 ?_))
        ·have h:=ho
         refine Qaf h (fun hb h=>?_) (fun hb h=>?_)
         ·refine Qau _ _ h (fun x25 hy=>((Qa0 [101,108,115,101] h0_0 o19.2 x25 hy).fr [0] [] rfl rfl rfl)) (fun x25 hy h=>?_)
          refine JP1.a h ?_
          exact Le.tz 2 1 rfl rfl rfl
         ·refine JP1.a h ?_
          exact Le.tz 2 1 rfl rfl rfl
        ·have h:=hk
         refine Qaf h (fun hb h=>?_) (fun hb h=>?_)
         ·refine xle ?_
          refine Qa3 _ _ _ h (fun x26 hy=>(Qai 3 h0_0 o24.2 (.inl x26) hy).a.fr [0] [] rfl rfl rfl) (fun z28 hy=>(Qai 3 h0_0 o24.2 (.inr z28) hy).b.fr [0] [] rfl rfl rfl) (fun x26 hy h=>?_) (fun z28 hy h=>?_)
          ·refine Exists.intro _ (And.intro (Le.frzv (.s 8) 0 1 rfl rfl rfl rfl) ?_)
           exact JP3.b h (Le.tz 1 1 rfl rfl rfl)
          ·exact JP3.c h (Le.tz 1 1 rfl rfl rfl)
         ·refine xle ?_
          refine Qa3 _ _ _ h (fun x29 hy=>(iQe0 o24.2 (.inl x29) hy).a.fr [0] [] rfl rfl rfl) (fun z31 hy=>(iQe0 o24.2 (.inr z31) hy).b.fr [0] [] rfl rfl rfl) (fun x29 hy h=>?_) (fun z31 hy h=>?_)
          ·refine Q3v (a:=v8) (b:=[x29.1]) (c:=Qac) h (.cons (.ceq (Qah _) (.refl _)) (.nil)) (fun x=>by rw[Qah]; rfl) rfl (fun x32 hi h=>?_)
           refine TL.le (τ := Qbh p1 p2 h0_0 x32 x29.2) ?_ ((iQap p1 p2 x32 x29.2 _ h))
           exact Le.trans (τ := ⟨[(0,.ptr 0 0),(1,.p (bV p1)),(2,.p (bV p2)),(8,.x 0 2 (.sl 71 7 (x32.map Qac)))],⟨[[.p (.sl false (h0_0.map Qae)),.p (iV x29.2)],[.p (iV x8.Kind),.p (sV x8.Text),.p (iV x8.N),.p (iV x8.From),.p (iV x8.To)]],[2]⟩⟩) (Le.tz 2 1 rfl rfl rfl) ((Le.ver (.s 8) 0 2 1 rfl rfl rfl rfl).trans (Le.tz 1 1 rfl rfl rfl))
          ·exact JP3.c h (Le.tz 1 1 rfl rfl rfl)
    ·exact JP3.c h (Le.tz 1 1 rfl rfl rfl)
  ·exact JP3.a h (Le.tz 1 1 rfl rfl rfl)
 ·intro Qaw' iQaw h0_1 o h
  refine CallS.ofB mixed tbOk Qni Tryd.func84 rfl (by kernel_rfl) (Nat.le_of_ble_eq_true rfl) (fun _=>rfl) (fun _=>rfl) (fun _=>rfl) (fun _=>rfl) (fun _=>rfl) ?_
  refine Qau _ _ h (fun x1 hy=>((Qa0 [105,102] h0_0 h0_1 x1 hy).fr [0] [] rfl rfl rfl)) (fun x1 hy h=>?_)
  refine Qaf h (fun hb h=>?_) (fun hb h=>?_)
  ·refine xle ?_
   refine Qa3 _ _ _ h (fun x2 hy=>(Qax h0_0 x1.2 (.inl x2) hy).a.fr [0] [] rfl rfl rfl) (fun z4 hy=>(Qax h0_0 x1.2 (.inr z4) hy).b.fr [0] [] rfl rfl rfl) (fun x2 hy h=>?_) (fun z4 hy h=>?_)
   ·refine xle ?_
    refine Qa3 _ _ _ h (fun x5 hy=>(iQaw true true x2.2 (.inl x5) hy).a.fr [0] [] rfl rfl rfl) (fun z7 hy=>(iQaw true true x2.2 (.inr z7) hy).b.fr [0] [] rfl rfl rfl) (fun x5 hy h=>?_) (fun z7 hy h=>?_)
    ·refine Qaf h (fun hb h=>?_) (fun hb h=>?_)
     ·refine xle ?_
      refine Qa3 _ _ _ h (fun x8 hy=>(iQaw true false x5.2.2 (.inl x8) hy).a.fr [0] [] rfl rfl rfl) (fun z10 hy=>(iQaw true false x5.2.2 (.inr z10) hy).b.fr [0] [] rfl rfl rfl) (fun x8 hy h=>?_) (fun z10 hy h=>?_)
      ·refine Exists.intro _ (And.intro (Le.refl _ _ _) ?_)
       exact Qda (t:=Qbw) (ss:=fun(o:Qaa×Int)=>⟨[[.p (.sl false (h0_0.map Qae)),.p (iV o.2)]],[]⟩) h ⟨[],rfl,.refl _,.refl _,rfl⟩
      ·refine xle ?_
       exact Qbu (sp:=fun(o:Int)=>⟨[[.p (.sl false (h0_0.map Qae)),.p (iV o)]],[]⟩) h ⟨[],rfl,.refl _,.refl _,rfl⟩
     ·refine Exists.intro _ (And.intro (Le.refl _ _ _) ?_)
      exact Qda (t:=Qbw) (ss:=fun(o:Qaa×Int)=>⟨[[.p (.sl false (h0_0.map Qae)),.p (iV o.2)]],[]⟩) h ⟨[],rfl,.p (.agg' (.cons (.refl _) (.cons (.refl _) (.cons (.refl _) (.cons (.refl _) (.cons (.refl _) (.cons (.refl _) (.cons (.not) (.nil))))))))),.refl _,rfl⟩
    ·refine xle ?_
     exact Qbu (sp:=fun(o:Int)=>⟨[[.p (.sl false (h0_0.map Qae)),.p (iV o)]],[]⟩) h ⟨[],rfl,.refl _,.refl _,rfl⟩
   ·refine xle ?_
    exact Qbu (sp:=fun(o:Int)=>⟨[[.p (.sl false (h0_0.map Qae)),.p (iV o)]],[]⟩) h ⟨[],rfl,.refl _,.refl _,rfl⟩
  ·refine Qau _ _ h (fun x11 hy=>((Qa0 [101,97,99,104] h0_0 x1.2 x11 hy).fr [0] [] rfl rfl rfl)) (fun x11 hy h=>?_)
   refine Qaf h (fun hb h=>?_) (fun hb h=>?_)
   ·refine xle ?_
    refine Qa3 _ _ _ h (fun x12 hy=>(Qbe h0_0 x11.2 (.inl x12) hy).a.fr [0] [] rfl rfl rfl) (fun z14 hy=>(Qbe h0_0 x11.2 (.inr z14) hy).b.fr [0] [] rfl rfl rfl) (fun x12 hy h=>?_) (fun z14 hy h=>?_)
    ·refine xle ?_
     refine Qau _ _ h (fun x15 hy=>((Qa0 [105,110] h0_0 x12.2 x15 hy).fr [0] [] rfl rfl rfl)) (fun x15 hy h=>?_)
     refine Qa3 _ _ _ h (fun x16 hy=>(Qaz x15.1 h0_0 x15.2 (.inl x16) hy).a.fr [0] [] rfl rfl rfl) (fun z18 hy=>(Qaz x15.1 h0_0 x15.2 (.inr z18) hy).b.fr [0] [] rfl rfl rfl) (fun x16 hy h=>?_) (fun z18 hy h=>?_)
     ·refine xle ?_
      refine Qa3 _ _ _ h (fun x19 hy=>(Qax h0_0 x15.2 (.inl x19) hy).a.fr [0] [] rfl rfl rfl) (fun z21 hy=>(Qax h0_0 x15.2 (.inr z21) hy).b.fr [0] [] rfl rfl rfl) (fun x19 hy h=>?_) (fun z21 hy h=>?_)
      ·refine xle ?_
       refine Qa3 _ _ _ h (fun x22 hy=>(iQaw true false x19.2 (.inl x22) hy).a.fr [0] [] rfl rfl rfl) (fun z24 hy=>(iQaw true false x19.2 (.inr z24) hy).b.fr [0] [] rfl rfl rfl) (fun x22 hy h=>?_) (fun z24 hy h=>?_)
       ·refine Exists.intro _ (And.intro (Le.refl _ _ _) ?_)
        exact Qda (t:=Qbw) (ss:=fun(o:Qaa×Int)=>⟨[[.p (.sl false (h0_0.map Qae)),.p (iV o.2)]],[]⟩) h ⟨[],rfl,.p (.agg' (.cons (.refl _) (.cons (.refl _) (.cons (.refl _) (.cons (.refl _) (.cons (.refl _) (.cons (.refl _) (.cons (.not) (.nil))))))))),.refl _,rfl⟩
       ·refine xle ?_
        exact Qbu (sp:=fun(o:Int)=>⟨[[.p (.sl false (h0_0.map Qae)),.p (iV o)]],[]⟩) h ⟨[],rfl,.refl _,.refl _,rfl⟩
      ·refine xle ?_
       exact Qbu (sp:=fun(o:Int)=>⟨[[.p (.sl false (h0_0.map Qae)),.p (iV o)]],[]⟩) h ⟨[],rfl,.refl _,.refl _,rfl⟩
     ·refine xle ?_
      exact Qbu (sp:=fun(o:Int)=>⟨[[.p (.sl false (h0_0.map Qae)),.p (iV o)]],[]⟩) h ⟨[],rfl,.refl _,.refl _,rfl⟩
    ·refine xle ?_
     exact Qbu (sp:=fun(o:Int)=>⟨[[.p (.sl false (h0_0.map Qae)),.p (iV o)]],[]⟩) h ⟨[],rfl,.refl _,.refl _,rfl⟩
   ·refine Qau _ _ h (fun x25 hy=>((Qa0 [108,101,116] h0_0 x11.2 x25 hy).fr [0] [] rfl rfl rfl)) (fun x25 hy h=>?_)
    refine Qaf h (fun hb h=>?_) (fun hb h=>?_)
    ·refine xle ?_
     refine Qa3 _ _ _ h (fun x26 hy=>(Qbe h0_0 x25.2 (.inl x26) hy).a.fr [0] [] rfl rfl rfl) (fun z28 hy=>(Qbe h0_0 x25.2 (.inr z28) hy).b.fr [0] [] rfl rfl rfl) (fun x26 hy h=>?_) (fun z28 hy h=>?_)
     ·refine xle ?_
      refine Qa3 _ _ _ h (fun x29 hy=>(Qai 11 h0_0 x26.2 (.inl x29) hy).a.fr [0] [] rfl rfl rfl) (fun z31 hy=>(Qai 11 h0_0 x26.2 (.inr z31) hy).b.fr [0] [] rfl rfl rfl) (fun x29 hy h=>?_) (fun z31 hy h=>?_)
      ·refine xle ?_
       refine Qa3 _ _ _ h (fun x32 hy=>(Qax h0_0 x29.2 (.inl x32) hy).a.fr [0] [] rfl rfl rfl) (fun z34 hy=>(Qax h0_0 x29.2 (.inr z34) hy).b.fr [0] [] rfl rfl rfl) (fun x32 hy h=>?_) (fun z34 hy h=>?_)
       ·refine xle ?_
        refine Qa3 _ _ _ h (fun x35 hy=>(iQaw true false x32.2 (.inl x35) hy).a.fr [0] [] rfl rfl rfl) (fun z37 hy=>(iQaw true false x32.2 (.inr z37) hy).b.fr [0] [] rfl rfl rfl) (fun x35 hy h=>?_) (fun z37 hy h=>?_)
        ·refine Exists.intro _ (And.intro (Le.refl _ _ _) ?_)
         exact Qda (t:=Qbw) (ss:=fun(o:Qaa×Int)=>⟨[[.p (.sl false (h0_0.map Qae)),.p (iV o.2)]],[]⟩) h ⟨[],rfl,.p (.agg' (.cons (.refl _) (.cons (.refl _) (.cons (.refl _) (.cons (.refl _) (.cons (.refl _) (.cons (.refl _) (.cons (.not) (.nil))))))))),.refl _,rfl⟩
        ·refine xle ?_
         exact Qbu (sp:=fun(o:Int)=>⟨[[.p (.sl false (h0_0.map Qae)),.p (iV o)]],[]⟩) h ⟨[],rfl,.refl _,.refl _,rfl⟩
       ·refine xle ?_
        exact Qbu (sp:=fun(o:Int)=>⟨[[.p (.sl false (h0_0.map Qae)),.p (iV o)]],[]⟩) h ⟨[],rfl,.refl _,.refl _,rfl⟩
      ·refine xle ?_
       exact Qbu (sp:=fun(o:Int)=>⟨[[.p (.sl false (h0_0.map Qae)),.p (iV o)]],[]⟩) h ⟨[],rfl,.refl _,.refl _,rfl⟩
     ·refine xle ?_
      exact Qbu (sp:=fun(o:Int)=>⟨[[.p (.sl false (h0_0.map Qae)),.p (iV o)]],[]⟩) h ⟨[],rfl,.refl _,.refl _,rfl⟩
    ·refine Qau _ _ h (fun x38 hy=>((Qa0 [117,115,101] h0_0 x25.2 x38 hy).fr [0] [] rfl rfl rfl)) (fun x38 hy h=>?_)
     refine Qaf h (fun hb h=>?_) (fun hb h=>?_)
     ·refine xle ?_
      refine Qa3 _ _ _ h (fun x39 hy=>(Qbe h0_0 x38.2 (.inl x39) hy).a.fr [0] [] rfl rfl rfl) (fun z41 hy=>(Qbe h0_0 x38.2 (.inr z41) hy).b.fr [0] [] rfl rfl rfl) (fun x39 hy h=>?_) (fun z41 hy h=>?_)
      ·refine xle ?_
       refine Qa3 _ _ _ h (fun x42 hy=>(Qax h0_0 x39.2 (.inl x42) hy).a.fr [0] [] rfl rfl rfl) (fun z44 hy=>(Qax h0_0 x39.2 (.inr z44) hy).b.fr [0] [] rfl rfl rfl) (fun x42 hy h=>?_) (fun z44 hy h=>?_)
       ·refine Exists.intro _ (And.intro (Le.refl _ _ _) ?_)
        exact Qda (t:=Qbw) (ss:=fun(o:Qaa×Int)=>⟨[[.p (.sl false (h0_0.map Qae)),.p (iV o.2)]],[]⟩) h ⟨[],rfl,.p (.agg' (.cons (.refl _) (.cons (.refl _) (.cons (.refl _) (.cons (.refl _) (.cons (.refl _) (.cons (.not) (.cons (.not) (.nil))))))))),.refl _,rfl⟩
       ·refine xle ?_
        exact Qbu (sp:=fun(o:Int)=>⟨[[.p (.sl false (h0_0.map Qae)),.p (iV o)]],[]⟩) h ⟨[],rfl,.refl _,.refl _,rfl⟩
      ·refine xle ?_
       exact Qbu (sp:=fun(o:Int)=>⟨[[.p (.sl false (h0_0.map Qae)),.p (iV o)]],[]⟩) h ⟨[],rfl,.refl _,.refl _,rfl⟩
     ·refine xle ?_
      refine Qa3 _ _ _ h (fun x45 hy=>(Qax h0_0 x38.2 (.inl x45) hy).a.fr [0] [] rfl rfl rfl) (fun z47 hy=>(Qax h0_0 x38.2 (.inr z47) hy).b.fr [0] [] rfl rfl rfl) (fun x45 hy h=>?_) (fun z47 hy h=>?_)
      ·refine Exists.intro _ (And.intro (Le.refl _ _ _) ?_)
       exact Qda (t:=Qbw) (ss:=fun(o:Qaa×Int)=>⟨[[.p (.sl false (h0_0.map Qae)),.p (iV o.2)]],[]⟩) h ⟨[],rfl,.p (.agg' (.cons (.refl _) (.cons (.refl _) (.cons (.refl _) (.cons (.refl _) (.cons (.refl _) (.cons (.not) (.cons (.not) (.nil))))))))),.refl _,rfl⟩
      ·refine xle ?_
       exact Qbu (sp:=fun(o:Int)=>⟨[[.p (.sl false (h0_0.map Qae)),.p (iV o)]],[]⟩) h ⟨[],rfl,.refl _,.refl _,rfl⟩
theorem Qhz:∀ (p1:Bool) (p2:Bool) (h0_0:(List Qab)) (h0_1:Int) (o:((List Qaa)×Int×Int)⊕(Int)),Qaw p1 p2 h0_0 h0_1=some o→CallS Tryd.prog 50 [.ptr 0 0,.p (bV p1),.p (bV p2)] ⟨[[.p (.sl false (h0_0.map Qae)),.p (iV h0_1)]],[]⟩ Qe3 (fun(o:(List Qaa)×Int×Int)=>⟨[[.p (.sl false (h0_0.map Qae)),.p (iV o.2.2)]],[]⟩) (fun(o:Int)=>⟨[[.p (.sl false (h0_0.map Qae)),.p (iV o)]],[]⟩) o:=fun p1 p2 h0_0 h0_1=>(Qlr h0_0).1 p1 p2 h0_1
noncomputable def Qc1 (p1:(List UInt8)) (h0_0:(List Qab)) (h0_1:Int):Option (Int) :=
 if(h0_1==(h0_0.length:Int)) then
  some (p1.length:Int)
 else
  idx h0_0 h0_1>>=fun x1 =>
  some x1.From
theorem Qmn:∀ (p1:(List UInt8)) (h0_0:(List Qab)) (h0_1:Int) (o:Int),Qc1 p1 h0_0 h0_1=some o→CallOK Tryd.prog 49 [.ptr 0 0,.p (sV p1)] ⟨[[.p (.sl false (h0_0.map Qae)),.p (iV h0_1)]],[]⟩ (Qe4 o) ⟨[[.p (.sl false (h0_0.map Qae)),.p (iV h0_1)]],[]⟩:=by
 intro p1 h0_0 h0_1 o h
 unfold Qc1 at h
 refine CallOK.ofB mixed tbOk Qmd Tryd.func49 rfl (by kernel_rfl) (Nat.le_of_ble_eq_true rfl) rfl rfl rfl ?_
 refine And.intro (by decide +kernel) (And.intro rfl ?_)
 refine view (lenMap _ _) rfl ?_
 refine Qaf h (fun hb h=>?_) (fun hb h=>?_)
 ·refine vrfl ?_
  refine Exists.intro _ (And.intro (Le.refl _ _ _) ?_)
  exact Qb8 (t:=Qe4) (ss:=fun o=>⟨[[.p (.sl false (h0_0.map Qae)),.p (iV h0_1)]],[]⟩) h ⟨[],rfl,.refl _,.refl _,rfl⟩
 ·refine And.intro (by decide +kernel) (And.intro rfl ?_)
  refine Qcl (l:=h0_0) (c:=Qae) (c' := Qae) h (fun _=>rfl) (fun _=>rfl) (by decide) (fun x1 hi h=>?_)
  refine Exists.intro _ (And.intro (Le.refl _ _ _) ?_)
  exact Qb8 (t:=Qe4) (ss:=fun o=>⟨[[.p (.sl false (h0_0.map Qae)),.p (iV h0_1)]],[]⟩) h ⟨[],rfl,.refl _,.refl _,rfl⟩
noncomputable def Qc2 (x1:(List Qaa)×Int) (l4:(List (Qaa×Int))) (h0_0:Int):Option (Int) :=
 match l4 with
 | [] =>
  some h0_0
 | x2::r3 =>
  Qc2 x1 r3 (wr (h0_0+1))
 partial_fixpoint
theorem Qpr:∀ (x1:(List Qaa)×Int),(∀ (l4:(List (Qaa×Int))) (h0_0:Int) (o6:Int),Qc2 x1 l4 h0_0=some o6→RL 1 0 Tryd.prog 11 (rgP Qde) (rgA Qde) (rgB Qde) (Qcv x1 h0_0).env (JP1 (0,0) 11 o6 .normal (Qh5 x1)) (l4.map Qa7) (Qcv x1 h0_0).s):=by
 intro x1
 refine Qc2.partial_correctness x1 _ ?_
 intro Qc2' iQc2 l4 h0_0 o6 h
 cases l4 with
 | nil =>
  refine Q3t ?_
  exact JP1.a h (Le.tz 1 0 rfl rfl rfl)
 | cons x2 r3 =>
  refine Qzq (Qak mixed tbOk (lv:=Qk2) _ _ _ ?_)
  refine And.intro rfl (Qak mixed tbOk (lv:=Qk2) _ _ _ ?_)
  exact Exists.intro (Qcv x1 (wr (h0_0+1))).s (And.intro (Le.tz 1 0 rfl rfl rfl) (And.intro rfl (And.intro rfl ((iQc2 r3 (wr (h0_0+1)) _ h)))))
theorem Qqk:∀ (x1:(List Qaa)×Int) (l4:(List (Qaa×Int))) (h0_0:Int) (o6:Int),Qc2 x1 l4 h0_0=some o6→RL 1 0 Tryd.prog 11 (rgP Qde) (rgA Qde) (rgB Qde) (Qcv x1 h0_0).env (JP1 (0,0) 11 o6 .normal (Qh5 x1)) (l4.map Qa7) (Qcv x1 h0_0).s:=fun x1 l4 h0_0=>(Qpr x1) l4 h0_0
noncomputable def Qhi (p0:(List Qaa)) (p1:Int):Option ((List Qaa)×Int) :=
 some (p0,p1)
theorem Qod:∀ (p0:(List Qaa)) (p1:Int) (o:(List Qaa)×Int),Qhi p0 p1=some o→PCall Tryd.prog 86 [.sl false (p0.map Qac),iV p1] (Qkc o):=by
 intro p0 p1 o h
 unfold Qhi at h
 refine PCall.ofM mixed tbOk Qz6 Tryd.func86 rfl (by kernel_rfl) (Nat.le_of_ble_eq_true rfl) ?_
 refine Qal (t:=Qkc) h ?_
 exact .refl _
noncomputable def Qc3 (p0:(List Qaa)) (p1:Int) (v12:Int) (x3:Qaa) (v28:Int) (x7:(List Qaa)×Int) (l10:(List (Qaa×Int))):Option ((List (Qaa×Int))×(Unit)) :=
 match l10 with
 | [] =>
  some ([],())
 | x8::r9 =>
  ( Qc3 p0 p1 v12 x3 v28 x7 r9 )>>=fun q=>some (((Qaa.mk x8.1.Kind x8.1.Name x8.1.Text x8.1.N x8.1.L x8.1.Then x8.1.Else),x8.2)::q.1,q.2)
 partial_fixpoint
theorem Qps:∀ (p0:(List Qaa)) (p1:Int) (v12:Int) (x3:Qaa) (v28:Int) (x7:(List Qaa)×Int),(∀ (l10:(List (Qaa×Int))) (o13:(List (Qaa×Int))×(Unit)),Qc3 p0 p1 v12 x3 v28 x7 l10=some o13→∀ (gxs gp gpost gq12:List (List V)),gxs=gp++(o13.1.map Qa7++gpost)→gxs=gq12++gpost→RL 2 1 Tryd.prog 44 (rgP Qdg) (rgA Qdg) (rgB Qdg) (Qcw p0 p1 v12 x3 v28 x7 gxs gp).env (Qs (0,1) 44 gxs (JP1 (0,1) 44 o13.2 .normal (Qh6 p0 p1 v12 x3 v28 x7 gxs gq12))) (l10.map Qa7) (Qcw p0 p1 v12 x3 v28 x7 gxs gp).s):=by
 intro p0 p1 v12 x3 v28 x7
 refine Qc3.partial_correctness p0 p1 v12 x3 v28 x7 _ ?_
 intro Qc3' iQc3 l10 o13 h
 intro gxs gp gpost gq12 hx hq
 cases l10 with
 | nil =>
  refine Q3t ?_
  exact .inl (JP1.a (sndI h) (Le.tz 2 1 rfl rfl (liveQ h hx hq rfl)))
 | cons x8 r9 =>
  refine Qzq (Qak mixed tbOk (lv:=Qgg) _ _ _ ?_)
  refine And.intro rfl (Qak mixed tbOk (lv:=Qgg) _ _ _ ?_)
  refine Q6g (c:=Qa7) h hx (.refl _) (by exact rfl) (by exact rfl) (fun _ h hx=>?_) ?_
  ·refine bF ?_
   exact Exists.intro (Qcw p0 p1 v12 x3 v28 x7  gxs (gp++[Qa7 ((Qaa.mk x8.1.Kind x8.1.Name x8.1.Text x8.1.N x8.1.L x8.1.Then x8.1.Else),x8.2)])).s (And.intro (Le.tz 2 1 rfl rfl rfl) (And.intro rfl (And.intro rfl ((iQc3 r9 _ h) _ _ _ _ hx hq))))
  ·refine bT ?_
   exact⟨_,(Le.env0 _).trans (Le.tow 2 1 rfl .nil (.refl _) rfl),rfl,rfl,.inr ⟨rfl,Q5r rfl⟩⟩
theorem Qql:∀ (p0:(List Qaa)) (p1:Int) (v12:Int) (x3:Qaa) (v28:Int) (x7:(List Qaa)×Int) (l10:(List (Qaa×Int))) (o13:(List (Qaa×Int))×(Unit)),Qc3 p0 p1 v12 x3 v28 x7 l10=some o13→∀ (gxs gp gpost gq12:List (List V)),gxs=gp++(o13.1.map Qa7++gpost)→gxs=gq12++gpost→RL 2 1 Tryd.prog 44 (rgP Qdg) (rgA Qdg) (rgB Qdg) (Qcw p0 p1 v12 x3 v28 x7 gxs gp).env (Qs (0,1) 44 gxs (JP1 (0,1) 44 o13.2 .normal (Qh6 p0 p1 v12 x3 v28 x7 gxs gq12))) (l10.map Qa7) (Qcw p0 p1 v12 x3 v28 x7 gxs gp).s:=fun p0 p1 v12 x3 v28 x7 l10=>(Qps p0 p1 v12 x3 v28 x7) l10
mutual
noncomputable def Qd6 (p0 : (List Qaa)) (p1 : Int) : Option ((List (Qaa × Int)) × Unit) :=
  ( Qdx p0 p1 0) >>= fun o2 => (
    some ([], ())) >>= fun q => some (o2.1 ++ q.1, q.2)
  partial_fixpoint
noncomputable def Qdx (p0 : (List Qaa)) (p1 : Int) (v12 : Int) : Option ((List (Qaa × Int)) × (Unit)) :=
  if (decide (v12 < (p0.length : Int))) then
    idx p0 v12 >>= fun x3 =>
    ( ( Qbs p0 p1 v12 x3 0) >>= fun o5 => (
        Qdx p0 p1 (wr (v12 + 1))) >>= fun q => some (o5.1 ++ q.1, q.2)) >>= fun q => some ((x3, p1) :: q.1, q.2)
  else
    some ([], ())
  partial_fixpoint
noncomputable def Qbs (p0 : (List Qaa)) (p1 : Int) (v12 : Int) (x3 : Qaa) (v28 : Int) : Option ((List (Qaa × Int)) × (Unit)) :=
  if (decide (v28 < 3)) then
    idx ([x3.L, x3.Then, x3.Else] : List (List Qaa)) v28 >>= fun x6 =>
    Qhi x6 (wr (p1 + 1)) >>= fun x7 =>
    Qd6 x7.1 x7.2 >>= fun y11 =>
    ( Qc3 p0 p1 v12 x3 v28 x7 y11.1) >>= fun o13 => (
      Qbs p0 p1 v12 x3 (wr (v28 + 1))) >>= fun q => some (o13.1 ++ q.1, q.2)
  else
    some ([], ())
  partial_fixpoint
end
end Go.Proofs.YtagokkpnfceidaaDoor
end
