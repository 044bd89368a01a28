/- The proof's texts, part 9 of 12: the walks by a logic in which data are by value, the plain laws, and at the end the law, for every input. -/
import Derived.Test.YtfgegilhjlnohaaGreatMgSecrecyHands8

noncomputable section
set_option linter.unusedVariables false
set_option linter.unusedSimpArgs false
set_option maxRecDepth 100000
set_option maxHeartbeats 4000000
namespace Go.Proofs.YtfgegilhjlnohaaGreat
open Go.RowKit
theorem Qz7:(∀ (p0:(List Qaa)) (p1:Bool) (o:Bool),Qhf p0 p1=some o→PCall Tryz.prog 72 [.sl false (p0.map Qab),bV p1] (Qfs o))∧(∀ (p0:(List Qaa)) (p1:Bool) (v10:Int) (o1:Unit⊕Unit),Qf9 p0 p1 v10=some o1→TL (0,0) Tryz.prog 52 Qx7 (JP2 (0,0) 52 o1 (.exit 0) (Qov p0 p1) .ret (Qow p0 p1)) (Qj3 p0 p1 v10))∧(∀ (p0:Qaa) (o:Bool),Qp6 p0=some o→PCall Tryz.prog 97 [.agg [iV p0.Kind,sV p0.Name,sV p0.Text,iV p0.N,.sl false (p0.L.map Qab),.sl false (p0.Then.map Qab),.sl false (p0.Else.map Qab)]] (Qn8 o)):=by
 refine Qhf.mutual_partial_correctness _ _ _ ?_ ?_ ?_
 ·intro Qf9' iQf9 p0 p1 o h;refine PCall.ofB mixed tbOk Qta Tryz.func72 rfl (by kernel_rfl) (Nat.le_of_ble_eq_true rfl) ?_;refine view (Qej _ _) rfl ?_;refine Qal h (fun o1 ho hk=>?_);refine Exists.intro (JP2 _ _ o1 (.exit 0) (Qov p0 p1) .ret (Qow p0 p1)) (And.intro (Qk2 (τ := Qj3 p0 p1 0) ?_ (TL.loop (iQf9 p0 p1 0 o1 ho))) (Qjy (fun y2 hy=>?_) (fun y3 hy=>?_)))
  ·exact Le.tz 0 0 rfl rfl rfl
  ·have h:=(by rw[hy] at hk; exact hk);refine Qax (t:=Qfs) h ?_;exact .refl _
  ·have h:=(by rw[hy] at hk; exact hk);refine Qax (t:=Qfs) h ?_;exact .refl _
 ·intro Qf9' Qp6' iQf9 iQp6 p0 p1 v10 o1 h;refine TL.round (Qas mixed tbOk (lv:=Qta) _ _ _ ?_);refine Qae h (fun hb h=>?_) (fun hb h=>?_)
  ·refine Qco (l:=p0) (c:=Qab) (c' := Qbh) h Qap (fun _=>rfl) (by decide) (fun x4 hi h=>?_);refine Qat [.agg [iV x4.Kind,sV x4.Name,sV x4.Text,iV x4.N,.sl false (x4.L.map Qab),.sl false (x4.Then.map Qab),.sl false (x4.Else.map Qab)]] Qn8 h (fun x5 hy=>(iQp6 x4 x5 hy)) (fun x5 hy h=>?_);refine Qae h (fun hb h=>?_) (fun hb h=>?_)
   ·exact JP2.b h (Le.tz 0 0 rfl rfl rfl)
   ·refine view (Qej _ _) rfl ?_;refine Qal h (fun o6 ho hk=>?_);refine Exists.intro (JP1 _ _ o6 .normal (Qx6 p0 p1 v10 x4)) (And.intro ?_ (Qbb ?_))
    ·have h:=ho;refine Qae h (fun hb h=>?_) (fun hb h=>?_)
     ·refine Qae h (fun hb h=>?_) (fun hb h=>?_)
      ·refine Qco (l:=p0) (c:=Qab) (c' := Qbh) h Qap (fun _=>rfl) (by decide) (fun x7 hi h=>?_);refine Qae h (fun hb h=>?_) (fun hb h=>?_)
       ·refine JP1.a h ?_;exact Le.tz 1 0 rfl rfl rfl
       ·refine Qae h (fun hb h=>?_) (fun hb h=>?_)
        ·refine Qae h (fun hb h=>?_) (fun hb h=>?_)
         ·refine Qat [sV x4.Text,sV [123]] Qc0 h (fun x8 hy=>(Qeo x4.Text [123] x8 hy)) (fun x8 hy h=>?_);refine JP1.a h ?_;exact Le.tz 1 0 rfl rfl rfl
         ·refine JP1.a h ?_;exact Le.tz 1 0 rfl rfl rfl
        ·refine bT ?_;refine Qat [sV x4.Text,sV [123]] Qc0 h (fun x9 hy=>(Qeo x4.Text [123] x9 hy)) (fun x9 hy h=>?_);refine JP1.a h ?_;exact Le.tz 1 0 rfl rfl rfl
      ·refine bF ?_;refine Qae h (fun hb h=>?_) (fun hb h=>?_)
       ·refine Qae h (fun hb h=>?_) (fun hb h=>?_)
        ·refine Qat [sV x4.Text,sV [123]] Qc0 h (fun x10 hy=>(Qeo x4.Text [123] x10 hy)) (fun x10 hy h=>?_);refine JP1.a h ?_;exact Le.tz 1 0 rfl rfl rfl
        ·refine JP1.a h ?_;exact Le.tz 1 0 rfl rfl rfl
       ·refine bT ?_;refine Qat [sV x4.Text,sV [123]] Qc0 h (fun x11 hy=>(Qeo x4.Text [123] x11 hy)) (fun x11 hy h=>?_);refine JP1.a h ?_;exact Le.tz 1 0 rfl rfl rfl
     ·refine JP1.a h ?_;exact Le.tz 1 0 rfl rfl rfl
    ·have h:=hk;refine Qae h (fun hb h=>?_) (fun hb h=>?_)
     ·exact JP2.b h (Le.tz 0 0 rfl rfl rfl)
     ·refine TL.le (τ := Qj3 p0 p1 (wr (v10+1))) ?_ ((iQf9 p0 p1 (wr (v10+1)) _ h));exact Le.tz 0 0 rfl rfl rfl
  ·exact JP2.a h (Le.tz 0 0 rfl rfl rfl)
 ·intro Qhf' iQhf p0 o h;refine PCall.ofB mixed tbOk Q53 Tryz.func97 rfl (by kernel_rfl) (Nat.le_of_ble_eq_true rfl) ?_;refine Qat [.agg [iV p0.Kind,sV p0.Name,sV p0.Text,iV p0.N,.sl false (p0.L.map Qab),.sl false (p0.Then.map Qab),.sl false (p0.Else.map Qab)]] Qjd h (fun x1 hy=>(Qp5 p0 x1 hy)) (fun x1 hy h=>?_);refine Qal h (fun o2 ho hk=>?_);refine Exists.intro (JP2 _ _ o2 .normal (Qzz p0 x1) .ret (Qz0 p0 x1)) (And.intro ?_ (Qjy (fun y3 hy=>?_) (fun y4 hy=>?_)))
  ·have h:=ho;refine Qae h (fun hb h=>?_) (fun hb h=>?_)
   ·refine Qal h (fun o5 ho hk=>?_);refine Exists.intro (JP1 _ _ o5 .normal (Qz1 p0 x1)) (And.intro ?_ (Qbb ?_))
    ·have h:=ho;refine And.intro rfl ?_;refine Qae h (fun hb h=>?_) (fun hb h=>?_)
     ·refine Qat [sV p0.Text,sV [123,123]] Qhm h (fun x6 hy=>(Qsd p0.Text [123,123] x6 hy)) (fun x6 hy h=>?_);refine JP1.a h ?_;exact Le.tz 3 0 rfl rfl rfl
     ·refine JP1.a h ?_;exact Le.tz 3 0 rfl rfl rfl
    ·have h:=hk;refine JP2.b h ?_;exact Le.tz 3 0 rfl rfl rfl
   ·refine Qae h (fun hb h=>?_) (fun hb h=>?_)
    ·refine JP2.a h ?_;exact Le.tz 3 0 rfl rfl rfl
    ·refine Qae h (fun hb h=>?_) (fun hb h=>?_)
     ·refine And.intro (by decide +kernel) (And.intro rfl ?_);refine JP2.a h ?_;exact Le.tz 3 0 rfl rfl rfl
     ·refine Qal h (fun o7 ho hk=>?_);refine Exists.intro (JP1 _ _ o7 .normal (Qz2 p0 x1)) (And.intro ?_ (Qbb ?_))
      ·have h:=ho;refine Qae h (fun hb h=>?_) (fun hb h=>?_)
       ·refine JP1.a h ?_;exact Le.tz 3 0 rfl rfl rfl
       ·refine JP1.a h ?_;exact Le.tz 3 0 rfl rfl rfl
      ·have h:=hk;refine Qae h (fun hb h=>?_) (fun hb h=>?_)
       ·refine And.intro (by decide +kernel) (And.intro rfl ?_);refine Qen [sV p0.Name] Qfr h (fun x8 hy=>(Qjm p0.Name x8 hy)) (fun x8 hy h=>?_);refine JP2.a h ?_;exact Le.tz 3 0 rfl rfl rfl
       ·refine Qae h (fun hb h=>?_) (fun hb h=>?_)
        ·refine Qat [sV p0.Name] Qfr h (fun x9 hy=>(Qjm p0.Name x9 hy)) (fun x9 hy h=>?_);refine JP2.a h ?_;exact Le.tz 3 0 rfl rfl rfl
        ·refine JP2.b h ?_;exact Le.tz 3 0 rfl rfl rfl
  ·have h:=(by rw[hy] at hk; exact hk);refine Qal h (fun o10 ho hk=>?_);refine Exists.intro (JP1 _ _ o10 .normal (Qz3 p0 x1 y3)) (And.intro ?_ (Qbb ?_))
   ·have h:=ho;refine Qae h (fun hb h=>?_) (fun hb h=>?_)
    ·refine bT ?_;refine JP1.a h ?_;exact Le.tz 3 0 rfl rfl rfl
    ·refine Qae h (fun hb h=>?_) (fun hb h=>?_)
     ·refine JP1.a h ?_;exact Le.tz 3 0 rfl rfl rfl
     ·refine JP1.a h ?_;exact Le.tz 3 0 rfl rfl rfl
   ·have h:=hk;refine Qal h (fun o11 ho hk=>?_);refine Exists.intro (JP1 _ _ o11 .normal (Qz4 p0 x1 y3)) (And.intro ?_ (Qbb ?_))
    ·have h:=ho;refine Qae h (fun hb h=>?_) (fun hb h=>?_)
     ·refine And.intro rfl ?_;refine Qae h (fun hb h=>?_) (fun hb h=>?_)
      ·refine Qco (l:=p0.L) (c:=Qab) (c' := Qbh) h Qap (fun _=>rfl) (by decide) (fun x12 hi h=>?_);refine Qat [.agg [iV x12.Kind,sV x12.Name,sV x12.Text,iV x12.N,.sl false (x12.L.map Qab),.sl false (x12.Then.map Qab),.sl false (x12.Else.map Qab)]] Qc1 h (fun x13 hy=>(Q6d x12 x13 hy)) (fun x13 hy h=>?_);refine Qae h (fun hb h=>?_) (fun hb h=>?_)
       ·refine Qat [.sl false (p0.Then.map Qab),bV false] Qfs h (fun x14 hy=>(iQhf p0.Then false x14 hy)) (fun x14 hy h=>?_);refine Qae h (fun hb h=>?_) (fun hb h=>?_)
        ·refine Qat [.sl false (p0.Else.map Qab),bV false] Qfs h (fun x15 hy=>(iQhf p0.Else false x15 hy)) (fun x15 hy h=>?_);refine JP1.a h ?_;exact Le.tz 3 0 rfl rfl rfl
        ·refine JP1.a h ?_;exact Le.tz 3 0 rfl rfl rfl
       ·refine bF ?_;refine JP1.a h ?_;exact Le.tz 3 0 rfl rfl rfl
      ·refine bF ?_;refine bF ?_;refine JP1.a h ?_;exact Le.tz 3 0 rfl rfl rfl
     ·refine bF ?_;refine bF ?_;refine bF ?_;refine JP1.a h ?_;exact Le.tz 3 0 rfl rfl rfl
    ·have h:=hk;refine Qax (t:=Qn8) h ?_;exact .refl _
  ·have h:=(by rw[hy] at hk; exact hk);refine Qax (t:=Qn8) h ?_;exact .refl _
theorem Q3a:∀ (p0:(List Qaa)) (p1:Bool) (o:Bool),Qhf p0 p1=some o→PCall Tryz.prog 72 [.sl false (p0.map Qab),bV p1] (Qfs o):=fun p0 p1=>Qz7.1 p0 p1
def Qyj (p0:(List Qaa)):Option (Bool) :=
 ( Qp4 p0>>=fun x2 =>
  if(decide (x2≤12)) then
   Qnf p0>>=fun x3 =>
   if(decide (x3≤1024)) then
    Qhf p0 true>>=fun x4 =>
    some x4
   else
    some false
  else
   some false:Option (Bool))>>=fun o1 =>
 some o1
theorem Qaba:∀ (p0:(List Qaa)) (o:Bool),Qyj p0=some o→PCall Tryz.prog 38 [.sl false (p0.map Qab)] (Qx3 o):=by
 intro p0 o h;unfold Qyj at h;refine PCall.ofB mixed tbOk Qaa3 Tryz.func38 rfl (by kernel_rfl) (Nat.le_of_ble_eq_true rfl) ?_;refine Qal h (fun o1 ho hk=>?_);refine Exists.intro (JP1 _ _ o1 .normal (Q50 )) (And.intro ?_ (Qbb ?_))
 ·have h:=ho;refine Qat [.sl false (p0.map Qab)] Qr9 h (fun x2 hy=>(Q59 p0 x2 hy)) (fun x2 hy h=>?_);refine Qae h (fun hb h=>?_) (fun hb h=>?_)
  ·refine Qat [.sl false (p0.map Qab)] Qpy h (fun x3 hy=>(Q27 p0 x3 hy)) (fun x3 hy h=>?_);refine Qae h (fun hb h=>?_) (fun hb h=>?_)
   ·refine Qat [.sl false (p0.map Qab),bV true] Qfs h (fun x4 hy=>(Q3a p0 true x4 hy)) (fun x4 hy h=>?_);refine JP1.a h ?_;exact Le.tz 0 0 rfl rfl rfl
   ·refine JP1.a h ?_;exact Le.tz 0 0 rfl rfl rfl
  ·refine bF ?_;refine JP1.a h ?_;exact Le.tz 0 0 rfl rfl rfl
 ·have h:=hk;refine Qax (t:=Qx3) h ?_;exact .refl _
def Qef (p0:(List Qac)) (v22:Int):Option (Unit⊕((List UInt8)×Int)) :=
 if(decide (v22<(p0.length:Int))) then
  idx p0 v22>>=fun x4 =>
  ( Qhs x4.Name>>=fun x6 =>
   if(!x6) then
    some true
   else
    Qyj x4.L>>=fun x7 =>
    some (!x7):Option (Bool))>>=fun o5 =>
  if o5 then
   some (.inr (x4.Name,7))
  else
   cutL p0 0 v22>>=fun x8 =>
   Qf7 x8 x4.Name>>=fun x9 =>
   if x9.2 then
    some (.inr (x4.Name,9))
   else
    Qef p0 (wr (v22+1))
 else
  some (.inl ())
 partial_fixpoint
theorem Q9v:∀ (p0:(List Qac)),(∀ (v22:Int) (o1:Unit⊕((List UInt8)×Int)),Qef p0 v22=some o1→TL (0,0) Tryz.prog 102 Qvv (JP2 (0,0) 102 o1 (.exit 0) (Qm3 p0) .ret (Qm4 p0)) (Qir p0 v22)):=by
 intro p0;refine Qef.partial_correctness p0 _ ?_;intro Qef' iQef v22 o1 h;refine TL.round (Qas mixed tbOk (lv:=Qgj) _ _ _ ?_);refine Qae h (fun hb h=>?_) (fun hb h=>?_)
 ·refine Qco (l:=p0) (c:=Qah) (c' := Qah) h (fun _=>rfl) (fun _=>rfl) (by decide) (fun x4 hi h=>?_);refine Qal h (fun o5 ho hk=>?_);refine Exists.intro (JP1 _ _ o5 .normal (Qvu p0 v22 x4)) (And.intro ?_ (Qbb ?_))
  ·have h:=ho;refine Qat [sV x4.Name] Qfr h (fun x6 hy=>(Qjm x4.Name x6 hy)) (fun x6 hy h=>?_);refine Qae h (fun hb h=>?_) (fun hb h=>?_)
   ·refine JP1.a h ?_;exact Le.tz 1 0 rfl rfl rfl
   ·refine Qat [.sl false (x4.L.map Qab)] Qx3 h (fun x7 hy=>(Qaba x4.L x7 hy)) (fun x7 hy h=>?_);refine JP1.a h ?_;exact Le.tz 1 0 rfl rfl rfl
  ·have h:=hk;refine Qae h (fun hb h=>?_) (fun hb h=>?_)
   ·exact JP2.b h (Le.tz 0 0 rfl rfl rfl)
   ·refine And.intro (by decide +kernel) (And.intro rfl ?_);refine Qaif (c:=Qah) none (some v22) h (fun _=>rfl) (fun x8 hi h=>?_);refine Qen [.sl false (x8.map Qah),sV x4.Name] Qew h (fun x9 hy=>(Qhq x8 x4.Name x9 hy)) (fun x9 hy h=>?_);refine Qae h (fun hb h=>?_) (fun hb h=>?_)
    ·exact JP2.b h (Le.tz 0 0 rfl rfl rfl)
    ·refine TL.le (τ := Qir p0 (wr (v22+1))) ?_ ((iQef (wr (v22+1)) _ h));exact Le.tz 0 0 rfl rfl rfl
 ·exact JP2.a h (Le.tz 0 0 rfl rfl rfl)
def Qeg (p0:(List Qac)) (x10:(List ((List UInt8)×(List (List UInt8))))) (v56:Int) (x14:Qac) (v66:Int):Option (Unit⊕Unit) :=
 if(decide (v66<(((mget (fun a b=>a==b) x14.Name x10).getD []).length:Int))) then
  idx ((mget (fun a b=>a==b) x14.Name x10).getD []) v66>>=fun x18 =>
  if(!((mget (fun a b=>a==b) x18 x10).isSome)) then
   some (.inr ())
  else
   Qeg p0 x10 v56 x14 (wr (v66+1))
 else
  some (.inl ())
 partial_fixpoint
theorem Q9w:∀ (p0:(List Qac)) (x10:(List ((List UInt8)×(List (List UInt8))))) (v56:Int) (x14:Qac),(∀ (v66:Int) (o15:Unit⊕Unit),Qeg p0 x10 v56 x14 v66=some o15→TL (0,0) Tryz.prog 102 Qvw (JP2 (0,0) 102 o15 (.exit 4) (Qm5 p0 x10 v56 x14) .ret (Qm6 p0 x10 v56 x14)) (Qis p0 x10 v56 x14 v66)):=by
 intro p0 x10 v56 x14;refine Qeg.partial_correctness p0 x10 v56 x14 _ ?_;intro Qeg' iQeg v66 o15 h;refine TL.round (Qas mixed tbOk (lv:=Qgj) _ _ _ ?_);refine Qae h (fun hb h=>?_) (fun hb h=>?_)
 ·refine Qco (l:=((mget (fun a b=>a==b) x14.Name x10).getD [])) (c:=cStr) (c' := cStr) h (fun _=>rfl) (fun _=>rfl) (by decide) (fun x18 hi h=>?_);refine Qpo (l:=x10) (k:=x18) (fun a b=>a==b) (ck:=sV) (ca:=(fun x =>.sl false (x.map cStr))) (z0:=[]) (by exact rfl) (by exact rfl) (by exact rfl) (by exact fun _ _=>rfl) (by exact rfl) (by exact .not) ?_;refine Qae h (fun hb h=>?_) (fun hb h=>?_)
  ·exact JP2.b h (Le.tz 3 0 rfl rfl rfl)
  ·refine TL.le (τ := Qis p0 x10 v56 x14 (wr (v66+1))) ?_ ((iQeg (wr (v66+1)) _ h));exact Le.tz 3 0 rfl rfl rfl
 ·exact JP2.a h (Le.tz 3 0 rfl rfl rfl)
def Qeh (p0:(List Qac)) (x10:(List ((List UInt8)×(List (List UInt8))))) (v56:Int):Option (Unit⊕(List UInt8)) :=
 if(decide (v56<(p0.length:Int))) then
  idx p0 v56>>=fun x14 =>
  (Qeg p0 x10 v56 x14 0)>>=fun o15 =>
  match o15 with
  | .inl y16 =>
   Qeh p0 x10 (wr (v56+1))
  | .inr y17 =>
   some (.inr x14.Name)
 else
  some (.inl ())
 partial_fixpoint
theorem Q9x:∀ (p0:(List Qac)) (x10:(List ((List UInt8)×(List (List UInt8))))),(∀ (v56:Int) (o11:Unit⊕(List UInt8)),Qeh p0 x10 v56=some o11→TL (0,0) Tryz.prog 102 Qvx (JP2 (0,0) 102 o11 (.exit 2) (Qm7 p0 x10) .ret (Qm8 p0 x10)) (Qit p0 x10 v56)):=by
 intro p0 x10;refine Qeh.partial_correctness p0 x10 _ ?_;intro Qeh' iQeh v56 o11 h;refine TL.round (Qas mixed tbOk (lv:=Qgj) _ _ _ ?_);refine Qae h (fun hb h=>?_) (fun hb h=>?_)
 ·refine Qco (l:=p0) (c:=Qah) (c' := Qah) h (fun _=>rfl) (fun _=>rfl) (by decide) (fun x14 hi h=>?_);refine Qpo (l:=x10) (k:=x14.Name) (fun a b=>a==b) (ck:=sV) (ca:=(fun x =>.sl false (x.map cStr))) (z0:=[]) (by exact rfl) (by exact rfl) (by exact rfl) (by exact fun _ _=>rfl) (by exact rfl) (by exact .not) ?_;refine view (Qej _ _) rfl ?_;refine Qal h (fun o15 ho hk=>?_);refine Exists.intro (JP2 _ _ o15 (.exit 4) (Qm5 p0 x10 v56 x14) .ret (Qm6 p0 x10 v56 x14)) (And.intro (Qk2 (τ := Qis p0 x10 v56 x14 0) ?_ (TL.loop (Q9w p0 x10 v56 x14 0 o15 ho))) (Qjy (fun y16 hy=>?_) (fun y17 hy=>?_)))
  ·exact Le.tz 3 0 rfl rfl rfl
  ·have h:=(by rw[hy] at hk; exact hk);refine TL.le (τ := Qit p0 x10 (wr (v56+1))) ?_ ((iQeh (wr (v56+1)) _ h));exact Le.tz 2 0 rfl rfl rfl
  ·have h:=(by rw[hy] at hk; exact hk);exact JP2.b h (Le.tz 2 0 rfl rfl rfl)
 ·exact JP2.a h (Le.tz 2 0 rfl rfl rfl)
def Qcg (h0_0:(List ((List UInt8)×(List (List UInt8))))) (x1:(List (List UInt8))) (v17:Int) (h2_0:(List ((List UInt8)×Int))):Option (((List ((List UInt8)×Int)))) :=
 if(decide (v17<(x1.length:Int))) then
  idx x1 v17>>=fun x3 =>
  Qcg h0_0 x1 (wr (v17+1)) (mset (fun a b=>a==b) x3 1 h2_0)
 else
  some h2_0
 partial_fixpoint
theorem Q3b:∀ (h0_0:(List ((List UInt8)×(List (List UInt8))))) (x1:(List (List UInt8))),(∀ (v17:Int) (h2_0:(List ((List UInt8)×Int))) (o2:((List ((List UInt8)×Int)))),Qcg h0_0 x1 v17 h2_0=some o2→TL (1,0) Tryz.prog 56 Qpt (JP1 (1,0) 56 o2 (.exit 0) (Qia h0_0 x1)) (Qfh h0_0 x1 v17 h2_0)):=by
 intro h0_0 x1;refine Qcg.partial_correctness h0_0 x1 _ ?_;intro Qcg' iQcg v17 h2_0 o2 h;refine TL.round (Qas mixed tbOk (lv:=Qez) _ _ _ ?_);refine Qae h (fun hb h=>?_) (fun hb h=>?_)
 ·refine Qr4 (l:=x1) (c:=cStr) (c' := cStr) h rfl (fun _=>rfl) (fun _=>rfl) (by decide) (fun x3 hi h=>?_);refine And.intro rfl (And.intro (Nat.le_of_ble_eq_true rfl) ?_);refine Q5u (l:=h2_0) (k:=x3) (x:=1) (fun a b=>a==b) (ck:=sV) (ca:=iV) (by exact rfl) (by exact rfl) (by exact rfl) (by exact .refl _) (by exact fun _ _=>rfl) ?_;refine TL.le (τ := Qfh h0_0 x1 (wr (v17+1)) (mset (fun a b=>a==b) x3 1 h2_0)) ?_ ((iQcg (wr (v17+1)) (mset (fun a b=>a==b) x3 1 h2_0) _ h));exact Le.tz 3 1 rfl rfl rfl
 ·exact JP1.a h (Le.tz 3 1 rfl rfl rfl)
def Qby (h0_0:(List ((List UInt8)×(List (List UInt8))))) (v9:Int) (x5:(List UInt8)) (v6_:(List (List UInt8))) (v38:Int) (h2_0_:(List ((List UInt8)×Int))):Option (((List (List UInt8))×(List ((List UInt8)×Int)))) :=
 if(decide (v38<(((mget (fun a b=>a==b) x5 h0_0).getD []).length:Int))) then
  idx ((mget (fun a b=>a==b) x5 h0_0).getD []) v38>>=fun x7 =>
  if(((mget (fun a b=>a==b) x7 h2_0_).getD 0)==0) then
   appL 16 v6_ [x7]>>=fun x8 =>
   Qby h0_0 v9 x5 x8 (wr (v38+1)) (mset (fun a b=>a==b) x7 1 h2_0_)
  else
   Qby h0_0 v9 x5 v6_ (wr (v38+1)) h2_0_
 else
  some (v6_,h2_0_)
 partial_fixpoint
theorem Q3c:∀ (h0_0:(List ((List UInt8)×(List (List UInt8))))) (v9:Int) (x5:(List UInt8)),(∀ (v6_:(List (List UInt8))) (v38:Int) (h2_0_:(List ((List UInt8)×Int))) (o6:((List (List UInt8))×(List ((List UInt8)×Int)))),Qby h0_0 v9 x5 v6_ v38 h2_0_=some o6→TL (1,0) Tryz.prog 56 Qpu (JP1 (1,0) 56 o6 (.exit 4) (Qib h0_0 v9 x5)) (Qd0 h0_0 v9 x5 v6_ v38 h2_0_)):=by
 intro h0_0 v9 x5;refine Qby.partial_correctness h0_0 v9 x5 _ ?_;intro Qby' iQby v6_ v38 h2_0_ o6 h;refine TL.round (Qas mixed tbOk (lv:=Qez) _ _ _ ?_);refine Qae h (fun hb h=>?_) (fun hb h=>?_)
 ·refine Qco (l:=((mget (fun a b=>a==b) x5 h0_0).getD [])) (c:=cStr) (c' := cStr) h (fun _=>rfl) (fun _=>rfl) (by decide) (fun x7 hi h=>?_);refine Qpo (l:=h2_0_) (k:=x7) (fun a b=>a==b) (ck:=sV) (ca:=iV) (z0:=0) (by exact rfl) (by exact rfl) (by exact rfl) (by exact fun _ _=>rfl) (by exact rfl) (by exact .refl _) ?_;refine Qae h (fun hb h=>?_) (fun hb h=>?_)
  ·refine Q5u (l:=h2_0_) (k:=x7) (x:=1) (fun a b=>a==b) (ck:=sV) (ca:=iV) (by exact rfl) (by exact rfl) (by exact rfl) (by exact .refl _) (by exact fun _ _=>rfl) ?_;refine Qn2 (a:=v6_) (b:=[x7]) (c:=cStr) h (.refl _) (fun _=>rfl) rfl (fun x8 hi h=>?_);refine TL.le (τ := Qd0 h0_0 v9 x5 x8 (wr (v38+1)) (mset (fun a b=>a==b) x7 1 h2_0_)) ?_ ((iQby x8 (wr (v38+1)) (mset (fun a b=>a==b) x7 1 h2_0_) _ h));exact Le.trans (τ := ⟨[(2,.ptr 1 0),(5,.mh 2),(6,.x 0 2 (.sl 9 1 (x8.map cStr))),(9,.p (iV v9)),(36,.p (.sl false (((mget (fun a b=>a==b) x5 h0_0).getD []).map cStr))),(37,.p (iV (((mget (fun a b=>a==b) x5 h0_0).getD []).length:Int))),(38,.p (iV (wr (v38+1))))],⟨[[mpD sV (fun x =>.sl false (x.map cStr)) h0_0],[.mh 0],[mpD sV iV (mset (fun a b=>a==b) x7 1 h2_0_)]],[2]⟩⟩) (Le.tz 3 1 rfl rfl rfl) ((Le.ver (.s 6) 0 2 1 rfl rfl rfl rfl).trans (Le.tz 3 1 rfl rfl rfl))
  ·refine TL.le (τ := Qd0 h0_0 v9 x5 v6_ (wr (v38+1)) h2_0_) ?_ ((iQby v6_ (wr (v38+1)) h2_0_ _ h));exact Le.tz 3 1 rfl rfl rfl
 ·exact JP1.a h (Le.tz 3 1 rfl rfl rfl)
def Qbz (h0_0:(List ((List UInt8)×(List (List UInt8))))) (v6:(List (List UInt8))) (v9:Int) (h2_0:(List ((List UInt8)×Int))):Option (((List (List UInt8))×(List ((List UInt8)×Int)))) :=
 if(decide (v9<(v6.length:Int))) then
  idx v6 v9>>=fun x5 =>
  (Qby h0_0 v9 x5 v6 0 h2_0)>>=fun o6 =>
  Qbz h0_0 o6.1 (wr (v9+1)) o6.2
 else
  some (v6,h2_0)
 partial_fixpoint
theorem Q3d:∀ (h0_0:(List ((List UInt8)×(List (List UInt8))))),(∀ (v6:(List (List UInt8))) (v9:Int) (h2_0:(List ((List UInt8)×Int))) (o4:((List (List UInt8))×(List ((List UInt8)×Int)))),Qbz h0_0 v6 v9 h2_0=some o4→TL (1,0) Tryz.prog 56 Qpv (JP1 (1,0) 56 o4 (.exit 2) (Qic h0_0)) (Qfi h0_0 v6 v9 h2_0)):=by
 intro h0_0;refine Qbz.partial_correctness h0_0 _ ?_;intro Qbz' iQbz v6 v9 h2_0 o4 h;refine TL.round (Qas mixed tbOk (lv:=Qez) _ _ _ ?_);refine And.intro rfl (Exists.intro _ (And.intro (List.length_map _) ?_));refine Qae h (fun hb h=>?_) (fun hb h=>?_)
 ·refine And.intro (by decide +kernel) (And.intro rfl ?_);refine And.intro rfl ?_;refine Qr4 (l:=v6) (c:=cStr) (c' := cStr) h rfl (fun _=>rfl) (fun _=>rfl) (by decide) (fun x5 hi h=>?_);refine And.intro rfl ?_;refine And.intro rfl (And.intro (Nat.le_of_ble_eq_true rfl) ?_);refine And.intro rfl ?_;refine Qpo (l:=h0_0) (k:=x5) (fun a b=>a==b) (ck:=sV) (ca:=(fun x =>.sl false (x.map cStr))) (z0:=[]) (by exact rfl) (by exact rfl) (by exact rfl) (by exact fun _ _=>rfl) (by exact rfl) (by exact .not) ?_;refine view (Qej _ _) rfl ?_;refine Qal h (fun o6 ho hk=>?_);refine Exists.intro (JP1 _ _ o6 (.exit 4) (Qib h0_0 v9 x5)) (And.intro (Qk2 (τ := Qd0 h0_0 v9 x5 v6 0 h2_0) ?_ (TL.loop (Q3c h0_0 v9 x5 v6 0 h2_0 o6 ho))) (Qbb ?_))
  ·exact Le.tz 3 1 rfl rfl rfl
  have h:=hk;refine TL.le (τ := Qfi h0_0 o6.1 (wr (v9+1)) o6.2) ?_ ((iQbz o6.1 (wr (v9+1)) o6.2 _ h));exact Le.tz 3 1 rfl rfl rfl
 ·exact JP1.a h (Le.tz 3 1 rfl rfl rfl)
def Qcx (p0:(List (List UInt8))):Option ((List (List UInt8))) :=
 appL 16 [] p0
theorem Qj5:∀ (p0:(List (List UInt8))) (o:(List (List UInt8))),Qcx p0=some o→CallOK Tryz.prog 75 [.p (.sl false (p0.map cStr))] ⟨[],[]⟩ (Qdi o) ⟨[],[1]⟩:=by
 intro p0 o h;unfold Qcx at h;have h:(appL 16 ([]:List (List UInt8)) p0>>=fun r=>some r)=some o:=by rw[h]; rfl
 refine CallOK.ofB mixed tbOk Qj0 Tryz.func75 rfl (by kernel_rfl) (Nat.le_of_ble_eq_true rfl) rfl rfl rfl ?_;refine⟨rfl,rfl,rfl,fun b hb=>?_⟩;cases b with
 | true =>
  refine bT ?_;obtain rfl:=List.map_eq_nil_iff.1 (hb rfl);have h:some ([]:List (List UInt8))=some o:=h;refine Exists.intro _ (And.intro (Le.xnil (.s 2) 9 1 rfl) ?_);exact Qa5 (t:=Qdi) (ss:=fun o=>⟨[],[1]⟩) h ⟨[0],rfl,.refl _,.refl _,rfl⟩
 | false =>
  refine bF ?_;refine Q9q (a:=([]:List (List UInt8))) (b:=p0) (c:=cStr) h (.refl _) (.refl _) (fun _=>rfl) (.inl rfl) (fun r hi h=>?_);refine Exists.intro _ (And.intro (Le.refl _ _ _) ?_);exact Qa5 (t:=Qdi) (ss:=fun o=>⟨[],[1]⟩) h ⟨[0],rfl,.refl _,.refl _,rfl⟩
def Qfe (p1:(List (List UInt8))) (h0_0:(List ((List UInt8)×(List (List UInt8))))):Option ((List (List UInt8))) :=
 Qcx p1>>=fun x1 =>
 (Qcg h0_0 x1 0 [])>>=fun o2 =>
 (Qbz h0_0 x1 0 o2)>>=fun o4 =>
 need (o4.1.length<4611686018427387904)>>=fun _ =>
 some (srtL o4.1)
theorem Qsg:∀ (p1:(List (List UInt8))) (h0_0:(List ((List UInt8)×(List (List UInt8))))) (o:(List (List UInt8))),Qfe p1 h0_0=some o→CallOK Tryz.prog 42 [.agg [.mh 0],.p (.sl false (p1.map cStr))] ⟨[[mpD sV (fun x =>.sl false (x.map cStr)) h0_0]],[]⟩ (Qhk o) ⟨[[mpD sV (fun x =>.sl false (x.map cStr)) h0_0]],[]⟩:=by
 intro p1 h0_0 o h;unfold Qfe at h;refine CallOK.ofB mixed tbOk Qez Tryz.func42 rfl (by kernel_rfl) (Nat.le_of_ble_eq_true rfl) rfl rfl rfl ?_;refine And.intro rfl (Exists.intro false ?_);refine Qan _ _ h (fun x1 hy=>((Qj5 p1 x1 hy).fr [] [] rfl rfl rfl)) (fun x1 hy h=>?_);refine And.intro rfl (Exists.intro _ (And.intro (List.length_map _) ?_));refine Qal h (fun o2 ho hk=>?_);refine Exists.intro (JP1 _ _ o2 (.exit 0) (Qia h0_0 x1)) (And.intro (Qk2 (τ := Qfh h0_0 x1 0 []) ?_ (TL.loop (Q3b h0_0 x1 0 [] o2 ho))) (Qbb ?_))
 ·exact Le.tz 3 1 rfl rfl rfl
 have h:=hk;refine Qal h (fun o4 ho hk=>?_);refine Exists.intro (JP1 _ _ o4 (.exit 2) (Qic h0_0)) (And.intro (Qk2 (τ := Qfi h0_0 x1 0 o2) ?_ (TL.loop (Q3d h0_0 x1 0 o2 o4 ho))) (Qbb ?_))
 ·exact Le.tz 3 1 rfl rfl rfl
 have h:=hk;refine Q2e h (fun hn0 h=>?_);refine Or.inl ?_;refine⟨rfl,rfl,_,false,o4.1,(srtL o4.1),_,rfl,rfl,Qaf7  hn0 ,rfl,rfl,?_⟩;refine Exists.intro _ (And.intro (Le.trans (τ := ⟨[(4,.x 0 2 (.sl 9 1 ((srtL o4.1).map cStr)))],⟨[[mpD sV (fun x =>.sl false (x.map cStr)) h0_0]],[2]⟩⟩) (Le.tz 1 1 rfl rfl rfl) (Le.trans (τ := ⟨[(4,.x 0 2 (.sl 9 1 ((srtL o4.1).map cStr)))],⟨[[mpD sV (fun x =>.sl false (x.map cStr)) h0_0]],[2]⟩⟩) (Le.tz 1 1 rfl rfl rfl) ((Le.frzv (.s 4) 0 2 rfl rfl rfl rfl).trans (Le.refl _ _ _)))) ?_);refine Qa5 (t:=Qhk) (ss:=fun o=>⟨[[mpD sV (fun x =>.sl false (x.map cStr)) h0_0]],[]⟩) h ?_;exact⟨[],rfl,.refl _,.refl _,rfl⟩
def Qa6 (p0:(List (List UInt8))) (p1:(List UInt8)) (v8:Int):Option (Unit⊕Int) :=
 if(decide (v8<(p0.length:Int))) then
  idx p0 v8>>=fun x4 =>
  if(p1==x4) then
   some (.inr v8)
  else
   Qa6 p0 p1 (wr (v8+1))
 else
  some (.inl ())
 partial_fixpoint
theorem Qti:∀ (p0:(List (List UInt8))) (p1:(List UInt8)),(∀ (v8:Int) (o1:Unit⊕Int),Qa6 p0 p1 v8=some o1→TL (0,0) Tryz.prog 19 Qiv (JP2 (0,0) 19 o1 (.exit 0) (Qel p0 p1) .ret (Qem p0 p1)) (Qcu p0 p1 v8)):=by
 intro p0 p1;refine Qa6.partial_correctness p0 p1 _ ?_;intro Qa6' iQa6 v8 o1 h;refine TL.round (Qas mixed tbOk (lv:=Qfa) _ _ _ ?_);refine Qae h (fun hb h=>?_) (fun hb h=>?_)
 ·refine Qco (l:=p0) (c:=cStr) (c' := cStr) h (fun _=>rfl) (fun _=>rfl) (by decide) (fun x4 hi h=>?_);refine Qae h (fun hb h=>?_) (fun hb h=>?_)
  ·exact JP2.b h (Le.tz 0 0 rfl rfl rfl)
  ·refine TL.le (τ := Qcu p0 p1 (wr (v8+1))) ?_ ((iQa6 (wr (v8+1)) _ h));exact Le.tz 0 0 rfl rfl rfl
 ·exact JP2.a h (Le.tz 0 0 rfl rfl rfl)
def Qcy (p0:(List (List UInt8))) (p1:(List UInt8)):Option (Int) :=
 (Qa6 p0 p1 0)>>=fun o1 =>
 match o1 with
 | .inl y2 =>
  some (-1)
 | .inr y3 =>
  some y3
theorem Qj6:∀ (p0:(List (List UInt8))) (p1:(List UInt8)) (o:Int),Qcy p0 p1=some o→PCall Tryz.prog 74 [.sl false (p0.map cStr),sV p1] (Qcl o):=by
 intro p0 p1 o h;unfold Qcy at h;refine PCall.ofB mixed tbOk Qfa Tryz.func74 rfl (by kernel_rfl) (Nat.le_of_ble_eq_true rfl) ?_;refine view (Qej _ _) rfl ?_;refine Qal h (fun o1 ho hk=>?_);refine Exists.intro (JP2 _ _ o1 (.exit 0) (Qel p0 p1) .ret (Qem p0 p1)) (And.intro (Qk2 (τ := Qcu p0 p1 0) ?_ (TL.loop (Qti p0 p1 0 o1 ho))) (Qjy (fun y2 hy=>?_) (fun y3 hy=>?_)))
 ·exact Le.tz 0 0 rfl rfl rfl
 ·have h:=(by rw[hy] at hk; exact hk);refine Qax (t:=Qcl) h ?_;exact .refl _
 ·have h:=(by rw[hy] at hk; exact hk);refine Qax (t:=Qcl) h ?_;exact .refl _
def Qbn (p0:(List (List UInt8))) (p1:(List UInt8)):Option (Bool) :=
 Qcy p0 p1>>=fun x1 =>
 some (decide (x1 ≥ 0))
theorem Qh8:∀ (p0:(List (List UInt8))) (p1:(List UInt8)) (o:Bool),Qbn p0 p1=some o→PCall Tryz.prog 41 [.sl false (p0.map cStr),sV p1] (Qcz o):=by
 intro p0 p1 o h;unfold Qbn at h;refine PCall.ofB mixed tbOk Qh7 Tryz.func41 rfl (by kernel_rfl) (Nat.le_of_ble_eq_true rfl) ?_;refine Qat [.sl false (p0.map cStr),sV p1] Qcl h (fun x1 hy=>(Qj6 p0 p1 x1 hy)) (fun x1 hy h=>?_);refine Qax (t:=Qcz) h ?_;exact .refl _
def Qei (p0:(List Qac)) (x10:(List ((List UInt8)×(List (List UInt8))))) (v85:Int):Option (Unit⊕(List UInt8)) :=
 if(decide (v85<(p0.length:Int))) then
  idx p0 v85>>=fun x22 =>
  Qfe ((mget (fun a b=>a==b) x22.Name x10).getD []) x10>>=fun x23 =>
  Qbn x23 x22.Name>>=fun x24 =>
  if x24 then
   some (.inr x22.Name)
  else
   Qei p0 x10 (wr (v85+1))
 else
  some (.inl ())
 partial_fixpoint
theorem Q9y:∀ (p0:(List Qac)) (x10:(List ((List UInt8)×(List (List UInt8))))),(∀ (v85:Int) (o19:Unit⊕(List UInt8)),Qei p0 x10 v85=some o19→TL (0,0) Tryz.prog 102 Qvy (JP2 (0,0) 102 o19 (.exit 6) (Qm9 p0 x10) .ret (Qna p0 x10)) (Qiu p0 x10 v85)):=by
 intro p0 x10;refine Qei.partial_correctness p0 x10 _ ?_;intro Qei' iQei v85 o19 h;refine TL.round (Qas mixed tbOk (lv:=Qgj) _ _ _ ?_);refine Qae h (fun hb h=>?_) (fun hb h=>?_)
 ·refine Qco (l:=p0) (c:=Qah) (c' := Qah) h (fun _=>rfl) (fun _=>rfl) (by decide) (fun x22 hi h=>?_);refine And.intro (by decide +kernel) (And.intro rfl ?_);refine And.intro rfl ?_;refine Qpo (l:=x10) (k:=x22.Name) (fun a b=>a==b) (ck:=sV) (ca:=(fun x =>.sl false (x.map cStr))) (z0:=[]) (by exact rfl) (by exact rfl) (by exact rfl) (by exact fun _ _=>rfl) (by exact rfl) (by exact .not) ?_;refine Qn1 (fun x23=>(Qhk x23).ren [0] []) h (fun x23 hy=>(Qsg ((mget (fun a b=>a==b) x22.Name x10).getD []) x10 x23 hy).fd rfl rfl [0] rfl rfl) (fun x23 hy h=>?_);refine Qen [.sl false (x23.map cStr),sV x22.Name] Qcz h (fun x24 hy=>(Qh8 x23 x22.Name x24 hy)) (fun x24 hy h=>?_);refine Qae h (fun hb h=>?_) (fun hb h=>?_)
  ·exact JP2.b h (Le.tz 2 0 rfl rfl rfl)
  ·refine TL.le (τ := Qiu p0 x10 (wr (v85+1))) ?_ ((iQei (wr (v85+1)) _ h));exact Le.tz 2 0 rfl rfl rfl
 ·exact JP2.a h (Le.tz 2 0 rfl rfl rfl)
mutual
def Qdk (p0:(List Qaa)) (h0_0:(List (List UInt8))):Option ((List (List UInt8))) :=
 (Qdt p0 0 h0_0)>>=fun o1 =>
 some o1
 partial_fixpoint
def Qdt (p0:(List Qaa)) (v8:Int) (h0_0_:(List (List UInt8))):Option ((List (List UInt8))) :=
 if(decide (v8<(p0.length:Int))) then
  idx p0 v8>>=fun x2 =>
  ( if(x2.Kind==13) then
    appL 16 h0_0_ [x2.Name]>>=fun x4 =>
    some x4
   else
    some h0_0_:Option ((List (List UInt8))))>>=fun o3 =>
  Qdk x2.Then o3>>=fun x5 =>
  Qdk x2.Else x5>>=fun x6 =>
  Qdt p0 (wr (v8+1)) x6
 else
  some h0_0_
 partial_fixpoint
end
theorem Qv2:(∀ (p0:(List Qaa)) (h0_0:(List (List UInt8))) (o:(List (List UInt8))),Qdk p0 h0_0=some o→CallOK Tryz.prog 99 [.p (.sl false (p0.map Qab)),.ptr 0 0,.ptr 1 0] ⟨[[.x 0 (h0_0.length+1) (.sl 9 1 (h0_0.map cStr))],[.fn (.func 99) [] [.ptr 0 0,.ptr 1 0]]],[(h0_0.length+1)]⟩ (Qml o) ⟨[[.x 0 (o.length+1) (.sl 9 1 (o.map cStr))],[.fn (.func 99) [] [.ptr 0 0,.ptr 1 0]]],[(o.length+1)]⟩)∧(∀ (p0:(List Qaa)) (v8:Int) (h0_0_:(List (List UInt8))) (o1:(List (List UInt8))),Qdt p0 v8 h0_0_=some o1→TL (2,1) Tryz.prog 29 Qur (JP1 (2,1) 29 o1 (.exit 0) (Qly p0)) (Qhj p0 v8 h0_0_)):=by
 refine Qdk.mutual_partial_correctness _ _ ?_ ?_
 ·intro Qdt' iQdt p0 h0_0 o h;refine CallOK.ofB mixed tbOk Qps Tryz.func99 rfl (by kernel_rfl) (Nat.le_of_ble_eq_true rfl) rfl rfl rfl ?_;refine view (Qej _ _) rfl ?_;refine Qal h (fun o1 ho hk=>?_);refine Exists.intro (JP1 _ _ o1 (.exit 0) (Qly p0)) (And.intro (Qk2 (τ := Qhj p0 0 h0_0) ?_ (TL.loop (iQdt p0 0 h0_0 o1 ho))) (Qbb ?_))
  ·exact Le.tz 2 1 rfl rfl rfl
  have h:=hk;refine Exists.intro _ (And.intro (Le.refl _ _ _) ?_);exact Qa5 (t:=Qml) (ss:=fun o=>⟨[[.x 0 (o.length+1) (.sl 9 1 (o.map cStr))],[.fn (.func 99) [] [.ptr 0 0,.ptr 1 0]]],[(o.length+1)]⟩) h ⟨[0],rfl,.refl _,.refl _,rfl⟩
 ·intro Qdk' Qdt' iQdk iQdt p0 v8 h0_0_ o1 h;refine TL.round (Qas mixed tbOk (lv:=Qps) _ _ _ ?_);refine Qae h (fun hb h=>?_) (fun hb h=>?_)
  ·refine Qco (l:=p0) (c:=Qab) (c' := Qbh) h Qap (fun _=>rfl) (by decide) (fun x2 hi h=>?_);refine Qal h (fun o3 ho hk=>?_);refine Exists.intro (JP1 _ _ o3 .normal (Quq p0 v8 x2)) (And.intro ?_ (Qbb ?_))
   ·have h:=ho;refine Qae h (fun hb h=>?_) (fun hb h=>?_)
    ·refine Qafh (a:=h0_0_) (b:=[x2.Name]) (c:=cStr) h (.refl _) (fun _=>rfl) rfl rfl (Nat.zero_lt_succ _) (fun x4 hi h=>?_);refine JP1.a h ?_;exact Le.tz 3 1 rfl rfl rfl
    ·refine JP1.a h ?_;exact Le.tz 3 1 rfl rfl rfl
   ·have h:=hk;refine Qan _ _ h (fun x5 hy=>((iQdk x2.Then o3 x5 hy).fr [0,1] [0] rfl rfl rfl)) (fun x5 hy h=>?_);refine Qan _ _ h (fun x6 hy=>((iQdk x2.Else x5 x6 hy).fr [0,1] [0] rfl rfl rfl)) (fun x6 hy h=>?_);refine TL.le (τ := Qhj p0 (wr (v8+1)) x6) ?_ ((iQdt p0 (wr (v8+1)) x6 _ h));exact Le.tz 2 1 rfl rfl rfl
  ·exact JP1.a h (Le.tz 2 1 rfl rfl rfl)
theorem Qyk:∀ (p0:(List Qaa)) (h0_0:(List (List UInt8))) (o:(List (List UInt8))),Qdk p0 h0_0=some o→CallOK Tryz.prog 99 [.p (.sl false (p0.map Qab)),.ptr 0 0,.ptr 1 0] ⟨[[.x 0 (h0_0.length+1) (.sl 9 1 (h0_0.map cStr))],[.fn (.func 99) [] [.ptr 0 0,.ptr 1 0]]],[(h0_0.length+1)]⟩ (Qml o) ⟨[[.x 0 (o.length+1) (.sl 9 1 (o.map cStr))],[.fn (.func 99) [] [.ptr 0 0,.ptr 1 0]]],[(o.length+1)]⟩:=fun p0 h0_0=>Qv2.1 p0 h0_0
def Qni (p0:(List Qaa)):Option ((List (List UInt8))) :=
 Qdk p0 []>>=fun x1 =>
 need (x1.length<4611686018427387904)>>=fun _ =>
 need ((srtL x1).length<4611686018427387904)>>=fun _ =>
 some (Lib.compact (srtL x1))
theorem Q3e:∀ (p0:(List Qaa)) (o:(List (List UInt8))),Qni p0=some o→CallOK Tryz.prog 73 [.p (.sl false (p0.map Qab))] ⟨[],[]⟩ (Qpr o) ⟨[],[]⟩:=by
 intro p0 o h;unfold Qni at h;refine CallOK.ofB mixed tbOk Q2s Tryz.func73 rfl (by kernel_rfl) (Nat.le_of_ble_eq_true rfl) rfl rfl rfl ?_;refine Exists.intro _ (And.intro (Le.xnil (.h 0 0) 9 1 rfl) ?_);refine Qan _ _ h (fun x1 hy=>((Qyk p0 [] x1 hy).fr [0,1] [0] rfl rfl rfl)) (fun x1 hy h=>?_);refine Q2e h (fun hn0 h=>?_);refine Or.inl ?_;refine⟨rfl,rfl,_,false,x1,(srtL x1),_,rfl,rfl,Qaf7  hn0 ,rfl,rfl,?_⟩;refine Q2e h (fun hn0 h=>?_);refine Or.inl ?_;refine⟨rfl,rfl,_,true,(srtL x1),(Lib.compact (srtL x1)),_,rfl,rfl,Qadb  hn0 ,rfl,?_⟩;refine Exists.intro _ (And.intro (Le.trans (τ := ⟨[(2,.x 0 (((x1.length+1)+1)+1) (.sl 9 1 ((Lib.compact (srtL x1)).map cStr)))],⟨[],[(((x1.length+1)+1)+1)]⟩⟩) (Le.tz 0 1 rfl rfl rfl) (Le.trans (τ := ⟨[(2,.x 0 (((x1.length+1)+1)+1) (.sl 9 1 ((Lib.compact (srtL x1)).map cStr)))],⟨[],[(((x1.length+1)+1)+1)]⟩⟩) (Le.tz 0 1 rfl rfl rfl) ((Le.verh 2 0 (((x1.length+1)+1)+1) 1 rfl rfl rfl rfl).trans ((Le.frzv (.s 2) 0 1 rfl rfl rfl rfl).trans (Le.refl _ _ _))))) ?_);exact Qa5 (t:=Qpr) (ss:=fun o=>⟨[],[]⟩) h ⟨[],rfl,.refl _,.refl _,rfl⟩
def Qdl (p0:(List Qac)) (v12:Int) (h1_0:(List ((List UInt8)×(List (List UInt8))))):Option (((List ((List UInt8)×(List (List UInt8)))))) :=
 if(decide (v12<(p0.length:Int))) then
  idx p0 v12>>=fun x2 =>
  if(!((mget (fun a b=>a==b) x2.Name h1_0).isSome)) then
   Qni x2.L>>=fun x3 =>
   Qdl p0 (wr (v12+1)) (mset (fun a b=>a==b) x2.Name x3 h1_0)
  else
   Qdl p0 (wr (v12+1)) h1_0
 else
  some h1_0
 partial_fixpoint
theorem Q9z:∀ (p0:(List Qac)),(∀ (v12:Int) (h1_0:(List ((List UInt8)×(List (List UInt8))))) (o1:((List ((List UInt8)×(List (List UInt8)))))),Qdl p0 v12 h1_0=some o1→TL (0,0) Tryz.prog 35 Qvz (JP1 (0,0) 35 o1 (.exit 0) (Qnb p0)) (Qf4 p0 v12 h1_0)):=by
 intro p0;refine Qdl.partial_correctness p0 _ ?_;intro Qdl' iQdl v12 h1_0 o1 h;refine TL.round (Qas mixed tbOk (lv:=Qrr) _ _ _ ?_);refine Qae h (fun hb h=>?_) (fun hb h=>?_)
 ·refine Qco (l:=p0) (c:=Qah) (c' := Qah) h (fun _=>rfl) (fun _=>rfl) (by decide) (fun x2 hi h=>?_);refine Qpo (l:=h1_0) (k:=x2.Name) (fun a b=>a==b) (ck:=sV) (ca:=(fun x =>.sl false (x.map cStr))) (z0:=[]) (by exact rfl) (by exact rfl) (by exact rfl) (by exact fun _ _=>rfl) (by exact rfl) (by exact .not) ?_;refine Qae h (fun hb h=>?_) (fun hb h=>?_)
  ·refine And.intro (by decide +kernel) (And.intro (by decide +kernel) (And.intro rfl ?_));refine Qn1 (fun x3=>(Qpr x3).ren [] []) h (fun x3 hy=>(Q3e x2.L x3 hy).fd rfl rfl [] rfl rfl) (fun x3 hy h=>?_);refine Q5u (l:=h1_0) (k:=x2.Name) (x:=x3) (fun a b=>a==b) (ck:=sV) (ca:=(fun x =>.sl false (x.map cStr))) (by exact rfl) (by exact rfl) (by exact rfl) (by exact .refl _) (by exact fun _ _=>rfl) ?_;refine TL.le (τ := Qf4 p0 (wr (v12+1)) (mset (fun a b=>a==b) x2.Name x3 h1_0)) ?_ ((iQdl (wr (v12+1)) (mset (fun a b=>a==b) x2.Name x3 h1_0) _ h));exact Le.tz 3 0 rfl rfl rfl
  ·refine TL.le (τ := Qf4 p0 (wr (v12+1)) h1_0) ?_ ((iQdl (wr (v12+1)) h1_0 _ h));exact Le.tz 3 0 rfl rfl rfl
 ·exact JP1.a h (Le.tz 3 0 rfl rfl rfl)
def Qld (p0:(List Qac)):Option ((List ((List UInt8)×(List (List UInt8))))) :=
 (Qdl p0 0 [])>>=fun o1 =>
 some o1
theorem Qz8:∀ (p0:(List Qac)) (o:(List ((List UInt8)×(List (List UInt8))))),Qld p0=some o→CallOK Tryz.prog 40 [.p (.sl false (p0.map Qah))] ⟨[],[]⟩ (Qs9 o) ⟨[[mpD sV (fun x =>.sl false (x.map cStr)) o]],[]⟩:=by
 intro p0 o h;unfold Qld at h;refine CallOK.ofBN mixed tbOk Qrr Tryz.func40 rfl (by kernel_rfl) (Nat.le_of_ble_eq_true rfl) rfl rfl (Nat.le_of_ble_eq_true rfl) ?_;refine And.intro rfl (Exists.intro false ?_);refine view (Qej _ _) rfl ?_;refine Qal h (fun o1 ho hk=>?_);refine Exists.intro (JP1 _ _ o1 (.exit 0) (Qnb p0)) (And.intro (Qk2 (τ := Qf4 p0 0 []) ?_ (TL.loop (Q9z p0 0 [] o1 ho))) (Qbb ?_))
 ·exact Le.tz 3 0 rfl rfl rfl
 have h:=hk;refine Exists.intro _ (And.intro (Le.refl _ _ _) ?_);refine Qahb (t:=Qs9) (ss:=fun o=>⟨[[mpD sV (fun x =>.sl false (x.map cStr)) o]],[]⟩) h ?_;exact⟨[1],[],rfl,rfl,.refl _,.refl _,rfl,rfl⟩
def Qix (p0:(List Qac)):Option ((List UInt8)×Int) :=
 if(decide ((p0.length:Int)>16)) then
  some ([],5)
 else
  (Qef p0 0)>>=fun o1 =>
  match o1 with
  | .inl y2 =>
   Qld p0>>=fun x10 =>
   (Qeh p0 x10 0)>>=fun o11 =>
   match o11 with
   | .inl y12 =>
    (Qei p0 x10 0)>>=fun o19 =>
    match o19 with
    | .inl y20 =>
     some ([],0)
    | .inr y21 =>
     some (y21,10)
   | .inr y13 =>
    some (y13,4)
  | .inr y3 =>
   some (y3.1,y3.2)
theorem Qrw:∀ (p0:(List Qac)) (o:(List UInt8)×Int),Qix p0=some o→PCall Tryz.prog 13 [.sl false (p0.map Qah)] (Qd7 o):=by
 intro p0 o h;unfold Qix at h;refine PCall.ofB mixed tbOk Qgj Tryz.func13 rfl (by kernel_rfl) (Nat.le_of_ble_eq_true rfl) ?_;refine view (Qej _ _) rfl ?_;refine Qae h (fun hb h=>?_) (fun hb h=>?_)
 ·refine Qax (t:=Qd7) h ?_;exact .refl _
 ·refine view (Qej _ _) rfl ?_;refine Qal h (fun o1 ho hk=>?_);refine Exists.intro (JP2 _ _ o1 (.exit 0) (Qm3 p0) .ret (Qm4 p0)) (And.intro (Qk2 (τ := Qir p0 0) ?_ (TL.loop (Q9v p0 0 o1 ho))) (Qjy (fun y2 hy=>?_) (fun y3 hy=>?_)))
  ·exact Le.tz 0 0 rfl rfl rfl
  ·have h:=(by rw[hy] at hk; exact hk);refine Qan _ _ h (fun x10 hy=>((Qz8 p0 x10 hy).frN [] [] rfl rfl rfl)) (fun x10 hy h=>?_);refine view (Qej _ _) rfl ?_;refine Qal h (fun o11 ho hk=>?_);refine Exists.intro (JP2 _ _ o11 (.exit 2) (Qm7 p0 x10) .ret (Qm8 p0 x10)) (And.intro (Qk2 (τ := Qit p0 x10 0) ?_ (TL.loop (Q9x p0 x10 0 o11 ho))) (Qjy (fun y12 hy=>?_) (fun y13 hy=>?_)))
   ·exact Le.tz 2 0 rfl rfl rfl
   ·have h:=(by rw[hy] at hk; exact hk);refine view (Qej _ _) rfl ?_;refine Qal h (fun o19 ho hk=>?_);refine Exists.intro (JP2 _ _ o19 (.exit 6) (Qm9 p0 x10) .ret (Qna p0 x10)) (And.intro (Qk2 (τ := Qiu p0 x10 0) ?_ (TL.loop (Q9y p0 x10 0 o19 ho))) (Qjy (fun y20 hy=>?_) (fun y21 hy=>?_)))
    ·exact Le.tz 2 0 rfl rfl rfl
    ·have h:=(by rw[hy] at hk; exact hk);refine Qax (t:=Qd7) h ?_;exact .refl _
    ·have h:=(by rw[hy] at hk; exact hk);refine Qax (t:=Qd7) h ?_;exact .refl _
   ·have h:=(by rw[hy] at hk; exact hk);refine Qax (t:=Qd7) h ?_;exact .refl _
  ·have h:=(by rw[hy] at hk; exact hk);refine Qax (t:=Qd7) h ?_;exact .refl _
end Go.Proofs.YtfgegilhjlnohaaGreat
end
