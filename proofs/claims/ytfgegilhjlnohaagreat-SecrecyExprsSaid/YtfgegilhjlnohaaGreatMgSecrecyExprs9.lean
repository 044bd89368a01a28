/- The proof's texts, part 9 of 12: the walks by a logic in which data are by value, the plain laws, and at the end the law, for every input. -/
import Derived.Test.YtfgegilhjlnohaaGreatMgSecrecyExprs8

noncomputable section
set_option linter.unusedVariables false
set_option linter.unusedSimpArgs false
set_option maxRecDepth 100000
set_option maxHeartbeats 4000000
namespace Go.Proofs.YtfgegilhjlnohaaGreat
open Go.RowKit
theorem Q0o:(∀ (p0:(List Qab)) (p1:Bool) (o:Bool),Qhg p0 p1=some o→PCall Tryz.prog 72 [.sl false (p0.map Qaa),bV p1] (Qfs o))∧(∀ (p0:(List Qab)) (p1:Bool) (v10:Int) (o1:Unit⊕Unit),Qgd p0 p1 v10=some o1→TL (0,0) Tryz.prog 52 Qyk (JP2 (0,0) 52 o1 (.exit 0) (Qoy p0 p1) .ret (Qoz p0 p1)) (Qj9 p0 p1 v10))∧(∀ (p0:Qab) (o:Bool),Qqf p0=some o→PCall Tryz.prog 97 [.agg [iV p0.Kind,sV p0.Name,sV p0.Text,iV p0.N,.sl false (p0.L.map Qaa),.sl false (p0.Then.map Qaa),.sl false (p0.Else.map Qaa)]] (Qoc o)):=by
 refine Qhg.mutual_partial_correctness _ _ _ ?_ ?_ ?_
 ·intro Qgd' iQgd p0 p1 o h;refine PCall.ofB mixed tbOk Qtp Tryz.func72 rfl (by kernel_rfl) (Nat.le_of_ble_eq_true rfl) ?_;refine view (Qdn _ _) rfl ?_;refine Qam h (fun o1 ho hk=>?_);refine Exists.intro (JP2 _ _ o1 (.exit 0) (Qoy p0 p1) .ret (Qoz p0 p1)) (And.intro (Qkn (τ := Qj9 p0 p1 0) ?_ (TL.loop (iQgd p0 p1 0 o1 ho))) (Qin (fun y2 hy=>?_) (fun y3 hy=>?_)))
  ·exact Le.tz 0 0 rfl rfl rfl
  ·have h:=(by rw[hy] at hk; exact hk);refine Qav (t:=Qfs) h ?_;exact .refl _
  ·have h:=(by rw[hy] at hk; exact hk);refine Qav (t:=Qfs) h ?_;exact .refl _
 ·intro Qgd' Qqf' iQgd iQqf p0 p1 v10 o1 h;refine TL.round (Qas mixed tbOk (lv:=Qtp) _ _ _ ?_);refine Qad h (fun hb h=>?_) (fun hb h=>?_)
  ·refine Qbu (l:=p0) (c:=Qaa) (c' := Qa5) h Qap (fun _=>rfl) (by decide) (fun x4 hi h=>?_);refine Qat [.agg [iV x4.Kind,sV x4.Name,sV x4.Text,iV x4.N,.sl false (x4.L.map Qaa),.sl false (x4.Then.map Qaa),.sl false (x4.Else.map Qaa)]] Qoc h (fun x5 hy=>(iQqf x4 x5 hy)) (fun x5 hy h=>?_);refine Qad h (fun hb h=>?_) (fun hb h=>?_)
   ·exact JP2.b h (Le.tz 0 0 rfl rfl rfl)
   ·refine view (Qdn _ _) rfl ?_;refine Qam h (fun o6 ho hk=>?_);refine Exists.intro (JP1 _ _ o6 .normal (Qyj p0 p1 v10 x4)) (And.intro ?_ (Qbe ?_))
    ·have h:=ho;refine Qad h (fun hb h=>?_) (fun hb h=>?_)
     ·refine Qad h (fun hb h=>?_) (fun hb h=>?_)
      ·refine Qbu (l:=p0) (c:=Qaa) (c' := Qa5) h Qap (fun _=>rfl) (by decide) (fun x7 hi h=>?_);refine Qad h (fun hb h=>?_) (fun hb h=>?_)
       ·refine JP1.a h ?_;exact Le.tz 1 0 rfl rfl rfl
       ·refine Qad h (fun hb h=>?_) (fun hb h=>?_)
        ·refine Qad h (fun hb h=>?_) (fun hb h=>?_)
         ·refine Qat [sV x4.Text,sV [123]] Qc4 h (fun x8 hy=>(Qen x4.Text [123] x8 hy)) (fun x8 hy h=>?_);refine JP1.a h ?_;exact Le.tz 1 0 rfl rfl rfl
         ·refine JP1.a h ?_;exact Le.tz 1 0 rfl rfl rfl
        ·refine bT ?_;refine Qat [sV x4.Text,sV [123]] Qc4 h (fun x9 hy=>(Qen x4.Text [123] x9 hy)) (fun x9 hy h=>?_);refine JP1.a h ?_;exact Le.tz 1 0 rfl rfl rfl
      ·refine bF ?_;refine Qad h (fun hb h=>?_) (fun hb h=>?_)
       ·refine Qad h (fun hb h=>?_) (fun hb h=>?_)
        ·refine Qat [sV x4.Text,sV [123]] Qc4 h (fun x10 hy=>(Qen x4.Text [123] x10 hy)) (fun x10 hy h=>?_);refine JP1.a h ?_;exact Le.tz 1 0 rfl rfl rfl
        ·refine JP1.a h ?_;exact Le.tz 1 0 rfl rfl rfl
       ·refine bT ?_;refine Qat [sV x4.Text,sV [123]] Qc4 h (fun x11 hy=>(Qen x4.Text [123] x11 hy)) (fun x11 hy h=>?_);refine JP1.a h ?_;exact Le.tz 1 0 rfl rfl rfl
     ·refine JP1.a h ?_;exact Le.tz 1 0 rfl rfl rfl
    ·have h:=hk;refine Qad h (fun hb h=>?_) (fun hb h=>?_)
     ·exact JP2.b h (Le.tz 0 0 rfl rfl rfl)
     ·refine TL.le (τ := Qj9 p0 p1 (wr (v10+1))) ?_ ((iQgd p0 p1 (wr (v10+1)) _ h));exact Le.tz 0 0 rfl rfl rfl
  ·exact JP2.a h (Le.tz 0 0 rfl rfl rfl)
 ·intro Qhg' iQhg p0 o h;refine PCall.ofB mixed tbOk Q6q Tryz.func97 rfl (by kernel_rfl) (Nat.le_of_ble_eq_true rfl) ?_;refine Qat [.agg [iV p0.Kind,sV p0.Name,sV p0.Text,iV p0.N,.sl false (p0.L.map Qaa),.sl false (p0.Then.map Qaa),.sl false (p0.Else.map Qaa)]] Qjh h (fun x1 hy=>(Qqe p0 x1 hy)) (fun x1 hy h=>?_);refine Qam h (fun o2 ho hk=>?_);refine Exists.intro (JP2 _ _ o2 .normal (Q0g p0 x1) .ret (Q0h p0 x1)) (And.intro ?_ (Qin (fun y3 hy=>?_) (fun y4 hy=>?_)))
  ·have h:=ho;refine Qad h (fun hb h=>?_) (fun hb h=>?_)
   ·refine Qam h (fun o5 ho hk=>?_);refine Exists.intro (JP1 _ _ o5 .normal (Q0i p0 x1)) (And.intro ?_ (Qbe ?_))
    ·have h:=ho;refine And.intro rfl ?_;refine Qad h (fun hb h=>?_) (fun hb h=>?_)
     ·refine Qat [sV p0.Text,sV [123,123]] Qho h (fun x6 hy=>(Qst p0.Text [123,123] x6 hy)) (fun x6 hy h=>?_);refine JP1.a h ?_;exact Le.tz 3 0 rfl rfl rfl
     ·refine JP1.a h ?_;exact Le.tz 3 0 rfl rfl rfl
    ·have h:=hk;refine JP2.b h ?_;exact Le.tz 3 0 rfl rfl rfl
   ·refine Qad h (fun hb h=>?_) (fun hb h=>?_)
    ·refine JP2.a h ?_;exact Le.tz 3 0 rfl rfl rfl
    ·refine Qad h (fun hb h=>?_) (fun hb h=>?_)
     ·refine And.intro (by decide +kernel) (And.intro rfl ?_);refine JP2.a h ?_;exact Le.tz 3 0 rfl rfl rfl
     ·refine Qam h (fun o7 ho hk=>?_);refine Exists.intro (JP1 _ _ o7 .normal (Q0j p0 x1)) (And.intro ?_ (Qbe ?_))
      ·have h:=ho;refine Qad h (fun hb h=>?_) (fun hb h=>?_)
       ·refine JP1.a h ?_;exact Le.tz 3 0 rfl rfl rfl
       ·refine JP1.a h ?_;exact Le.tz 3 0 rfl rfl rfl
      ·have h:=hk;refine Qad h (fun hb h=>?_) (fun hb h=>?_)
       ·refine And.intro (by decide +kernel) (And.intro rfl ?_);refine Qd4 [sV p0.Name] Qfr h (fun x8 hy=>(Qjr p0.Name x8 hy)) (fun x8 hy h=>?_);refine JP2.a h ?_;exact Le.tz 3 0 rfl rfl rfl
       ·refine Qad h (fun hb h=>?_) (fun hb h=>?_)
        ·refine Qat [sV p0.Name] Qfr h (fun x9 hy=>(Qjr p0.Name x9 hy)) (fun x9 hy h=>?_);refine JP2.a h ?_;exact Le.tz 3 0 rfl rfl rfl
        ·refine JP2.b h ?_;exact Le.tz 3 0 rfl rfl rfl
  ·have h:=(by rw[hy] at hk; exact hk);refine Qam h (fun o10 ho hk=>?_);refine Exists.intro (JP1 _ _ o10 .normal (Q0k p0 x1 y3)) (And.intro ?_ (Qbe ?_))
   ·have h:=ho;refine Qad h (fun hb h=>?_) (fun hb h=>?_)
    ·refine bT ?_;refine JP1.a h ?_;exact Le.tz 3 0 rfl rfl rfl
    ·refine Qad h (fun hb h=>?_) (fun hb h=>?_)
     ·refine JP1.a h ?_;exact Le.tz 3 0 rfl rfl rfl
     ·refine JP1.a h ?_;exact Le.tz 3 0 rfl rfl rfl
   ·have h:=hk;refine Qam h (fun o11 ho hk=>?_);refine Exists.intro (JP1 _ _ o11 .normal (Q0l p0 x1 y3)) (And.intro ?_ (Qbe ?_))
    ·have h:=ho;refine Qad h (fun hb h=>?_) (fun hb h=>?_)
     ·refine And.intro rfl ?_;refine Qad h (fun hb h=>?_) (fun hb h=>?_)
      ·refine Qbu (l:=p0.L) (c:=Qaa) (c' := Qa5) h Qap (fun _=>rfl) (by decide) (fun x12 hi h=>?_);refine Qat [.agg [iV x12.Kind,sV x12.Name,sV x12.Text,iV x12.N,.sl false (x12.L.map Qaa),.sl false (x12.Then.map Qaa),.sl false (x12.Else.map Qaa)]] Qc5 h (fun x13 hy=>(Q60 x12 x13 hy)) (fun x13 hy h=>?_);refine Qad h (fun hb h=>?_) (fun hb h=>?_)
       ·refine Qat [.sl false (p0.Then.map Qaa),bV false] Qfs h (fun x14 hy=>(iQhg p0.Then false x14 hy)) (fun x14 hy h=>?_);refine Qad h (fun hb h=>?_) (fun hb h=>?_)
        ·refine Qat [.sl false (p0.Else.map Qaa),bV false] Qfs h (fun x15 hy=>(iQhg p0.Else false x15 hy)) (fun x15 hy h=>?_);refine JP1.a h ?_;exact Le.tz 3 0 rfl rfl rfl
        ·refine JP1.a h ?_;exact Le.tz 3 0 rfl rfl rfl
       ·refine bF ?_;refine JP1.a h ?_;exact Le.tz 3 0 rfl rfl rfl
      ·refine bF ?_;refine bF ?_;refine JP1.a h ?_;exact Le.tz 3 0 rfl rfl rfl
     ·refine bF ?_;refine bF ?_;refine bF ?_;refine JP1.a h ?_;exact Le.tz 3 0 rfl rfl rfl
    ·have h:=hk;refine Qav (t:=Qoc) h ?_;exact .refl _
  ·have h:=(by rw[hy] at hk; exact hk);refine Qav (t:=Qoc) h ?_;exact .refl _
theorem Q3t:∀ (p0:(List Qab)) (p1:Bool) (o:Bool),Qhg p0 p1=some o→PCall Tryz.prog 72 [.sl false (p0.map Qaa),bV p1] (Qfs o):=fun p0 p1=>Q0o.1 p0 p1
def Qyw (p0:(List Qab)):Option (Bool) :=
 ( Qqd p0>>=fun x2 =>
  if(decide (x2≤12)) then
   Qnk p0>>=fun x3 =>
   if(decide (x3≤1024)) then
    Qhg p0 true>>=fun x4 =>
    some x4
   else
    some false
  else
   some false:Option (Bool))>>=fun o1 =>
 some o1
theorem Qab3:∀ (p0:(List Qab)) (o:Bool),Qyw p0=some o→PCall Tryz.prog 38 [.sl false (p0.map Qaa)] (Qyg o):=by
 intro p0 o h;unfold Qyw at h;refine PCall.ofB mixed tbOk Qabw Tryz.func38 rfl (by kernel_rfl) (Nat.le_of_ble_eq_true rfl) ?_;refine Qam h (fun o1 ho hk=>?_);refine Exists.intro (JP1 _ _ o1 .normal (Q6n )) (And.intro ?_ (Qbe ?_))
 ·have h:=ho;refine Qat [.sl false (p0.map Qaa)] Qsp h (fun x2 hy=>(Q6w p0 x2 hy)) (fun x2 hy h=>?_);refine Qad h (fun hb h=>?_) (fun hb h=>?_)
  ·refine Qat [.sl false (p0.map Qaa)] Qp7 h (fun x3 hy=>(Q3q p0 x3 hy)) (fun x3 hy h=>?_);refine Qad h (fun hb h=>?_) (fun hb h=>?_)
   ·refine Qat [.sl false (p0.map Qaa),bV true] Qfs h (fun x4 hy=>(Q3t p0 true x4 hy)) (fun x4 hy h=>?_);refine JP1.a h ?_;exact Le.tz 0 0 rfl rfl rfl
   ·refine JP1.a h ?_;exact Le.tz 0 0 rfl rfl rfl
  ·refine bF ?_;refine JP1.a h ?_;exact Le.tz 0 0 rfl rfl rfl
 ·have h:=hk;refine Qav (t:=Qyg) h ?_;exact .refl _
def Qeg (p0:(List Qae)) (v22:Int):Option (Unit⊕((List UInt8)×Int)) :=
 if(decide (v22<(p0.length:Int))) then
  idx p0 v22>>=fun x4 =>
  ( Qhu x4.Name>>=fun x6 =>
   if(!x6) then
    some true
   else
    Qyw x4.L>>=fun x7 =>
    some (!x7):Option (Bool))>>=fun o5 =>
  if o5 then
   some (.inr (x4.Name,7))
  else
   cutL p0 0 v22>>=fun x8 =>
   Qgb x8 x4.Name>>=fun x9 =>
   if x9.2 then
    some (.inr (x4.Name,9))
   else
    Qeg p0 (wr (v22+1))
 else
  some (.inl ())
 partial_fixpoint
theorem Qaao:∀ (p0:(List Qae)),(∀ (v22:Int) (o1:Unit⊕((List UInt8)×Int)),Qeg p0 v22=some o1→TL (0,0) Tryz.prog 102 Qwd (JP2 (0,0) 102 o1 (.exit 0) (Qm8 p0) .ret (Qm9 p0)) (Qiu p0 v22)):=by
 intro p0;refine Qeg.partial_correctness p0 _ ?_;intro Qeg' iQeg v22 o1 h;refine TL.round (Qas mixed tbOk (lv:=Qgn) _ _ _ ?_);refine Qad h (fun hb h=>?_) (fun hb h=>?_)
 ·refine Qbu (l:=p0) (c:=Qaj) (c' := Qaj) h (fun _=>rfl) (fun _=>rfl) (by decide) (fun x4 hi h=>?_);refine Qam h (fun o5 ho hk=>?_);refine Exists.intro (JP1 _ _ o5 .normal (Qwc p0 v22 x4)) (And.intro ?_ (Qbe ?_))
  ·have h:=ho;refine Qat [sV x4.Name] Qfr h (fun x6 hy=>(Qjr x4.Name x6 hy)) (fun x6 hy h=>?_);refine Qad h (fun hb h=>?_) (fun hb h=>?_)
   ·refine JP1.a h ?_;exact Le.tz 1 0 rfl rfl rfl
   ·refine Qat [.sl false (x4.L.map Qaa)] Qyg h (fun x7 hy=>(Qab3 x4.L x7 hy)) (fun x7 hy h=>?_);refine JP1.a h ?_;exact Le.tz 1 0 rfl rfl rfl
  ·have h:=hk;refine Qad h (fun hb h=>?_) (fun hb h=>?_)
   ·exact JP2.b h (Le.tz 0 0 rfl rfl rfl)
   ·refine And.intro (by decide +kernel) (And.intro rfl ?_);refine Qagr (c:=Qaj) none (some v22) h (fun _=>rfl) (fun x8 hi h=>?_);refine Qd4 [.sl false (x8.map Qaj),sV x4.Name] Qes h (fun x9 hy=>(Qhs x8 x4.Name x9 hy)) (fun x9 hy h=>?_);refine Qad h (fun hb h=>?_) (fun hb h=>?_)
    ·exact JP2.b h (Le.tz 0 0 rfl rfl rfl)
    ·refine TL.le (τ := Qiu p0 (wr (v22+1))) ?_ ((iQeg (wr (v22+1)) _ h));exact Le.tz 0 0 rfl rfl rfl
 ·exact JP2.a h (Le.tz 0 0 rfl rfl rfl)
def Qeh (p0:(List Qae)) (x10:(List ((List UInt8)×(List (List UInt8))))) (v56:Int) (x14:Qae) (v66:Int):Option (Unit⊕Unit) :=
 if(decide (v66<(((mget (fun a b=>a==b) x14.Name x10).getD []).length:Int))) then
  idx ((mget (fun a b=>a==b) x14.Name x10).getD []) v66>>=fun x18 =>
  if(!((mget (fun a b=>a==b) x18 x10).isSome)) then
   some (.inr ())
  else
   Qeh p0 x10 v56 x14 (wr (v66+1))
 else
  some (.inl ())
 partial_fixpoint
theorem Qaap:∀ (p0:(List Qae)) (x10:(List ((List UInt8)×(List (List UInt8))))) (v56:Int) (x14:Qae),(∀ (v66:Int) (o15:Unit⊕Unit),Qeh p0 x10 v56 x14 v66=some o15→TL (0,0) Tryz.prog 102 Qwe (JP2 (0,0) 102 o15 (.exit 4) (Qna p0 x10 v56 x14) .ret (Qnb p0 x10 v56 x14)) (Qiv p0 x10 v56 x14 v66)):=by
 intro p0 x10 v56 x14;refine Qeh.partial_correctness p0 x10 v56 x14 _ ?_;intro Qeh' iQeh v66 o15 h;refine TL.round (Qas mixed tbOk (lv:=Qgn) _ _ _ ?_);refine Qad h (fun hb h=>?_) (fun hb h=>?_)
 ·refine Qbu (l:=((mget (fun a b=>a==b) x14.Name x10).getD [])) (c:=cStr) (c' := cStr) h (fun _=>rfl) (fun _=>rfl) (by decide) (fun x18 hi h=>?_);refine Qpx (l:=x10) (k:=x18) (fun a b=>a==b) (ck:=sV) (ca:=(fun x =>.sl false (x.map cStr))) (z0:=[]) (by exact rfl) (by exact rfl) (by exact rfl) (by exact fun _ _=>rfl) (by exact rfl) (by exact .not) ?_;refine Qad h (fun hb h=>?_) (fun hb h=>?_)
  ·exact JP2.b h (Le.tz 3 0 rfl rfl rfl)
  ·refine TL.le (τ := Qiv p0 x10 v56 x14 (wr (v66+1))) ?_ ((iQeh (wr (v66+1)) _ h));exact Le.tz 3 0 rfl rfl rfl
 ·exact JP2.a h (Le.tz 3 0 rfl rfl rfl)
def Qei (p0:(List Qae)) (x10:(List ((List UInt8)×(List (List UInt8))))) (v56:Int):Option (Unit⊕(List UInt8)) :=
 if(decide (v56<(p0.length:Int))) then
  idx p0 v56>>=fun x14 =>
  (Qeh p0 x10 v56 x14 0)>>=fun o15 =>
  match o15 with
  | .inl y16 =>
   Qei p0 x10 (wr (v56+1))
  | .inr y17 =>
   some (.inr x14.Name)
 else
  some (.inl ())
 partial_fixpoint
theorem Qaaq:∀ (p0:(List Qae)) (x10:(List ((List UInt8)×(List (List UInt8))))),(∀ (v56:Int) (o11:Unit⊕(List UInt8)),Qei p0 x10 v56=some o11→TL (0,0) Tryz.prog 102 Qwf (JP2 (0,0) 102 o11 (.exit 2) (Qnc p0 x10) .ret (Qnd p0 x10)) (Qiw p0 x10 v56)):=by
 intro p0 x10;refine Qei.partial_correctness p0 x10 _ ?_;intro Qei' iQei v56 o11 h;refine TL.round (Qas mixed tbOk (lv:=Qgn) _ _ _ ?_);refine Qad h (fun hb h=>?_) (fun hb h=>?_)
 ·refine Qbu (l:=p0) (c:=Qaj) (c' := Qaj) h (fun _=>rfl) (fun _=>rfl) (by decide) (fun x14 hi h=>?_);refine Qpx (l:=x10) (k:=x14.Name) (fun a b=>a==b) (ck:=sV) (ca:=(fun x =>.sl false (x.map cStr))) (z0:=[]) (by exact rfl) (by exact rfl) (by exact rfl) (by exact fun _ _=>rfl) (by exact rfl) (by exact .not) ?_;refine view (Qdn _ _) rfl ?_;refine Qam h (fun o15 ho hk=>?_);refine Exists.intro (JP2 _ _ o15 (.exit 4) (Qna p0 x10 v56 x14) .ret (Qnb p0 x10 v56 x14)) (And.intro (Qkn (τ := Qiv p0 x10 v56 x14 0) ?_ (TL.loop (Qaap p0 x10 v56 x14 0 o15 ho))) (Qin (fun y16 hy=>?_) (fun y17 hy=>?_)))
  ·exact Le.tz 3 0 rfl rfl rfl
  ·have h:=(by rw[hy] at hk; exact hk);refine TL.le (τ := Qiw p0 x10 (wr (v56+1))) ?_ ((iQei (wr (v56+1)) _ h));exact Le.tz 2 0 rfl rfl rfl
  ·have h:=(by rw[hy] at hk; exact hk);exact JP2.b h (Le.tz 2 0 rfl rfl rfl)
 ·exact JP2.a h (Le.tz 2 0 rfl rfl rfl)
def Qcl (h0_0:(List ((List UInt8)×(List (List UInt8))))) (x1:(List (List UInt8))) (v17:Int) (h2_0:(List ((List UInt8)×Int))):Option (((List ((List UInt8)×Int)))) :=
 if(decide (v17<(x1.length:Int))) then
  idx x1 v17>>=fun x3 =>
  Qcl h0_0 x1 (wr (v17+1)) (mset (fun a b=>a==b) x3 1 h2_0)
 else
  some h2_0
 partial_fixpoint
theorem Q3u:∀ (h0_0:(List ((List UInt8)×(List (List UInt8))))) (x1:(List (List UInt8))),(∀ (v17:Int) (h2_0:(List ((List UInt8)×Int))) (o2:((List ((List UInt8)×Int)))),Qcl h0_0 x1 v17 h2_0=some o2→TL (1,0) Tryz.prog 56 Qp2 (JP1 (1,0) 56 o2 (.exit 0) (Qie h0_0 x1)) (Qfh h0_0 x1 v17 h2_0)):=by
 intro h0_0 x1;refine Qcl.partial_correctness h0_0 x1 _ ?_;intro Qcl' iQcl v17 h2_0 o2 h;refine TL.round (Qas mixed tbOk (lv:=Qev) _ _ _ ?_);refine Qad h (fun hb h=>?_) (fun hb h=>?_)
 ·refine Qu4 (l:=x1) (c:=cStr) (c' := cStr) h rfl (fun _=>rfl) (fun _=>rfl) (by decide) (fun x3 hi h=>?_);refine And.intro rfl (And.intro (Nat.le_of_ble_eq_true rfl) ?_);refine Q6h (l:=h2_0) (k:=x3) (x:=1) (fun a b=>a==b) (ck:=sV) (ca:=iV) (by exact rfl) (by exact rfl) (by exact rfl) (by exact .refl _) (by exact fun _ _=>rfl) ?_;refine TL.le (τ := Qfh h0_0 x1 (wr (v17+1)) (mset (fun a b=>a==b) x3 1 h2_0)) ?_ ((iQcl (wr (v17+1)) (mset (fun a b=>a==b) x3 1 h2_0) _ h));exact Le.tz 3 1 rfl rfl rfl
 ·exact JP1.a h (Le.tz 3 1 rfl rfl rfl)
def Qb0 (h0_0:(List ((List UInt8)×(List (List UInt8))))) (v9:Int) (x5:(List UInt8)) (v6_:(List (List UInt8))) (v38:Int) (h2_0_:(List ((List UInt8)×Int))):Option (((List (List UInt8))×(List ((List UInt8)×Int)))) :=
 if(decide (v38<(((mget (fun a b=>a==b) x5 h0_0).getD []).length:Int))) then
  idx ((mget (fun a b=>a==b) x5 h0_0).getD []) v38>>=fun x7 =>
  if(((mget (fun a b=>a==b) x7 h2_0_).getD 0)==0) then
   appL 16 v6_ [x7]>>=fun x8 =>
   Qb0 h0_0 v9 x5 x8 (wr (v38+1)) (mset (fun a b=>a==b) x7 1 h2_0_)
  else
   Qb0 h0_0 v9 x5 v6_ (wr (v38+1)) h2_0_
 else
  some (v6_,h2_0_)
 partial_fixpoint
theorem Q3v:∀ (h0_0:(List ((List UInt8)×(List (List UInt8))))) (v9:Int) (x5:(List UInt8)),(∀ (v6_:(List (List UInt8))) (v38:Int) (h2_0_:(List ((List UInt8)×Int))) (o6:((List (List UInt8))×(List ((List UInt8)×Int)))),Qb0 h0_0 v9 x5 v6_ v38 h2_0_=some o6→TL (1,0) Tryz.prog 56 Qp3 (JP1 (1,0) 56 o6 (.exit 4) (Qif h0_0 v9 x5)) (Qd5 h0_0 v9 x5 v6_ v38 h2_0_)):=by
 intro h0_0 v9 x5;refine Qb0.partial_correctness h0_0 v9 x5 _ ?_;intro Qb0' iQb0 v6_ v38 h2_0_ o6 h;refine TL.round (Qas mixed tbOk (lv:=Qev) _ _ _ ?_);refine Qad h (fun hb h=>?_) (fun hb h=>?_)
 ·refine Qbu (l:=((mget (fun a b=>a==b) x5 h0_0).getD [])) (c:=cStr) (c' := cStr) h (fun _=>rfl) (fun _=>rfl) (by decide) (fun x7 hi h=>?_);refine Qpx (l:=h2_0_) (k:=x7) (fun a b=>a==b) (ck:=sV) (ca:=iV) (z0:=0) (by exact rfl) (by exact rfl) (by exact rfl) (by exact fun _ _=>rfl) (by exact rfl) (by exact .refl _) ?_;refine Qad h (fun hb h=>?_) (fun hb h=>?_)
  ·refine Q6h (l:=h2_0_) (k:=x7) (x:=1) (fun a b=>a==b) (ck:=sV) (ca:=iV) (by exact rfl) (by exact rfl) (by exact rfl) (by exact .refl _) (by exact fun _ _=>rfl) ?_;refine Qsk (a:=v6_) (b:=[x7]) (c:=cStr) h (.refl _) (fun _=>rfl) rfl (fun x8 hi h=>?_);refine TL.le (τ := Qd5 h0_0 v9 x5 x8 (wr (v38+1)) (mset (fun a b=>a==b) x7 1 h2_0_)) ?_ ((iQb0 x8 (wr (v38+1)) (mset (fun a b=>a==b) x7 1 h2_0_) _ h));exact Le.trans (τ := ⟨[(2,.ptr 1 0),(5,.mh 2),(6,.x 0 2 (.sl 9 1 (x8.map cStr))),(9,.p (iV v9)),(36,.p (.sl false (((mget (fun a b=>a==b) x5 h0_0).getD []).map cStr))),(37,.p (iV (((mget (fun a b=>a==b) x5 h0_0).getD []).length:Int))),(38,.p (iV (wr (v38+1))))],⟨[[mpD sV (fun x =>.sl false (x.map cStr)) h0_0],[.mh 0],[mpD sV iV (mset (fun a b=>a==b) x7 1 h2_0_)]],[2]⟩⟩) (Le.tz 3 1 rfl rfl rfl) ((Le.ver (.s 6) 0 2 1 rfl rfl rfl rfl).trans (Le.tz 3 1 rfl rfl rfl))
  ·refine TL.le (τ := Qd5 h0_0 v9 x5 v6_ (wr (v38+1)) h2_0_) ?_ ((iQb0 v6_ (wr (v38+1)) h2_0_ _ h));exact Le.tz 3 1 rfl rfl rfl
 ·exact JP1.a h (Le.tz 3 1 rfl rfl rfl)
def Qb1 (h0_0:(List ((List UInt8)×(List (List UInt8))))) (v6:(List (List UInt8))) (v9:Int) (h2_0:(List ((List UInt8)×Int))):Option (((List (List UInt8))×(List ((List UInt8)×Int)))) :=
 if(decide (v9<(v6.length:Int))) then
  idx v6 v9>>=fun x5 =>
  (Qb0 h0_0 v9 x5 v6 0 h2_0)>>=fun o6 =>
  Qb1 h0_0 o6.1 (wr (v9+1)) o6.2
 else
  some (v6,h2_0)
 partial_fixpoint
theorem Q3w:∀ (h0_0:(List ((List UInt8)×(List (List UInt8))))),(∀ (v6:(List (List UInt8))) (v9:Int) (h2_0:(List ((List UInt8)×Int))) (o4:((List (List UInt8))×(List ((List UInt8)×Int)))),Qb1 h0_0 v6 v9 h2_0=some o4→TL (1,0) Tryz.prog 56 Qp4 (JP1 (1,0) 56 o4 (.exit 2) (Qig h0_0)) (Qfi h0_0 v6 v9 h2_0)):=by
 intro h0_0;refine Qb1.partial_correctness h0_0 _ ?_;intro Qb1' iQb1 v6 v9 h2_0 o4 h;refine TL.round (Qas mixed tbOk (lv:=Qev) _ _ _ ?_);refine And.intro rfl (Exists.intro _ (And.intro (List.length_map _) ?_));refine Qad h (fun hb h=>?_) (fun hb h=>?_)
 ·refine And.intro (by decide +kernel) (And.intro rfl ?_);refine And.intro rfl ?_;refine Qu4 (l:=v6) (c:=cStr) (c' := cStr) h rfl (fun _=>rfl) (fun _=>rfl) (by decide) (fun x5 hi h=>?_);refine And.intro rfl ?_;refine And.intro rfl (And.intro (Nat.le_of_ble_eq_true rfl) ?_);refine And.intro rfl ?_;refine Qpx (l:=h0_0) (k:=x5) (fun a b=>a==b) (ck:=sV) (ca:=(fun x =>.sl false (x.map cStr))) (z0:=[]) (by exact rfl) (by exact rfl) (by exact rfl) (by exact fun _ _=>rfl) (by exact rfl) (by exact .not) ?_;refine view (Qdn _ _) rfl ?_;refine Qam h (fun o6 ho hk=>?_);refine Exists.intro (JP1 _ _ o6 (.exit 4) (Qif h0_0 v9 x5)) (And.intro (Qkn (τ := Qd5 h0_0 v9 x5 v6 0 h2_0) ?_ (TL.loop (Q3v h0_0 v9 x5 v6 0 h2_0 o6 ho))) (Qbe ?_))
  ·exact Le.tz 3 1 rfl rfl rfl
  have h:=hk;refine TL.le (τ := Qfi h0_0 o6.1 (wr (v9+1)) o6.2) ?_ ((iQb1 o6.1 (wr (v9+1)) o6.2 _ h));exact Le.tz 3 1 rfl rfl rfl
 ·exact JP1.a h (Le.tz 3 1 rfl rfl rfl)
def Qc1 (p0:(List (List UInt8))):Option ((List (List UInt8))) :=
 appL 16 [] p0
theorem Qkb:∀ (p0:(List (List UInt8))) (o:(List (List UInt8))),Qc1 p0=some o→CallOK Tryz.prog 75 [.p (.sl false (p0.map cStr))] ⟨[],[]⟩ (Qdl o) ⟨[],[1]⟩:=by
 intro p0 o h;unfold Qc1 at h;have h:(appL 16 ([]:List (List UInt8)) p0>>=fun r=>some r)=some o:=by rw[h]; rfl
 refine CallOK.ofB mixed tbOk Qj6 Tryz.func75 rfl (by kernel_rfl) (Nat.le_of_ble_eq_true rfl) rfl rfl rfl ?_;refine⟨rfl,rfl,rfl,fun b hb=>?_⟩;cases b with
 | true =>
  refine bT ?_;obtain rfl:=List.map_eq_nil_iff.1 (hb rfl);have h:some ([]:List (List UInt8))=some o:=h;refine Exists.intro _ (And.intro (Le.xnil (.s 2) 9 1 rfl) ?_);exact Qa6 (t:=Qdl) (ss:=fun o=>⟨[],[1]⟩) h ⟨[0],rfl,.refl _,.refl _,rfl⟩
 | false =>
  refine bF ?_;refine Q2w (a:=([]:List (List UInt8))) (b:=p0) (c:=cStr) h (.refl _) (.refl _) (fun _=>rfl) (.inl rfl) (fun r hi h=>?_);refine Exists.intro _ (And.intro (Le.refl _ _ _) ?_);exact Qa6 (t:=Qdl) (ss:=fun o=>⟨[],[1]⟩) h ⟨[0],rfl,.refl _,.refl _,rfl⟩
def Qfd (p1:(List (List UInt8))) (h0_0:(List ((List UInt8)×(List (List UInt8))))):Option ((List (List UInt8))) :=
 Qc1 p1>>=fun x1 =>
 (Qcl h0_0 x1 0 [])>>=fun o2 =>
 (Qb1 h0_0 x1 0 o2)>>=fun o4 =>
 need (o4.1.length<4611686018427387904)>>=fun _ =>
 some (srtL o4.1)
theorem Qsw:∀ (p1:(List (List UInt8))) (h0_0:(List ((List UInt8)×(List (List UInt8))))) (o:(List (List UInt8))),Qfd p1 h0_0=some o→CallOK Tryz.prog 42 [.agg [.mh 0],.p (.sl false (p1.map cStr))] ⟨[[mpD sV (fun x =>.sl false (x.map cStr)) h0_0]],[]⟩ (Qhl o) ⟨[[mpD sV (fun x =>.sl false (x.map cStr)) h0_0]],[]⟩:=by
 intro p1 h0_0 o h;unfold Qfd at h;refine CallOK.ofB mixed tbOk Qev Tryz.func42 rfl (by kernel_rfl) (Nat.le_of_ble_eq_true rfl) rfl rfl rfl ?_;refine And.intro rfl (Exists.intro false ?_);refine Qao _ _ h (fun x1 hy=>((Qkb p1 x1 hy).fr [] [] rfl rfl rfl)) (fun x1 hy h=>?_);refine And.intro rfl (Exists.intro _ (And.intro (List.length_map _) ?_));refine Qam h (fun o2 ho hk=>?_);refine Exists.intro (JP1 _ _ o2 (.exit 0) (Qie h0_0 x1)) (And.intro (Qkn (τ := Qfh h0_0 x1 0 []) ?_ (TL.loop (Q3u h0_0 x1 0 [] o2 ho))) (Qbe ?_))
 ·exact Le.tz 3 1 rfl rfl rfl
 have h:=hk;refine Qam h (fun o4 ho hk=>?_);refine Exists.intro (JP1 _ _ o4 (.exit 2) (Qig h0_0)) (And.intro (Qkn (τ := Qfi h0_0 x1 0 o2) ?_ (TL.loop (Q3w h0_0 x1 0 o2 o4 ho))) (Qbe ?_))
 ·exact Le.tz 3 1 rfl rfl rfl
 have h:=hk;refine Q2x h (fun hn0 h=>?_);refine Or.inl ?_;refine⟨rfl,rfl,_,false,o4.1,(srtL o4.1),_,rfl,rfl,Qagu  hn0 ,rfl,rfl,?_⟩;refine Exists.intro _ (And.intro (Le.trans (τ := ⟨[(4,.x 0 2 (.sl 9 1 ((srtL o4.1).map cStr)))],⟨[[mpD sV (fun x =>.sl false (x.map cStr)) h0_0]],[2]⟩⟩) (Le.tz 1 1 rfl rfl rfl) (Le.trans (τ := ⟨[(4,.x 0 2 (.sl 9 1 ((srtL o4.1).map cStr)))],⟨[[mpD sV (fun x =>.sl false (x.map cStr)) h0_0]],[2]⟩⟩) (Le.tz 1 1 rfl rfl rfl) ((Le.frzv (.s 4) 0 2 rfl rfl rfl rfl).trans (Le.refl _ _ _)))) ?_);refine Qa6 (t:=Qhl) (ss:=fun o=>⟨[[mpD sV (fun x =>.sl false (x.map cStr)) h0_0]],[]⟩) h ?_;exact⟨[],rfl,.refl _,.refl _,rfl⟩
def Qa9 (p0:(List (List UInt8))) (p1:(List UInt8)) (v8:Int):Option (Unit⊕Int) :=
 if(decide (v8<(p0.length:Int))) then
  idx p0 v8>>=fun x4 =>
  if(p1==x4) then
   some (.inr v8)
  else
   Qa9 p0 p1 (wr (v8+1))
 else
  some (.inl ())
 partial_fixpoint
theorem Qtx:∀ (p0:(List (List UInt8))) (p1:(List UInt8)),(∀ (v8:Int) (o1:Unit⊕Int),Qa9 p0 p1 v8=some o1→TL (0,0) Tryz.prog 19 Qiy (JP2 (0,0) 19 o1 (.exit 0) (Qel p0 p1) .ret (Qem p0 p1)) (Qcy p0 p1 v8)):=by
 intro p0 p1;refine Qa9.partial_correctness p0 p1 _ ?_;intro Qa9' iQa9 v8 o1 h;refine TL.round (Qas mixed tbOk (lv:=Qe9) _ _ _ ?_);refine Qad h (fun hb h=>?_) (fun hb h=>?_)
 ·refine Qbu (l:=p0) (c:=cStr) (c' := cStr) h (fun _=>rfl) (fun _=>rfl) (by decide) (fun x4 hi h=>?_);refine Qad h (fun hb h=>?_) (fun hb h=>?_)
  ·exact JP2.b h (Le.tz 0 0 rfl rfl rfl)
  ·refine TL.le (τ := Qcy p0 p1 (wr (v8+1))) ?_ ((iQa9 (wr (v8+1)) _ h));exact Le.tz 0 0 rfl rfl rfl
 ·exact JP2.a h (Le.tz 0 0 rfl rfl rfl)
def Qc2 (p0:(List (List UInt8))) (p1:(List UInt8)):Option (Int) :=
 (Qa9 p0 p1 0)>>=fun o1 =>
 match o1 with
 | .inl y2 =>
  some (-1)
 | .inr y3 =>
  some y3
theorem Qkc:∀ (p0:(List (List UInt8))) (p1:(List UInt8)) (o:Int),Qc2 p0 p1=some o→PCall Tryz.prog 74 [.sl false (p0.map cStr),sV p1] (Qcq o):=by
 intro p0 p1 o h;unfold Qc2 at h;refine PCall.ofB mixed tbOk Qe9 Tryz.func74 rfl (by kernel_rfl) (Nat.le_of_ble_eq_true rfl) ?_;refine view (Qdn _ _) rfl ?_;refine Qam h (fun o1 ho hk=>?_);refine Exists.intro (JP2 _ _ o1 (.exit 0) (Qel p0 p1) .ret (Qem p0 p1)) (And.intro (Qkn (τ := Qcy p0 p1 0) ?_ (TL.loop (Qtx p0 p1 0 o1 ho))) (Qin (fun y2 hy=>?_) (fun y3 hy=>?_)))
 ·exact Le.tz 0 0 rfl rfl rfl
 ·have h:=(by rw[hy] at hk; exact hk);refine Qav (t:=Qcq) h ?_;exact .refl _
 ·have h:=(by rw[hy] at hk; exact hk);refine Qav (t:=Qcq) h ?_;exact .refl _
def Qbo (p0:(List (List UInt8))) (p1:(List UInt8)):Option (Bool) :=
 Qc2 p0 p1>>=fun x1 =>
 some (decide (x1 ≥ 0))
theorem Qic:∀ (p0:(List (List UInt8))) (p1:(List UInt8)) (o:Bool),Qbo p0 p1=some o→PCall Tryz.prog 41 [.sl false (p0.map cStr),sV p1] (Qc3 o):=by
 intro p0 p1 o h;unfold Qbo at h;refine PCall.ofB mixed tbOk Qib Tryz.func41 rfl (by kernel_rfl) (Nat.le_of_ble_eq_true rfl) ?_;refine Qat [.sl false (p0.map cStr),sV p1] Qcq h (fun x1 hy=>(Qkc p0 p1 x1 hy)) (fun x1 hy h=>?_);refine Qav (t:=Qc3) h ?_;exact .refl _
def Qej (p0:(List Qae)) (x10:(List ((List UInt8)×(List (List UInt8))))) (v85:Int):Option (Unit⊕(List UInt8)) :=
 if(decide (v85<(p0.length:Int))) then
  idx p0 v85>>=fun x22 =>
  Qfd ((mget (fun a b=>a==b) x22.Name x10).getD []) x10>>=fun x23 =>
  Qbo x23 x22.Name>>=fun x24 =>
  if x24 then
   some (.inr x22.Name)
  else
   Qej p0 x10 (wr (v85+1))
 else
  some (.inl ())
 partial_fixpoint
theorem Qaar:∀ (p0:(List Qae)) (x10:(List ((List UInt8)×(List (List UInt8))))),(∀ (v85:Int) (o19:Unit⊕(List UInt8)),Qej p0 x10 v85=some o19→TL (0,0) Tryz.prog 102 Qwg (JP2 (0,0) 102 o19 (.exit 6) (Qne p0 x10) .ret (Qnf p0 x10)) (Qix p0 x10 v85)):=by
 intro p0 x10;refine Qej.partial_correctness p0 x10 _ ?_;intro Qej' iQej v85 o19 h;refine TL.round (Qas mixed tbOk (lv:=Qgn) _ _ _ ?_);refine Qad h (fun hb h=>?_) (fun hb h=>?_)
 ·refine Qbu (l:=p0) (c:=Qaj) (c' := Qaj) h (fun _=>rfl) (fun _=>rfl) (by decide) (fun x22 hi h=>?_);refine And.intro (by decide +kernel) (And.intro rfl ?_);refine And.intro rfl ?_;refine Qpx (l:=x10) (k:=x22.Name) (fun a b=>a==b) (ck:=sV) (ca:=(fun x =>.sl false (x.map cStr))) (z0:=[]) (by exact rfl) (by exact rfl) (by exact rfl) (by exact fun _ _=>rfl) (by exact rfl) (by exact .not) ?_;refine Qn6 (fun x23=>(Qhl x23).ren [0] []) h (fun x23 hy=>(Qsw ((mget (fun a b=>a==b) x22.Name x10).getD []) x10 x23 hy).fd rfl rfl [0] rfl rfl) (fun x23 hy h=>?_);refine Qd4 [.sl false (x23.map cStr),sV x22.Name] Qc3 h (fun x24 hy=>(Qic x23 x22.Name x24 hy)) (fun x24 hy h=>?_);refine Qad h (fun hb h=>?_) (fun hb h=>?_)
  ·exact JP2.b h (Le.tz 2 0 rfl rfl rfl)
  ·refine TL.le (τ := Qix p0 x10 (wr (v85+1))) ?_ ((iQej (wr (v85+1)) _ h));exact Le.tz 2 0 rfl rfl rfl
 ·exact JP2.a h (Le.tz 2 0 rfl rfl rfl)
mutual
def Qdo (p0:(List Qab)) (h0_0:(List (List UInt8))):Option ((List (List UInt8))) :=
 (Qdy p0 0 h0_0)>>=fun o1 =>
 some o1
 partial_fixpoint
def Qdy (p0:(List Qab)) (v8:Int) (h0_0_:(List (List UInt8))):Option ((List (List UInt8))) :=
 if(decide (v8<(p0.length:Int))) then
  idx p0 v8>>=fun x2 =>
  ( if(x2.Kind==13) then
    appL 16 h0_0_ [x2.Name]>>=fun x4 =>
    some x4
   else
    some h0_0_:Option ((List (List UInt8))))>>=fun o3 =>
  Qdo x2.Then o3>>=fun x5 =>
  Qdo x2.Else x5>>=fun x6 =>
  Qdy p0 (wr (v8+1)) x6
 else
  some h0_0_
 partial_fixpoint
end
theorem Qwk:(∀ (p0:(List Qab)) (h0_0:(List (List UInt8))) (o:(List (List UInt8))),Qdo p0 h0_0=some o→CallOK Tryz.prog 99 [.p (.sl false (p0.map Qaa)),.ptr 0 0,.ptr 1 0] ⟨[[.x 0 (h0_0.length+1) (.sl 9 1 (h0_0.map cStr))],[.fn (.func 99) [] [.ptr 0 0,.ptr 1 0]]],[(h0_0.length+1)]⟩ (Qmp o) ⟨[[.x 0 (o.length+1) (.sl 9 1 (o.map cStr))],[.fn (.func 99) [] [.ptr 0 0,.ptr 1 0]]],[(o.length+1)]⟩)∧(∀ (p0:(List Qab)) (v8:Int) (h0_0_:(List (List UInt8))) (o1:(List (List UInt8))),Qdy p0 v8 h0_0_=some o1→TL (2,1) Tryz.prog 29 Qu8 (JP1 (2,1) 29 o1 (.exit 0) (Ql4 p0)) (Qhk p0 v8 h0_0_)):=by
 refine Qdo.mutual_partial_correctness _ _ ?_ ?_
 ·intro Qdy' iQdy p0 h0_0 o h;refine CallOK.ofB mixed tbOk Qp1 Tryz.func99 rfl (by kernel_rfl) (Nat.le_of_ble_eq_true rfl) rfl rfl rfl ?_;refine view (Qdn _ _) rfl ?_;refine Qam h (fun o1 ho hk=>?_);refine Exists.intro (JP1 _ _ o1 (.exit 0) (Ql4 p0)) (And.intro (Qkn (τ := Qhk p0 0 h0_0) ?_ (TL.loop (iQdy p0 0 h0_0 o1 ho))) (Qbe ?_))
  ·exact Le.tz 2 1 rfl rfl rfl
  have h:=hk;refine Exists.intro _ (And.intro (Le.refl _ _ _) ?_);exact Qa6 (t:=Qmp) (ss:=fun o=>⟨[[.x 0 (o.length+1) (.sl 9 1 (o.map cStr))],[.fn (.func 99) [] [.ptr 0 0,.ptr 1 0]]],[(o.length+1)]⟩) h ⟨[0],rfl,.refl _,.refl _,rfl⟩
 ·intro Qdo' Qdy' iQdo iQdy p0 v8 h0_0_ o1 h;refine TL.round (Qas mixed tbOk (lv:=Qp1) _ _ _ ?_);refine Qad h (fun hb h=>?_) (fun hb h=>?_)
  ·refine Qbu (l:=p0) (c:=Qaa) (c' := Qa5) h Qap (fun _=>rfl) (by decide) (fun x2 hi h=>?_);refine Qam h (fun o3 ho hk=>?_);refine Exists.intro (JP1 _ _ o3 .normal (Qu7 p0 v8 x2)) (And.intro ?_ (Qbe ?_))
   ·have h:=ho;refine Qad h (fun hb h=>?_) (fun hb h=>?_)
    ·refine Qaf5 (a:=h0_0_) (b:=[x2.Name]) (c:=cStr) h (.refl _) (fun _=>rfl) rfl rfl (Nat.zero_lt_succ _) (fun x4 hi h=>?_);refine JP1.a h ?_;exact Le.tz 3 1 rfl rfl rfl
    ·refine JP1.a h ?_;exact Le.tz 3 1 rfl rfl rfl
   ·have h:=hk;refine Qao _ _ h (fun x5 hy=>((iQdo x2.Then o3 x5 hy).fr [0,1] [0] rfl rfl rfl)) (fun x5 hy h=>?_);refine Qao _ _ h (fun x6 hy=>((iQdo x2.Else x5 x6 hy).fr [0,1] [0] rfl rfl rfl)) (fun x6 hy h=>?_);refine TL.le (τ := Qhk p0 (wr (v8+1)) x6) ?_ ((iQdy p0 (wr (v8+1)) x6 _ h));exact Le.tz 2 1 rfl rfl rfl
  ·exact JP1.a h (Le.tz 2 1 rfl rfl rfl)
theorem Qyx:∀ (p0:(List Qab)) (h0_0:(List (List UInt8))) (o:(List (List UInt8))),Qdo p0 h0_0=some o→CallOK Tryz.prog 99 [.p (.sl false (p0.map Qaa)),.ptr 0 0,.ptr 1 0] ⟨[[.x 0 (h0_0.length+1) (.sl 9 1 (h0_0.map cStr))],[.fn (.func 99) [] [.ptr 0 0,.ptr 1 0]]],[(h0_0.length+1)]⟩ (Qmp o) ⟨[[.x 0 (o.length+1) (.sl 9 1 (o.map cStr))],[.fn (.func 99) [] [.ptr 0 0,.ptr 1 0]]],[(o.length+1)]⟩:=fun p0 h0_0=>Qwk.1 p0 h0_0
def Qnn (p0:(List Qab)):Option ((List (List UInt8))) :=
 Qdo p0 []>>=fun x1 =>
 need (x1.length<4611686018427387904)>>=fun _ =>
 need ((srtL x1).length<4611686018427387904)>>=fun _ =>
 some (Lib.compact (srtL x1))
theorem Q3x:∀ (p0:(List Qab)) (o:(List (List UInt8))),Qnn p0=some o→CallOK Tryz.prog 73 [.p (.sl false (p0.map Qaa))] ⟨[],[]⟩ (Qp0 o) ⟨[],[]⟩:=by
 intro p0 o h;unfold Qnn at h;refine CallOK.ofB mixed tbOk Q3b Tryz.func73 rfl (by kernel_rfl) (Nat.le_of_ble_eq_true rfl) rfl rfl rfl ?_;refine Exists.intro _ (And.intro (Le.xnil (.h 0 0) 9 1 rfl) ?_);refine Qao _ _ h (fun x1 hy=>((Qyx p0 [] x1 hy).fr [0,1] [0] rfl rfl rfl)) (fun x1 hy h=>?_);refine Q2x h (fun hn0 h=>?_);refine Or.inl ?_;refine⟨rfl,rfl,_,false,x1,(srtL x1),_,rfl,rfl,Qagu  hn0 ,rfl,rfl,?_⟩;refine Q2x h (fun hn0 h=>?_);refine Or.inl ?_;refine⟨rfl,rfl,_,true,(srtL x1),(Lib.compact (srtL x1)),_,rfl,rfl,Qad2  hn0 ,rfl,?_⟩;refine Exists.intro _ (And.intro (Le.trans (τ := ⟨[(2,.x 0 (((x1.length+1)+1)+1) (.sl 9 1 ((Lib.compact (srtL x1)).map cStr)))],⟨[],[(((x1.length+1)+1)+1)]⟩⟩) (Le.tz 0 1 rfl rfl rfl) (Le.trans (τ := ⟨[(2,.x 0 (((x1.length+1)+1)+1) (.sl 9 1 ((Lib.compact (srtL x1)).map cStr)))],⟨[],[(((x1.length+1)+1)+1)]⟩⟩) (Le.tz 0 1 rfl rfl rfl) ((Le.verh 2 0 (((x1.length+1)+1)+1) 1 rfl rfl rfl rfl).trans ((Le.frzv (.s 2) 0 1 rfl rfl rfl rfl).trans (Le.refl _ _ _))))) ?_);exact Qa6 (t:=Qp0) (ss:=fun o=>⟨[],[]⟩) h ⟨[],rfl,.refl _,.refl _,rfl⟩
def Qdp (p0:(List Qae)) (v12:Int) (h1_0:(List ((List UInt8)×(List (List UInt8))))):Option (((List ((List UInt8)×(List (List UInt8)))))) :=
 if(decide (v12<(p0.length:Int))) then
  idx p0 v12>>=fun x2 =>
  if(!((mget (fun a b=>a==b) x2.Name h1_0).isSome)) then
   Qnn x2.L>>=fun x3 =>
   Qdp p0 (wr (v12+1)) (mset (fun a b=>a==b) x2.Name x3 h1_0)
  else
   Qdp p0 (wr (v12+1)) h1_0
 else
  some h1_0
 partial_fixpoint
theorem Qaas:∀ (p0:(List Qae)),(∀ (v12:Int) (h1_0:(List ((List UInt8)×(List (List UInt8))))) (o1:((List ((List UInt8)×(List (List UInt8)))))),Qdp p0 v12 h1_0=some o1→TL (0,0) Tryz.prog 35 Qwh (JP1 (0,0) 35 o1 (.exit 0) (Qng p0)) (Qf8 p0 v12 h1_0)):=by
 intro p0;refine Qdp.partial_correctness p0 _ ?_;intro Qdp' iQdp v12 h1_0 o1 h;refine TL.round (Qas mixed tbOk (lv:=Qr6) _ _ _ ?_);refine Qad h (fun hb h=>?_) (fun hb h=>?_)
 ·refine Qbu (l:=p0) (c:=Qaj) (c' := Qaj) h (fun _=>rfl) (fun _=>rfl) (by decide) (fun x2 hi h=>?_);refine Qpx (l:=h1_0) (k:=x2.Name) (fun a b=>a==b) (ck:=sV) (ca:=(fun x =>.sl false (x.map cStr))) (z0:=[]) (by exact rfl) (by exact rfl) (by exact rfl) (by exact fun _ _=>rfl) (by exact rfl) (by exact .not) ?_;refine Qad h (fun hb h=>?_) (fun hb h=>?_)
  ·refine And.intro (by decide +kernel) (And.intro (by decide +kernel) (And.intro rfl ?_));refine Qn6 (fun x3=>(Qp0 x3).ren [] []) h (fun x3 hy=>(Q3x x2.L x3 hy).fd rfl rfl [] rfl rfl) (fun x3 hy h=>?_);refine Q6h (l:=h1_0) (k:=x2.Name) (x:=x3) (fun a b=>a==b) (ck:=sV) (ca:=(fun x =>.sl false (x.map cStr))) (by exact rfl) (by exact rfl) (by exact rfl) (by exact .refl _) (by exact fun _ _=>rfl) ?_;refine TL.le (τ := Qf8 p0 (wr (v12+1)) (mset (fun a b=>a==b) x2.Name x3 h1_0)) ?_ ((iQdp (wr (v12+1)) (mset (fun a b=>a==b) x2.Name x3 h1_0) _ h));exact Le.tz 3 0 rfl rfl rfl
  ·refine TL.le (τ := Qf8 p0 (wr (v12+1)) h1_0) ?_ ((iQdp (wr (v12+1)) h1_0 _ h));exact Le.tz 3 0 rfl rfl rfl
 ·exact JP1.a h (Le.tz 3 0 rfl rfl rfl)
def Qll (p0:(List Qae)):Option ((List ((List UInt8)×(List (List UInt8))))) :=
 (Qdp p0 0 [])>>=fun o1 =>
 some o1
theorem Q0p:∀ (p0:(List Qae)) (o:(List ((List UInt8)×(List (List UInt8))))),Qll p0=some o→CallOK Tryz.prog 40 [.p (.sl false (p0.map Qaj))] ⟨[],[]⟩ (Qto o) ⟨[[mpD sV (fun x =>.sl false (x.map cStr)) o]],[]⟩:=by
 intro p0 o h;unfold Qll at h;refine CallOK.ofBN mixed tbOk Qr6 Tryz.func40 rfl (by kernel_rfl) (Nat.le_of_ble_eq_true rfl) rfl rfl (Nat.le_of_ble_eq_true rfl) ?_;refine And.intro rfl (Exists.intro false ?_);refine view (Qdn _ _) rfl ?_;refine Qam h (fun o1 ho hk=>?_);refine Exists.intro (JP1 _ _ o1 (.exit 0) (Qng p0)) (And.intro (Qkn (τ := Qf8 p0 0 []) ?_ (TL.loop (Qaas p0 0 [] o1 ho))) (Qbe ?_))
 ·exact Le.tz 3 0 rfl rfl rfl
 have h:=hk;refine Exists.intro _ (And.intro (Le.refl _ _ _) ?_);refine Qahy (t:=Qto) (ss:=fun o=>⟨[[mpD sV (fun x =>.sl false (x.map cStr)) o]],[]⟩) h ?_;exact⟨[1],[],rfl,rfl,.refl _,.refl _,rfl,rfl⟩
def Qi0 (p0:(List Qae)):Option ((List UInt8)×Int) :=
 if(decide ((p0.length:Int)>16)) then
  some ([],5)
 else
  (Qeg p0 0)>>=fun o1 =>
  match o1 with
  | .inl y2 =>
   Qll p0>>=fun x10 =>
   (Qei p0 x10 0)>>=fun o11 =>
   match o11 with
   | .inl y12 =>
    (Qej p0 x10 0)>>=fun o19 =>
    match o19 with
    | .inl y20 =>
     some ([],0)
    | .inr y21 =>
     some (y21,10)
   | .inr y13 =>
    some (y13,4)
  | .inr y3 =>
   some (y3.1,y3.2)
theorem Qsb:∀ (p0:(List Qae)) (o:(List UInt8)×Int),Qi0 p0=some o→PCall Tryz.prog 13 [.sl false (p0.map Qaj)] (Qeb o):=by
 intro p0 o h;unfold Qi0 at h;refine PCall.ofB mixed tbOk Qgn Tryz.func13 rfl (by kernel_rfl) (Nat.le_of_ble_eq_true rfl) ?_;refine view (Qdn _ _) rfl ?_;refine Qad h (fun hb h=>?_) (fun hb h=>?_)
 ·refine Qav (t:=Qeb) h ?_;exact .refl _
 ·refine view (Qdn _ _) rfl ?_;refine Qam h (fun o1 ho hk=>?_);refine Exists.intro (JP2 _ _ o1 (.exit 0) (Qm8 p0) .ret (Qm9 p0)) (And.intro (Qkn (τ := Qiu p0 0) ?_ (TL.loop (Qaao p0 0 o1 ho))) (Qin (fun y2 hy=>?_) (fun y3 hy=>?_)))
  ·exact Le.tz 0 0 rfl rfl rfl
  ·have h:=(by rw[hy] at hk; exact hk);refine Qao _ _ h (fun x10 hy=>((Q0p p0 x10 hy).frN [] [] rfl rfl rfl)) (fun x10 hy h=>?_);refine view (Qdn _ _) rfl ?_;refine Qam h (fun o11 ho hk=>?_);refine Exists.intro (JP2 _ _ o11 (.exit 2) (Qnc p0 x10) .ret (Qnd p0 x10)) (And.intro (Qkn (τ := Qiw p0 x10 0) ?_ (TL.loop (Qaaq p0 x10 0 o11 ho))) (Qin (fun y12 hy=>?_) (fun y13 hy=>?_)))
   ·exact Le.tz 2 0 rfl rfl rfl
   ·have h:=(by rw[hy] at hk; exact hk);refine view (Qdn _ _) rfl ?_;refine Qam h (fun o19 ho hk=>?_);refine Exists.intro (JP2 _ _ o19 (.exit 6) (Qne p0 x10) .ret (Qnf p0 x10)) (And.intro (Qkn (τ := Qix p0 x10 0) ?_ (TL.loop (Qaar p0 x10 0 o19 ho))) (Qin (fun y20 hy=>?_) (fun y21 hy=>?_)))
    ·exact Le.tz 2 0 rfl rfl rfl
    ·have h:=(by rw[hy] at hk; exact hk);refine Qav (t:=Qeb) h ?_;exact .refl _
    ·have h:=(by rw[hy] at hk; exact hk);refine Qav (t:=Qeb) h ?_;exact .refl _
   ·have h:=(by rw[hy] at hk; exact hk);refine Qav (t:=Qeb) h ?_;exact .refl _
  ·have h:=(by rw[hy] at hk; exact hk);refine Qav (t:=Qeb) h ?_;exact .refl _
mutual
def Qa8 (p0:(List Qab)) (p1:Int) (p2:Int):Option ((List Qab)×Int) :=
 (Qca p0 p1 p2 [] 0)>>=fun o1 =>
 some (o1.2,o1.1)
 partial_fixpoint
def Qca (p0:(List Qab)) (p1:Int) (v2:Int) (v8:(List Qab)) (v9:Int):Option ((Int×(List Qab))) :=
 ( if(decide (v9<(p0.length:Int))) then
   if(decide (v2>0)) then
    some (decide (p1>0))
   else
    some false
  else
   some false:Option (Bool))>>=fun o2 =>
 if o2 then
  idx p0 v9>>=fun x3 =>
  cutL x3.Name 0 (if 40<(x3.Name.length:Int) then 40 else(x3.Name.length:Int))>>=fun x4 =>
  cutL x3.Text 0 (if 60<(x3.Text.length:Int) then 60 else(x3.Text.length:Int))>>=fun x5 =>
  Qa8 x3.L (wr (p1-1)) (wr (v2-1))>>=fun x6 =>
  Qa8 x3.Then (wr (p1-1)) x6.2>>=fun x7 =>
  Qa8 x3.Else (wr (p1-1)) x7.2>>=fun x8 =>
  appL 120 v8 [(Qab.mk x3.Kind x4 x5 x3.N x6.1 x7.1 x8.1)]>>=fun x9 =>
  Qca p0 p1 x8.2 x9 (wr (v9+1))
 else
  some (v2,v8)
 partial_fixpoint
end
theorem Qqg:(∀ (p0:(List Qab)) (p1:Int) (p2:Int) (o:(List Qab)×Int),Qa8 p0 p1 p2=some o→PCall Tryz.prog 22 [.sl false (p0.map Qaa),iV p1,iV p2] (Qck o))∧(∀ (p0:(List Qab)) (p1:Int) (v2:Int) (v8:(List Qab)) (v9:Int) (o1:(Int×(List Qab))),Qca p0 p1 v2 v8 v9=some o1→TL (0,0) Tryz.prog 88 Qpd (JP1 (0,0) 88 o1 (.exit 0) (Qhn p0 p1)) (Qew p0 p1 v2 v8 v9)):=by
 refine Qa8.mutual_partial_correctness _ _ ?_ ?_
 ·intro Qca' iQca p0 p1 p2 o h;refine PCall.ofB mixed tbOk Qko Tryz.func22 rfl (by kernel_rfl) (Nat.le_of_ble_eq_true rfl) ?_;refine Qam h (fun o1 ho hk=>?_);refine Exists.intro (JP1 _ _ o1 (.exit 0) (Qhn p0 p1)) (And.intro (Qkn (τ := Qew p0 p1 p2 [] 0) ?_ (TL.loop (iQca p0 p1 p2 [] 0 o1 ho))) (Qbe ?_))
  ·exact Le.trans (τ := ⟨[(0,.p (.sl false (p0.map Qaa))),(1,.p (iV p1)),(2,.p (iV p2)),(8,.p (.sl true [])),(9,.p (iV 0))],⟨[],[]⟩⟩) (Le.tz 0 0 rfl rfl rfl) ((Le.own 8 38 7 rfl Q8q).trans (Le.tz 0 1 rfl rfl rfl))
  have h:=hk;refine Qav (t:=Qck) h ?_;exact .refl _
 ·intro Qa8' Qca' iQa8 iQca p0 p1 v2 v8 v9 o1 h;refine TL.round (Qas mixed tbOk (lv:=Qko) _ _ _ ?_);refine Qam h (fun o2 ho hk=>?_);refine Exists.intro (JP1 _ _ o2 .normal (Qpc p0 p1 v2 v8 v9)) (And.intro ?_ (Qbe ?_))
  ·have h:=ho;refine view (Qdn _ _) rfl ?_;refine Qad h (fun hb h=>?_) (fun hb h=>?_)
   ·refine Qad h (fun hb h=>?_) (fun hb h=>?_)
    ·refine JP1.a h ?_;exact Le.tz 0 1 rfl rfl rfl
    ·refine JP1.a h ?_;exact Le.tz 0 1 rfl rfl rfl
   ·refine bF ?_;refine JP1.a h ?_;exact Le.tz 0 1 rfl rfl rfl
  ·have h:=hk;refine Qad h (fun hb h=>?_) (fun hb h=>?_)
   ·refine Qbu (l:=p0) (c:=Qaa) (c' := Qa5) h Qap (fun _=>rfl) (by decide) (fun x3 hi h=>?_);refine And.intro (by decide +kernel) (And.intro rfl ?_);refine vrfl ?_;refine Qj4 none (some (if 40<(x3.Name.length:Int) then 40 else(x3.Name.length:Int))) h (fun x4 hi h=>?_);refine vrfl ?_;refine Qj4 none (some (if 60<(x3.Text.length:Int) then 60 else(x3.Text.length:Int))) h (fun x5 hi h=>?_);refine Qat [.sl false (x3.L.map Qaa),iV (wr (p1-1)),iV (wr (v2-1))] Qck h (fun x6 hy=>(iQa8 x3.L (wr (p1-1)) (wr (v2-1)) x6 hy)) (fun x6 hy h=>?_);refine Qat [.sl false (x3.Then.map Qaa),iV (wr (p1-1)),iV x6.2] Qck h (fun x7 hy=>(iQa8 x3.Then (wr (p1-1)) x6.2 x7 hy)) (fun x7 hy h=>?_);refine Qat [.sl false (x3.Else.map Qaa),iV (wr (p1-1)),iV x7.2] Qck h (fun x8 hy=>(iQa8 x3.Else (wr (p1-1)) x7.2 x8 hy)) (fun x8 hy h=>?_);refine Qpv (a:=v8) (b:=[(Qab.mk x3.Kind x4 x5 x3.N x6.1 x7.1 x8.1)]) (c:=Qaa) h (.cons (.ceq (Qap _) (.refl _)) (.nil)) (fun x=>by rw[Qap]; rfl) rfl (fun x9 hi h=>?_);refine TL.le (τ := Qew p0 p1 x8.2 x9 (wr (v9+1))) ?_ ((iQca p0 p1 x8.2 x9 (wr (v9+1)) _ h));exact Le.tz 0 1 rfl rfl rfl
   ·exact JP1.a h (Le.tz 0 1 rfl rfl rfl)
theorem Qro:∀ (p0:(List Qab)) (p1:Int) (p2:Int) (o:(List Qab)×Int),Qa8 p0 p1 p2=some o→PCall Tryz.prog 22 [.sl false (p0.map Qaa),iV p1,iV p2] (Qck o):=fun p0 p1 p2=>Qqg.1 p0 p1 p2
end Go.Proofs.YtfgegilhjlnohaaGreat
end
