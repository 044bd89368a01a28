/- The proof's texts, part 9 of 13: the walks by a logic in which data are by value, the plain laws, and at the end the law, for every input. -/
import Derived.Test.YtfgegilhjlnohaaGreatMgSecrecyChecks8

noncomputable section
set_option linter.unusedVariables false
set_option linter.unusedSimpArgs false
set_option maxRecDepth 100000
set_option maxHeartbeats 4000000
namespace Go.Proofs.YtfgegilhjlnohaaGreat
open Go.RowKit
def Q59 (p0:(List (List UInt8))) (p1:(List UInt8)):Option (Bool) :=
 (Qnl p0 p1 0)>>=fun o1 =>
 match o1 with
 | .inl y2 =>
  some false
 | .inr y3 =>
  some true
theorem Qab7:∀ (p0:(List (List UInt8))) (p1:(List UInt8)) (o:Bool),Q59 p0 p1=some o→PCall Tryz.prog 21 [.sl false (p0.map cStr),sV p1] (Qw5 o):=by
 intro p0 p1 o h;unfold Q59 at h;refine PCall.ofB mixed tbOk Qabs Tryz.func21 rfl (by kernel_rfl) (Nat.le_of_ble_eq_true rfl) ?_;refine Qaj h (fun o1 ho hk=>?_);refine Exists.intro (JP2 _ _ o1 (.exit 0) (Qy8 p0 p1) .ret (Qy9 p0 p1)) (And.intro (Qhe (τ := Qsw p0 p1 0) ?_ (TL.loop (Qamr p0 p1 0 o1 ho))) (Qfg (fun y2 hy=>?_) (fun y3 hy=>?_)))
 ·exact Le.tz 0 0 rfl rfl rfl
 ·have h:=(by rw[hy] at hk; exact hk);refine Qas (t:=Qw5) h ?_;exact .refl _
 ·have h:=(by rw[hy] at hk; exact hk);refine Qas (t:=Qw5) h ?_;exact .refl _
def Qih (p0:(List (List UInt8))) (p1:(List UInt8)) (v5:Int):Option (Int) :=
 ( if(decide (v5<(p0.length:Int))) then
   idx p0 v5>>=fun x4 =>
   some (Op.bytesLess x4 p1)
  else
   some false:Option (Bool))>>=fun o3 =>
 if o3 then
  Qih p0 p1 (wr (v5+1))
 else
  some v5
 partial_fixpoint
theorem Qaki:∀ (p0:(List (List UInt8))) (p1:(List UInt8)),(∀ (v5:Int) (o2:Int),Qih p0 p1 v5=some o2→TL (0,1) Tryz.prog 36 Q8g (JP1 (0,1) 36 o2 (.exit 0) (Qvj p0 p1)) (Qou p0 p1 v5)):=by
 intro p0 p1;refine Qih.partial_correctness p0 p1 _ ?_;intro Qih' iQih v5 o2 h;refine TL.round (Qar mixed tbOk (lv:=Q12) _ _ _ ?_);refine Qaj h (fun o3 ho hk=>?_);refine Exists.intro (JP1 _ _ o3 .normal (Q8f p0 p1 v5)) (And.intro ?_ (Qa4 ?_))
 ·have h:=ho;refine view (Qaw _ _) rfl ?_;refine Qac h (fun hb h=>?_) (fun hb h=>?_)
  ·refine Qa8 (l:=p0) (c:=cStr) (c' := cStr) h (fun _=>rfl) (fun _=>rfl) (by decide) (fun x4 hi h=>?_);refine JP1.a h ?_;exact Le.tz 0 1 rfl rfl rfl
  ·refine JP1.a h ?_;exact Le.tz 0 1 rfl rfl rfl
 ·have h:=hk;refine Qac h (fun hb h=>?_) (fun hb h=>?_)
  ·refine TL.le (τ := Qou p0 p1 (wr (v5+1))) ?_ ((iQih (wr (v5+1)) _ h));exact Le.tz 0 1 rfl rfl rfl
  ·exact JP1.a h (Le.tz 0 1 rfl rfl rfl)
def Qqq (p0:(List (List UInt8))) (p1:(List UInt8)):Option ((List (List UInt8))) :=
 Q59 p0 p1>>=fun x1 =>
 if x1 then
  some p0
 else
  (Qih p0 p1 0)>>=fun o2 =>
  cutL p0 0 o2>>=fun x5 =>
  appL 16 [] x5>>=fun x6 =>
  appL 16 x6 [p1]>>=fun x7 =>
  cutL p0 o2 (p0.length:Int)>>=fun x8 =>
  appL 16 x7 x8>>=fun x9 =>
  need (((p0.map cStr).length)<((x9.map cStr).length))>>=fun _ =>
  some x9
theorem Qv4:∀ (p0:(List (List UInt8))) (p1:(List UInt8)) (o:(List (List UInt8))),Qqq p0 p1=some o→CallOK Tryz.prog 55 [.own 0 9 1 (p0.map cStr),.p (sV p1)] ⟨[],[(p0.map cStr).length]⟩ (Qyk o) ⟨[],[(o.map cStr).length]⟩:=by
 intro p0 p1 o h;unfold Qqq at h;refine CallOK.ofBN mixed tbOk Q12 Tryz.func55 rfl (by kernel_rfl) (Nat.le_of_ble_eq_true rfl) rfl rfl (Nat.le_of_ble_eq_true rfl) ?_;refine Qan [.sl false (p0.map cStr),sV p1] Qw5 h (fun x1 hy=>(Qab7 p0 p1 x1 hy)) (fun x1 hy h=>?_);refine Qac h (fun hb h=>?_) (fun hb h=>?_)
 ·refine Exists.intro _ (And.intro (Le.refl _ _ _) ?_);exact Q1t (t:=Qyk) (ss:=fun o=>⟨[],[(o.map cStr).length]⟩) h ⟨[],[0],rfl,rfl,.refl _,.refl _,rfl,rfl⟩
 ·refine Qaj h (fun o2 ho hk=>?_);refine Exists.intro (JP1 _ _ o2 (.exit 0) (Qvj p0 p1)) (And.intro (Qhe (τ := Qou p0 p1 0) ?_ (TL.loop (Qaki p0 p1 0 o2 ho))) (Qa4 ?_))
  ·exact Le.tz 0 1 rfl rfl rfl
  have h:=hk;refine And.intro (by decide +kernel) (And.intro rfl ?_);refine Qaf6 (full:=false) (c:=cStr) none (some o2) h (fun _=>rfl) (fun x5 hi h=>?_);refine Qaee (a:=([]:List (List UInt8))) (b:=x5) (c:=cStr) h (.refl _) (.refl _) (fun _=>rfl) (.inl rfl) (fun x6 hi h=>?_);refine Qi4 (a:=x6) (b:=[p1]) (c:=cStr) h (.refl _) (fun _=>rfl) rfl (fun x7 hi h=>?_);refine Qaf6 (full:=false) (c:=cStr) (some o2) none h (fun _=>rfl) (fun x8 hi h=>?_);refine Qi4 (a:=x7) (b:=x8) (c:=cStr) h (.refl _) (fun _=>rfl) rfl (fun x9 hi h=>?_);refine Q0t h (fun hn h=>?_);refine Exists.intro _ (And.intro ((Le.into 4 0 0 1 _ _ rfl rfl rfl rfl rfl hn (by decide)).trans (Le.refl _ _ _)) ?_);exact Q1t (t:=Qyk) (ss:=fun o=>⟨[],[(o.map cStr).length]⟩) h ⟨[],[0],rfl,rfl,.refl _,.refl _,rfl,rfl⟩
def Qgu (p0:(List Qab)) (v4:Int) (x9:(List (List UInt8))) (x10:(List (List UInt8))) (v3_:(List (List UInt8))) (v6:Int):Option ((List (List UInt8))) :=
 if(decide (v6<(x10.length:Int))) then
  idx x10 v6>>=fun x12 =>
  Qqq v3_ x12>>=fun x13 =>
  Qgu p0 v4 x9 x10 x13 (wr (v6+1))
 else
  some v3_
 partial_fixpoint
theorem Qakj:∀ (p0:(List Qab)) (v4:Int) (x9:(List (List UInt8))) (x10:(List (List UInt8))),(∀ (v3_:(List (List UInt8))) (v6:Int) (o11:(List (List UInt8))),Qgu p0 v4 x9 x10 v3_ v6=some o11→TL (0,0) Tryz.prog 53 Q8d (JP1 (0,0) 53 o11 (.exit 2) (Qvh p0 v4 x9 x10)) (Qos p0 v4 x9 x10 v3_ v6)):=by
 intro p0 v4 x9 x10;refine Qgu.partial_correctness p0 v4 x9 x10 _ ?_;intro Qgu' iQgu v3_ v6 o11 h;refine TL.round (Qar mixed tbOk (lv:=Qv0) _ _ _ ?_);refine view (Qaw _ _) rfl ?_;refine Qac h (fun hb h=>?_) (fun hb h=>?_)
 ·refine Qa8 (l:=x10) (c:=cStr) (c' := cStr) h (fun _=>rfl) (fun _=>rfl) (by decide) (fun x12 hi h=>?_);refine Or.inr ?_;refine Q7i _ _ h (fun x13 hy=>((Qv4 v3_ x12 x13 hy).fr [] [0] rfl rfl rfl)) (fun x13 hy h=>?_);refine TL.le (τ := Qos p0 v4 x9 x10 x13 (wr (v6+1))) ?_ ((iQgu x13 (wr (v6+1)) _ h));exact Le.tz 0 3 rfl rfl rfl
 ·exact JP1.a h (Le.tz 0 3 rfl rfl rfl)
mutual
def Qez (p0:(List Qab)):Option ((List (List UInt8))) :=
 (Qgv p0 [] 0)>>=fun o1 =>
 some o1
 partial_fixpoint
def Qgv (p0:(List Qab)) (v3:(List (List UInt8))) (v4:Int):Option ((List (List UInt8))) :=
 if(decide (v4<(p0.length:Int))) then
  ( idx p0 v4>>=fun x3 =>
   if(x3.Kind==13) then
    idx p0 v4>>=fun x4 =>
    Qqq v3 x4.Name>>=fun x5 =>
    some x5
   else
    some v3:Option ((List (List UInt8))))>>=fun o2 =>
  idx p0 v4>>=fun x6 =>
  Qez x6.Then>>=fun x7 =>
  idx p0 v4>>=fun x8 =>
  Qez x8.Else>>=fun x9 =>
  appL 16 x7 x9>>=fun x10 =>
  (Qgu p0 v4 x9 x10 o2 0)>>=fun o11 =>
  Qgv p0 o11 (wr (v4+1))
 else
  some v3
 partial_fixpoint
end
theorem Qab8:(∀ (p0:(List Qab)) (o:(List (List UInt8))),Qez p0=some o→CallOK Tryz.prog 45 [.p (.sl false (p0.map Qaa))] ⟨[],[]⟩ (Qyj o) ⟨[],[(o.map cStr).length]⟩)∧(∀ (p0:(List Qab)) (v3:(List (List UInt8))) (v4:Int) (o1:(List (List UInt8))),Qgv p0 v3 v4=some o1→TL (0,0) Tryz.prog 53 Q8e (JP1 (0,0) 53 o1 (.exit 0) (Qvi p0)) (Qot p0 v3 v4)):=by
 refine Qez.mutual_partial_correctness _ _ ?_ ?_
 ·intro Qgv' iQgv p0 o h;refine CallOK.ofBN mixed tbOk Qv0 Tryz.func45 rfl (by kernel_rfl) (Nat.le_of_ble_eq_true rfl) rfl rfl (Nat.le_of_ble_eq_true rfl) ?_;refine Qaj h (fun o1 ho hk=>?_);refine Exists.intro (JP1 _ _ o1 (.exit 0) (Qvi p0)) (And.intro (Qhe (τ := Qot p0 [] 0) ?_ (TL.loop (iQgv p0 [] 0 o1 ho))) (Qa4 ?_))
  ·exact Le.trans (τ := ⟨[(0,.p (.sl false (p0.map Qaa))),(3,.p (.sl true [])),(4,.p (iV 0))],⟨[],[]⟩⟩) (Le.tz 0 0 rfl rfl rfl) ((Le.own 3 9 1 rfl Q1p).trans (Le.tz 0 1 rfl rfl rfl))
  have h:=hk;refine Exists.intro _ (And.intro (Le.refl _ _ _) ?_);exact Q1t (t:=Qyj) (ss:=fun o=>⟨[],[(o.map cStr).length]⟩) h ⟨[],[0],rfl,rfl,.refl _,.refl _,rfl,rfl⟩
 ·intro Qez' Qgv' iQez iQgv p0 v3 v4 o1 h;refine TL.round (Qar mixed tbOk (lv:=Qv0) _ _ _ ?_);refine view (Qaw _ _) rfl ?_;refine Qac h (fun hb h=>?_) (fun hb h=>?_)
  ·refine Qaj h (fun o2 ho hk=>?_);refine Exists.intro (JP1 _ _ o2 .normal (Q8c p0 v4)) (And.intro ?_ (Qa4 ?_))
   ·have h:=ho;refine Qa8 (l:=p0) (c:=Qaa) (c' := Qa2) h Qao (fun _=>rfl) (by decide) (fun x3 hi h=>?_);refine Qac h (fun hb h=>?_) (fun hb h=>?_)
    ·refine Qa8 (l:=p0) (c:=Qaa) (c' := Qa2) h Qao (fun _=>rfl) (by decide) (fun x4 hi h=>?_);refine Or.inr ?_;refine Q7i _ _ h (fun x5 hy=>((Qv4 v3 x4.Name x5 hy).fr [] [0] rfl rfl rfl)) (fun x5 hy h=>?_);refine JP1.a h ?_;exact Le.tz 0 1 rfl rfl rfl
    ·refine JP1.a h ?_;exact Le.tz 0 1 rfl rfl rfl
   ·have h:=hk;refine And.intro (by decide +kernel) (And.intro rfl ?_);refine Qa8 (l:=p0) (c:=Qaa) (c' := Qa2) h Qao (fun _=>rfl) (by decide) (fun x6 hi h=>?_);refine Q7g _ _ h (fun x7 hy=>((iQez x6.Then x7 hy).ft rfl [] rfl rfl rfl)) (fun x7 hy h=>?_);refine Qa8 (l:=p0) (c:=Qaa) (c' := Qa2) h Qao (fun _=>rfl) (by decide) (fun x8 hi h=>?_);refine Q7g _ _ h (fun x9 hy=>((iQez x8.Else x9 hy).ft rfl [] rfl rfl rfl)) (fun x9 hy h=>?_);refine Qi4 (a:=x7) (b:=x9) (c:=cStr) h (.refl _) (fun _=>rfl) rfl (fun x10 hi h=>?_);refine Qaj h (fun o11 ho hk=>?_);refine Exists.intro (JP1 _ _ o11 (.exit 2) (Qvh p0 v4 x9 x10)) (And.intro (Qhe (τ := Qos p0 v4 x9 x10 o2 0) ?_ (TL.loop (Qakj p0 v4 x9 x10 o2 0 o11 ho))) (Qa4 ?_))
    ·exact Le.tz 0 3 rfl rfl rfl
    have h:=hk;refine TL.le (τ := Qot p0 o11 (wr (v4+1))) ?_ ((iQgv p0 o11 (wr (v4+1)) _ h));exact Le.tz 0 1 rfl rfl rfl
  ·exact JP1.a h (Le.tz 0 1 rfl rfl rfl)
theorem Qv5:∀ (p0:(List Qab)) (o:(List (List UInt8))),Qez p0=some o→CallOK Tryz.prog 45 [.p (.sl false (p0.map Qaa))] ⟨[],[]⟩ (Qyj o) ⟨[],[(o.map cStr).length]⟩:=fun p0=>Qab8.1 p0
def Qgw (p0:(List Qae)) (v7:Int):Option (Unit⊕(List UInt8)) :=
 if(decide (v7<(p0.length:Int))) then
  idx p0 v7>>=fun x17 =>
  Qez x17.L>>=fun x18 =>
  (Qgt p0 v7 x18 0)>>=fun o19 =>
  match o19 with
  | .inl y20 =>
   Qgw p0 (wr (v7+1))
  | .inr y21 =>
   some (.inr y21)
 else
  some (.inl ())
 partial_fixpoint
theorem Qaie:∀ (p0:(List Qae)),(∀ (v7:Int) (o14:Unit⊕(List UInt8)),Qgw p0 v7=some o14→TL (0,0) Tryz.prog 119 Q3z (JP2 (0,0) 119 o14 (.exit 2) (Qss p0) .ret (Qst p0)) (Qm8 p0 v7)):=by
 intro p0;refine Qgw.partial_correctness p0 _ ?_;intro Qgw' iQgw v7 o14 h;refine TL.round (Qar mixed tbOk (lv:=Qlf) _ _ _ ?_);refine view (Qaw _ _) rfl ?_;refine Qac h (fun hb h=>?_) (fun hb h=>?_)
 ·refine Qa8 (l:=p0) (c:=Qaf) (c' := Qaf) h (fun _=>rfl) (fun _=>rfl) (by decide) (fun x17 hi h=>?_);refine Qaq _ _ h (fun x18 hy=>((Qv5 x17.L x18 hy).fr [] [] rfl rfl rfl)) (fun x18 hy h=>?_);refine Qaj h (fun o19 ho hk=>?_);refine Exists.intro (JP2 _ _ o19 (.exit 4) (Qsq p0 v7 x18) .ret (Qsr p0 v7 x18)) (And.intro (Qhe (τ := Qm7 p0 v7 x18 0) ?_ (TL.loop (Qaid p0 v7 x18 0 o19 ho))) (Qfg (fun y20 hy=>?_) (fun y21 hy=>?_)))
  ·exact Le.tz 0 1 rfl rfl rfl
  ·have h:=(by rw[hy] at hk; exact hk);refine TL.le (τ := Qm8 p0 (wr (v7+1))) ?_ ((iQgw (wr (v7+1)) _ h));exact Le.tz 0 0 rfl rfl rfl
  ·have h:=(by rw[hy] at hk; exact hk);exact JP2.b h (Le.tz 0 0 rfl rfl rfl)
 ·exact JP2.a h (Le.tz 0 0 rfl rfl rfl)
def Qgx (p0:(List Qae)) (v7:(List (List UInt8))) (v8:Int) (v10:Int) (x7:(List (List UInt8))) (v7__:(List (List UInt8))) (v14:Int):Option ((List (List UInt8))) :=
 if(decide (v14<(x7.length:Int))) then
  idx x7 v14>>=fun x9 =>
  Qqq v7__ x9>>=fun x10 =>
  Qgx p0 v7 v8 v10 x7 x10 (wr (v14+1))
 else
  some v7__
 partial_fixpoint
theorem Qaif:∀ (p0:(List Qae)) (v7:(List (List UInt8))) (v8:Int) (v10:Int) (x7:(List (List UInt8))),(∀ (v7__:(List (List UInt8))) (v14:Int) (o8:(List (List UInt8))),Qgx p0 v7 v8 v10 x7 v7__ v14=some o8→TL (0,0) Tryz.prog 60 Q31 (JP1 (0,0) 60 o8 (.exit 4) (Qsx p0 v7 v8 v10 x7)) (Qna p0 v7 v8 v10 x7 v7__ v14)):=by
 intro p0 v7 v8 v10 x7;refine Qgx.partial_correctness p0 v7 v8 v10 x7 _ ?_;intro Qgx' iQgx v7__ v14 o8 h;refine TL.round (Qar mixed tbOk (lv:=Qn2) _ _ _ ?_);refine view (Qaw _ _) rfl ?_;refine Qac h (fun hb h=>?_) (fun hb h=>?_)
 ·refine Qa8 (l:=x7) (c:=cStr) (c' := cStr) h (fun _=>rfl) (fun _=>rfl) (by decide) (fun x9 hi h=>?_);refine Or.inr ?_;refine Q7i _ _ h (fun x10 hy=>((Qv4 v7__ x9 x10 hy).fr [] [0] rfl rfl rfl)) (fun x10 hy h=>?_);refine TL.le (τ := Qna p0 v7 v8 v10 x7 x10 (wr (v14+1))) ?_ ((iQgx x10 (wr (v14+1)) _ h));exact Le.tz 0 2 rfl rfl rfl
 ·exact JP1.a h (Le.tz 0 2 rfl rfl rfl)
def Qgy (p0:(List Qae)) (v7:(List (List UInt8))) (v8:Int) (v7_:(List (List UInt8))) (v10:Int):Option ((List (List UInt8))) :=
 if(decide (v10<(v7.length:Int))) then
  idx v7 v10>>=fun x5 =>
  Qhm p0 x5>>=fun x6 =>
  Qez x6.1>>=fun x7 =>
  (Qgx p0 v7 v8 v10 x7 v7_ 0)>>=fun o8 =>
  Qgy p0 v7 v8 o8 (wr (v10+1))
 else
  some v7_
 partial_fixpoint
theorem Qaig:∀ (p0:(List Qae)) (v7:(List (List UInt8))) (v8:Int),(∀ (v7_:(List (List UInt8))) (v10:Int) (o4:(List (List UInt8))),Qgy p0 v7 v8 v7_ v10=some o4→TL (0,0) Tryz.prog 60 Q32 (JP1 (0,0) 60 o4 (.exit 2) (Qsy p0 v7 v8)) (Qnb p0 v7 v8 v7_ v10)):=by
 intro p0 v7 v8;refine Qgy.partial_correctness p0 v7 v8 _ ?_;intro Qgy' iQgy v7_ v10 o4 h;refine TL.round (Qar mixed tbOk (lv:=Qn2) _ _ _ ?_);refine view (Qaw _ _) rfl ?_;refine Qac h (fun hb h=>?_) (fun hb h=>?_)
 ·refine Qa8 (l:=v7) (c:=cStr) (c' := cStr) h (fun _=>rfl) (fun _=>rfl) (by decide) (fun x5 hi h=>?_);refine Qan [.sl false (p0.map Qaf),sV x5] Qe1 h (fun x6 hy=>(Qgr p0 x5 x6 hy)) (fun x6 hy h=>?_);refine Qaq _ _ h (fun x7 hy=>((Qv5 x6.1 x7 hy).fr [] [] rfl rfl rfl)) (fun x7 hy h=>?_);refine Qaj h (fun o8 ho hk=>?_);refine Exists.intro (JP1 _ _ o8 (.exit 4) (Qsx p0 v7 v8 v10 x7)) (And.intro (Qhe (τ := Qna p0 v7 v8 v10 x7 v7_ 0) ?_ (TL.loop (Qaif p0 v7 v8 v10 x7 v7_ 0 o8 ho))) (Qa4 ?_))
  ·exact Le.tz 0 2 rfl rfl rfl
  have h:=hk;refine TL.le (τ := Qnb p0 v7 v8 o8 (wr (v10+1))) ?_ ((iQgy o8 (wr (v10+1)) _ h));exact Le.tz 0 1 rfl rfl rfl
 ·exact JP1.a h (Le.tz 0 1 rfl rfl rfl)
def Qgz (p0:(List Qae)) (v7:(List (List UInt8))) (v8:Int):Option ((List (List UInt8))) :=
 if(decide (v8<(p0.length:Int))) then
  (Qgy p0 v7 v8 v7 0)>>=fun o4 =>
  Qgz p0 o4 (wr (v8+1))
 else
  some v7
 partial_fixpoint
theorem Qaih:∀ (p0:(List Qae)),(∀ (v7:(List (List UInt8))) (v8:Int) (o3:(List (List UInt8))),Qgz p0 v7 v8=some o3→TL (0,0) Tryz.prog 60 Q33 (JP1 (0,0) 60 o3 (.exit 0) (Qsz p0)) (Qnc p0 v7 v8)):=by
 intro p0;refine Qgz.partial_correctness p0 _ ?_;intro Qgz' iQgz v7 v8 o3 h;refine TL.round (Qar mixed tbOk (lv:=Qn2) _ _ _ ?_);refine view (Qaw _ _) rfl ?_;refine Qac h (fun hb h=>?_) (fun hb h=>?_)
 ·refine Qaj h (fun o4 ho hk=>?_);refine Exists.intro (JP1 _ _ o4 (.exit 2) (Qsy p0 v7 v8)) (And.intro (Qhe (τ := Qnb p0 v7 v8 v7 0) ?_ (TL.loop (Qaig p0 v7 v8 v7 0 o4 ho))) (Qa4 ?_))
  ·exact Le.tow 0 1 rfl (.cons rfl (.refl _) (.cons rfl (.refl _) (.cons rfl (.refl _) (.cons rfl (.drop rfl (.refl _)) (.cons rfl (.refl _) (.nil)))))) (.refl _) rfl
  have h:=hk;refine TL.le (τ := Qnc p0 o4 (wr (v8+1))) ?_ ((iQgz o4 (wr (v8+1)) _ h));exact Le.tz 0 1 rfl rfl rfl
 ·exact JP1.a h (Le.tz 0 1 rfl rfl rfl)
def Qtc (p0:(List Qae)) (p1:(List UInt8)):Option ((List (List UInt8))) :=
 Qhm p0 p1>>=fun x1 =>
 Qez x1.1>>=fun x2 =>
 (Qgz p0 x2 0)>>=fun o3 =>
 some o3
theorem Qab9:∀ (p0:(List Qae)) (p1:(List UInt8)) (o:(List (List UInt8))),Qtc p0 p1=some o→CallOK Tryz.prog 46 [.p (.sl false (p0.map Qaf)),.p (sV p1)] ⟨[],[]⟩ (Q11 o) ⟨[],[(o.map cStr).length]⟩:=by
 intro p0 p1 o h;unfold Qtc at h;refine CallOK.ofBN mixed tbOk Qn2 Tryz.func46 rfl (by kernel_rfl) (Nat.le_of_ble_eq_true rfl) rfl rfl (Nat.le_of_ble_eq_true rfl) ?_;refine Qan [.sl false (p0.map Qaf),sV p1] Qe1 h (fun x1 hy=>(Qgr p0 p1 x1 hy)) (fun x1 hy h=>?_);refine Qaq _ _ h (fun x2 hy=>((Qv5 x1.1 x2 hy).fr [] [] rfl rfl rfl)) (fun x2 hy h=>?_);refine Qaj h (fun o3 ho hk=>?_);refine Exists.intro (JP1 _ _ o3 (.exit 0) (Qsz p0)) (And.intro (Qhe (τ := Qnc p0 x2 0) ?_ (TL.loop (Qaih p0 x2 0 o3 ho))) (Qa4 ?_))
 ·exact Le.tz 0 1 rfl rfl rfl
 have h:=hk;refine Exists.intro _ (And.intro (Le.refl _ _ _) ?_);exact Q1t (t:=Q11) (ss:=fun o=>⟨[],[(o.map cStr).length]⟩) h ⟨[],[0],rfl,rfl,.refl _,.refl _,rfl,rfl⟩
def Qg0 (p0:(List Qae)) (v12:Int):Option (Unit⊕(List UInt8)) :=
 if(decide (v12<(p0.length:Int))) then
  idx p0 v12>>=fun x28 =>
  Qtc p0 x28.Name>>=fun x29 =>
  idx p0 v12>>=fun x30 =>
  Q59 x29 x30.Name>>=fun x31 =>
  if x31 then
   idx p0 v12>>=fun x32 =>
   some (.inr x32.Name)
  else
   Qg0 p0 (wr (v12+1))
 else
  some (.inl ())
 partial_fixpoint
theorem Qaii:∀ (p0:(List Qae)),(∀ (v12:Int) (o25:Unit⊕(List UInt8)),Qg0 p0 v12=some o25→TL (0,0) Tryz.prog 119 Q30 (JP2 (0,0) 119 o25 (.exit 6) (Qsu p0) .ret (Qsv p0)) (Qm9 p0 v12)):=by
 intro p0;refine Qg0.partial_correctness p0 _ ?_;intro Qg0' iQg0 v12 o25 h;refine TL.round (Qar mixed tbOk (lv:=Qlf) _ _ _ ?_);refine view (Qaw _ _) rfl ?_;refine Qac h (fun hb h=>?_) (fun hb h=>?_)
 ·refine And.intro (by decide +kernel) (And.intro rfl ?_);refine Qa8 (l:=p0) (c:=Qaf) (c' := Qaf) h (fun _=>rfl) (fun _=>rfl) (by decide) (fun x28 hi h=>?_);refine Q7g _ _ h (fun x29 hy=>((Qab9 p0 x28.Name x29 hy).ft rfl [] rfl rfl rfl)) (fun x29 hy h=>?_);refine Qa8 (l:=p0) (c:=Qaf) (c' := Qaf) h (fun _=>rfl) (fun _=>rfl) (by decide) (fun x30 hi h=>?_);refine Qdk [.sl false (x29.map cStr),sV x30.Name] Qw5 h (fun x31 hy=>(Qab7 x29 x30.Name x31 hy)) (fun x31 hy h=>?_);refine Qac h (fun hb h=>?_) (fun hb h=>?_)
  ·refine Qa8 (l:=p0) (c:=Qaf) (c' := Qaf) h (fun _=>rfl) (fun _=>rfl) (by decide) (fun x32 hi h=>?_);exact JP2.b h (Le.tz 0 0 rfl rfl rfl)
  ·refine TL.le (τ := Qm9 p0 (wr (v12+1))) ?_ ((iQg0 (wr (v12+1)) _ h));exact Le.tz 0 0 rfl rfl rfl
 ·exact JP2.a h (Le.tz 0 0 rfl rfl rfl)
def Qpt (p0:(List Qae)):Option ((List UInt8)×Int) :=
 if(decide ((p0.length:Int)>16)) then
  some ([],5)
 else
  (Qgs p0 0)>>=fun o1 =>
  match o1 with
  | .inl y2 =>
   (Qgw p0 0)>>=fun o14 =>
   match o14 with
   | .inl y15 =>
    (Qg0 p0 0)>>=fun o25 =>
    match o25 with
    | .inl y26 =>
     some ([],0)
    | .inr y27 =>
     some (y27,10)
   | .inr y16 =>
    some (y16,4)
  | .inr y3 =>
   some (y3.1,y3.2)
theorem Qzf:∀ (p0:(List Qae)) (o:(List UInt8)×Int),Qpt p0=some o→PCall Tryz.prog 14 [.sl false (p0.map Qaf)] (Qgm o):=by
 intro p0 o h;unfold Qpt at h;refine PCall.ofB mixed tbOk Qlf Tryz.func14 rfl (by kernel_rfl) (Nat.le_of_ble_eq_true rfl) ?_;refine view (Qaw _ _) rfl ?_;refine Qac h (fun hb h=>?_) (fun hb h=>?_)
 ·refine Qas (t:=Qgm) h ?_;exact .refl _
 ·refine Qaj h (fun o1 ho hk=>?_);refine Exists.intro (JP2 _ _ o1 (.exit 0) (Qso p0) .ret (Qsp p0)) (And.intro (Qhe (τ := Qm6 p0 0) ?_ (TL.loop (Qaic p0 0 o1 ho))) (Qfg (fun y2 hy=>?_) (fun y3 hy=>?_)))
  ·exact Le.tz 0 0 rfl rfl rfl
  ·have h:=(by rw[hy] at hk; exact hk);refine Qaj h (fun o14 ho hk=>?_);refine Exists.intro (JP2 _ _ o14 (.exit 2) (Qss p0) .ret (Qst p0)) (And.intro (Qhe (τ := Qm8 p0 0) ?_ (TL.loop (Qaie p0 0 o14 ho))) (Qfg (fun y15 hy=>?_) (fun y16 hy=>?_)))
   ·exact Le.tz 0 0 rfl rfl rfl
   ·have h:=(by rw[hy] at hk; exact hk);refine Qaj h (fun o25 ho hk=>?_);refine Exists.intro (JP2 _ _ o25 (.exit 6) (Qsu p0) .ret (Qsv p0)) (And.intro (Qhe (τ := Qm9 p0 0) ?_ (TL.loop (Qaii p0 0 o25 ho))) (Qfg (fun y26 hy=>?_) (fun y27 hy=>?_)))
    ·exact Le.tz 0 0 rfl rfl rfl
    ·have h:=(by rw[hy] at hk; exact hk);refine Qas (t:=Qgm) h ?_;exact .refl _
    ·have h:=(by rw[hy] at hk; exact hk);refine Qas (t:=Qgm) h ?_;exact .refl _
   ·have h:=(by rw[hy] at hk; exact hk);refine Qas (t:=Qgm) h ?_;exact .refl _
  ·have h:=(by rw[hy] at hk; exact hk);refine Qas (t:=Qgm) h ?_;exact .refl _
def Qfm (p0:(List Qae)) (p1:(List UInt8)) (v10:Int):Option (Unit⊕(List Qab)) :=
 if(decide (v10<(p0.length:Int))) then
  idx p0 v10>>=fun x4 =>
  if(x4.Name==p1) then
   some (.inr x4.L)
  else
   Qfm p0 p1 (wr (v10+1))
 else
  some (.inl ())
 partial_fixpoint
theorem Qahu:∀ (p0:(List Qae)) (p1:(List UInt8)),(∀ (v10:Int) (o1:Unit⊕(List Qab)),Qfm p0 p1 v10=some o1→TL (0,0) Tryz.prog 21 Q13 (JP2 (0,0) 21 o1 (.exit 0) (Qra p0 p1) .ret (Qrb p0 p1)) (Qlw p0 p1 v10)):=by
 intro p0 p1;refine Qfm.partial_correctness p0 p1 _ ?_;intro Qfm' iQfm v10 o1 h;refine TL.round (Qar mixed tbOk (lv:=Qw6) _ _ _ ?_);refine Qac h (fun hb h=>?_) (fun hb h=>?_)
 ·refine Qa8 (l:=p0) (c:=Qaf) (c' := Qaf) h (fun _=>rfl) (fun _=>rfl) (by decide) (fun x4 hi h=>?_);refine Qac h (fun hb h=>?_) (fun hb h=>?_)
  ·exact JP2.b h (Le.tz 0 0 rfl rfl rfl)
  ·refine TL.le (τ := Qlw p0 p1 (wr (v10+1))) ?_ ((iQfm (wr (v10+1)) _ h));exact Le.tz 0 0 rfl rfl rfl
 ·exact JP2.a h (Le.tz 0 0 rfl rfl rfl)
def Qhn (p0:(List Qae)) (p1:(List UInt8)):Option ((List Qab)×Bool) :=
 (Qfm p0 p1 0)>>=fun o1 =>
 match o1 with
 | .inl y2 =>
  some ([],false)
 | .inr y3 =>
  some (y3,true)
theorem Qje:∀ (p0:(List Qae)) (p1:(List UInt8)) (o:(List Qab)×Bool),Qhn p0 p1=some o→PCall Tryz.prog 39 [.sl false (p0.map Qaf),sV p1] (Qfb o):=by
 intro p0 p1 o h;unfold Qhn at h;refine PCall.ofB mixed tbOk Qw6 Tryz.func39 rfl (by kernel_rfl) (Nat.le_of_ble_eq_true rfl) ?_;refine view (Qaw _ _) rfl ?_;refine Qaj h (fun o1 ho hk=>?_);refine Exists.intro (JP2 _ _ o1 (.exit 0) (Qra p0 p1) .ret (Qrb p0 p1)) (And.intro (Qhe (τ := Qlw p0 p1 0) ?_ (TL.loop (Qahu p0 p1 0 o1 ho))) (Qfg (fun y2 hy=>?_) (fun y3 hy=>?_)))
 ·exact Le.tz 0 0 rfl rfl rfl
 ·have h:=(by rw[hy] at hk; exact hk);refine Qas (t:=Qfb) h ?_;exact .tup (xs:=[.sl true [],bV false]) (ys:=[.sl false [],bV false]) (.cons (.not) (.cons (.refl _) (.nil)))
 ·have h:=(by rw[hy] at hk; exact hk);refine Qas (t:=Qfb) h ?_;exact .refl _
def Qfn (x1:(List Qab)×Int) (l4:(List (Qab×Int))) (h0_0:Int):Option (Int) :=
 match l4 with
 | [] =>
  some h0_0
 | x2::r3 =>
  Qfn x1 r3 (wr (h0_0+1))
 partial_fixpoint
theorem Qahv:∀ (x1:(List Qab)×Int),(∀ (l4:(List (Qab×Int))) (h0_0:Int) (o6:Int),Qfn x1 l4 h0_0=some o6→RL 1 0 Tryz.prog 11 (rgP Qne) (rgA Qne) (rgB Qne) (Qh8 x1 h0_0).env (JP1 (0,0) 11 o6 .normal (Qrc x1)) (l4.map Qcn) (Qh8 x1 h0_0).s):=by
 intro x1;refine Qfn.partial_correctness x1 _ ?_;intro Qfn' iQfn l4 h0_0 o6 h;cases l4 with
 | nil =>
  refine Qaf8 ?_;exact JP1.a h (Le.tz 1 0 rfl rfl rfl)
 | cons x2 r3 =>
  refine Q7h (Qar mixed tbOk (lv:=Qqn) _ _ _ ?_);refine And.intro rfl (Qar mixed tbOk (lv:=Qqn) _ _ _ ?_);exact Exists.intro (Qh8 x1 (wr (h0_0+1))).s (And.intro (Le.tz 1 0 rfl rfl rfl) (And.intro rfl (And.intro rfl ((iQfn r3 (wr (h0_0+1)) _ h)))))
def Qk7 (p0:(List Qab)) (p1:Int):Option ((List Qab)×Int) :=
 some (p0,p1)
theorem Qv6:∀ (p0:(List Qab)) (p1:Int) (o:(List Qab)×Int),Qk7 p0 p1=some o→PCall Tryz.prog 96 [.sl false (p0.map Qaa),iV p1] (Qpq o):=by
 intro p0 p1 o h;unfold Qk7 at h;refine PCall.ofM mixed tbOk Qaer Tryz.func96 rfl (by kernel_rfl) (Nat.le_of_ble_eq_true rfl) ?_;refine Qas (t:=Qpq) h ?_;exact .refl _
def Qfo (p0:(List Qab)) (p1:Int) (v12:Int) (x3:Qab) (v28:Int) (x7:(List Qab)×Int) (l10:(List (Qab×Int))):Option ((List (Qab×Int))×(Unit)) :=
 match l10 with
 | [] =>
  some ([],())
 | x8::r9 =>
  ( Qfo p0 p1 v12 x3 v28 x7 r9 )>>=fun q=>some (((Qab.mk x8.1.Kind x8.1.Name x8.1.Text x8.1.N x8.1.L x8.1.Then x8.1.Else),x8.2)::q.1,q.2)
 partial_fixpoint
theorem Qahw:∀ (p0:(List Qab)) (p1:Int) (v12:Int) (x3:Qab) (v28:Int) (x7:(List Qab)×Int),(∀ (l10:(List (Qab×Int))) (o13:(List (Qab×Int))×(Unit)),Qfo p0 p1 v12 x3 v28 x7 l10=some o13→∀ (gxs gp gpost gq12:List (List V)),gxs=gp++(o13.1.map Qcn++gpost)→gxs=gq12++gpost→RL 2 1 Tryz.prog 44 (rgP Qnf) (rgA Qnf) (rgB Qnf) (Qh9 p0 p1 v12 x3 v28 x7 gxs gp).env (Qs (0,1) 44 gxs (JP1 (0,1) 44 o13.2 .normal (Qrd p0 p1 v12 x3 v28 x7 gxs gq12))) (l10.map Qcn) (Qh9 p0 p1 v12 x3 v28 x7 gxs gp).s):=by
 intro p0 p1 v12 x3 v28 x7;refine Qfo.partial_correctness p0 p1 v12 x3 v28 x7 _ ?_;intro Qfo' iQfo l10 o13 h;intro gxs gp gpost gq12 hx hq;cases l10 with
 | nil =>
  refine Qaf8 ?_;exact .inl (JP1.a (sndI h) (Le.tz 2 1 rfl rfl (Qamj h hx hq rfl)))
 | cons x8 r9 =>
  refine Q7h (Qar mixed tbOk (lv:=Qjc) _ _ _ ?_);refine And.intro rfl (Qar mixed tbOk (lv:=Qjc) _ _ _ ?_);refine Qajy (c:=Qcn) h hx (.refl _) (by exact rfl) (by exact rfl) (fun _ h hx=>?_) ?_
  ·refine bF ?_;exact Exists.intro (Qh9 p0 p1 v12 x3 v28 x7  gxs (gp++[Qcn ((Qab.mk x8.1.Kind x8.1.Name x8.1.Text x8.1.N x8.1.L x8.1.Then x8.1.Else),x8.2)])).s (And.intro (Le.tz 2 1 rfl rfl rfl) (And.intro rfl (And.intro rfl ((iQfo r9 _ h) _ _ _ _ hx hq))))
  ·refine bT ?_;exact⟨_,(Le.env0 _).trans (Le.tow 2 1 rfl .nil (.refl _) rfl),rfl,rfl,.inr ⟨rfl,Qami rfl⟩⟩
mutual
def Qf7 (p0 : (List Qab)) (p1 : Int) : Option ((List (Qab × Int)) × Unit) :=
  ( Qfp p0 p1 0) >>= fun o2 => (
    some ([], ())) >>= fun q => some (o2.1 ++ q.1, q.2)
  partial_fixpoint
def Qfp (p0 : (List Qab)) (p1 : Int) (v12 : Int) : Option ((List (Qab × Int)) × (Unit)) :=
  if (decide (v12 < (p0.length : Int))) then
    idx p0 v12 >>= fun x3 =>
    ( ( Qcj p0 p1 v12 x3 0) >>= fun o5 => (
        Qfp p0 p1 (wr (v12 + 1))) >>= fun q => some (o5.1 ++ q.1, q.2)) >>= fun q => some ((x3, p1) :: q.1, q.2)
  else
    some ([], ())
  partial_fixpoint
def Qcj (p0 : (List Qab)) (p1 : Int) (v12 : Int) (x3 : Qab) (v28 : Int) : Option ((List (Qab × Int)) × (Unit)) :=
  if (decide (v28 < 3)) then
    idx ([x3.L, x3.Then, x3.Else] : List (List Qab)) v28 >>= fun x6 =>
    Qk7 x6 (wr (p1 + 1)) >>= fun x7 =>
    Qf7 x7.1 x7.2 >>= fun y11 =>
    ( Qfo p0 p1 v12 x3 v28 x7 y11.1) >>= fun o13 => (
      Qcj p0 p1 v12 x3 (wr (v28 + 1))) >>= fun q => some (o13.1 ++ q.1, q.2)
  else
    some ([], ())
  partial_fixpoint
end
theorem Q4n:(∀ (p0:(List Qab)) (p1:Int) (o:(List (Qab×Int))×Unit),Qf7 p0 p1=some o→∀ gxs:List (List V),gxs=o.1.map Qcn→IterOK Tryz.prog 125 [.ep [.sl false (p0.map Qaa)],.ep [iV p1]] gxs)∧(∀ (p0:(List Qab)) (p1:Int) (v12:Int) (o2:(List (Qab×Int))×(Unit)),Qfp p0 p1 v12=some o2→∀ (gxs gp gpost gq1:List (List V)),gxs=gp++(o2.1.map Qcn++gpost)→gxs=gq1++gpost→TL (0,1) Tryz.prog 44 Q18 (Qs (0,1) 44 gxs (JP1 (0,1) 44 o2.2 (.exit 0) (Qrf p0 p1 gxs gq1))) (Qlz p0 p1 v12 gxs gp))∧(∀ (p0:(List Qab)) (p1:Int) (v12:Int) (x3:Qab) (v28:Int) (o5:(List (Qab×Int))×(Unit)),Qcj p0 p1 v12 x3 v28=some o5→∀ (gxs gp gpost gq4:List (List V)),gxs=gp++(o5.1.map Qcn++gpost)→gxs=gq4++gpost→TL (0,1) Tryz.prog 44 Q17 (Qs (0,1) 44 gxs (JP1 (0,1) 44 o5.2 (.exit 2) (Qre p0 p1 v12 x3 gxs gq4))) (Qly p0 p1 v12 x3 v28 gxs gp)):=by
 refine Qf7.mutual_partial_correctness _ _ _ ?_ ?_ ?_
 ·intro Qfp' iQfp p0 p1 o h;intro gxs hg;have hx:gxs=[]++(o.1.map Qcn++[]):=by simp[hg]
  refine IterOK.ofB mixed tbOk Qjc Tryz.func125 rfl (by kernel_rfl) (Nat.le_of_ble_eq_true rfl) rfl ?_;refine view (Qaw _ _) rfl ?_;refine Q0s h hx (fun o2 lgq1 gq1 ho hk hxa hjgq1=>?_);refine Exists.intro (Qs _ _ gxs (JP1 _ _ o2.2 (.exit 0) (Qrf p0 p1 gxs gq1))) (And.intro (Qhe (τ := Qlz p0 p1 0 gxs ([]:List (List V))) ?_ (TL.loop ((iQfp p0 p1 0 o2 ho) _ _ _ _ hxa hjgq1))) (Qamk (Qa4 ?_) ?_))
  ·exact Le.tz 1 1 rfl rfl rfl
  ·have h:=hk;have hx:=hjgq1;exact Qajx h hx (.inl rfl) rfl
  ·exact fun s1 h1 h2 hs=>Qaf9 (.inr rfl) hs
 ·intro Qfp' Qcj' iQfp iQcj p0 p1 v12 o2 h;intro gxs gp gpost gq1 hx hq;refine TL.round (Qar mixed tbOk (lv:=Qjc) _ _ _ ?_);refine Qac h (fun hb h=>?_) (fun hb h=>?_)
  ·refine Qa8 (l:=p0) (c:=Qaa) (c' := Qa2) h Qao (fun _=>rfl) (by decide) (fun x3 hi h=>?_);refine Qajy (c:=Qcn) h hx (.refl _) (by exact rfl) (by exact rfl) (fun _ h hx=>?_) ?_
   ·refine bF ?_;refine Q0s h hx (fun o5 lgq4 gq4 ho hk hxa hjgq4=>?_);refine Exists.intro (Qs _ _ gxs (JP1 _ _ o5.2 (.exit 2) (Qre p0 p1 v12 x3 gxs gq4))) (And.intro (Qhe (τ := Qly p0 p1 v12 x3 0 gxs (gp++[Qcn (x3,p1)])) ?_ (TL.loop ((iQcj p0 p1 v12 x3 0 o5 ho) _ _ _ _ hxa hjgq4))) (Qamk (Qa4 ?_) ?_))
    ·exact Le.tz 2 1 rfl rfl rfl
    ·have h:=hk;have hx:=hjgq4;refine TL.le (τ := Qlz p0 p1 (wr (v12+1)) gxs gq4) ?_ ((iQfp p0 p1 (wr (v12+1)) _ h) _ _ _ _ hx hq);exact Le.tz 1 1 rfl rfl rfl
    ·exact fun s1 h1 h2 hs =>.inr ⟨rfl,s1,.refl _ _ _,h1,h2,hs⟩
   ·refine bT ?_;exact .inr ⟨rfl,_,(Le.env0 _).trans (Le.tow 0 1 rfl .nil (.refl _) rfl),rfl,rfl,rfl⟩
  ·exact .inl (JP1.a (sndI h) (Le.tz 1 1 rfl rfl (Qamj h hx hq rfl)))
 ·intro Qf7' Qcj' iQf7 iQcj p0 p1 v12 x3 v28 o5 h;intro gxs gp gpost gq4 hx hq;refine TL.round (Qar mixed tbOk (lv:=Qjc) _ _ _ ?_);refine Qac h (fun hb h=>?_) (fun hb h=>?_)
  ·refine Qaoe (l:=([x3.L,x3.Then,x3.Else]:List (List Qab))) (c:=fun x6 =>.sl false (x6.map Qaa)) h rfl rfl rfl rfl (fun x6 hi h=>?_);refine Qan [.sl false (x6.map Qaa),iV (wr (p1+1))] Qpq h (fun x7 hy=>(Qv6 x6 (wr (p1+1)) x7 hy)) (fun x7 hy h=>?_);refine Qaj h (fun y11 hy11 h=>?_);refine Q0s h hx (fun o13 lgq12 gq12 ho hk hxa hjgq12=>?_);refine Exists.intro (Qs _ _ gxs (JP1 _ _ o13.2 .normal (Qrd p0 p1 v12 x3 v28 x7 gxs gq12))) (And.intro (Qhe (τ := Qh9 p0 p1 v12 x3 v28 x7 gxs gp) ?_ (Q7b (g:=125) (cap:=[.ep [.sl false (x7.1.map Qaa)],.ep [iV x7.2]]) rfl ((iQf7 x7.1 x7.2 y11 hy11) _ rfl) (Q1q fun _=>rfl) rfl (Nat.le_of_ble_eq_true rfl) (Nat.le_of_ble_eq_true rfl) ((Qahw p0 p1 v12 x3 v28 x7 y11.1 o13 ho) _ _ _ _ hxa hjgq12))) (Qamk (Qa4 ?_) ?_))
   ·exact Le.tz 2 1 rfl rfl rfl
   ·have h:=hk;have hx:=hjgq12;refine TL.le (τ := Qly p0 p1 v12 x3 (wr (v28+1)) gxs gq12) ?_ ((iQcj p0 p1 v12 x3 (wr (v28+1)) _ h) _ _ _ _ hx hq);exact Le.tz 2 1 rfl rfl rfl
   ·exact fun s1 h1 h2 hs =>.inr ⟨rfl,s1,.refl _ _ _,h1,h2,hs⟩
  ·exact .inl (JP1.a (sndI h) (Le.tz 2 1 rfl rfl (Qamj h hx hq rfl)))
theorem Qxa:∀ (p0:(List Qab)) (p1:Int) (o:(List (Qab×Int))×Unit),Qf7 p0 p1=some o→∀ gxs:List (List V),gxs=o.1.map Qcn→IterOK Tryz.prog 125 [.ep [.sl false (p0.map Qaa)],.ep [iV p1]] gxs:=fun p0 p1=>Q4n.1 p0 p1
def Qpu (p0:(List Qab)):Option (Int) :=
 Qk7 p0 1>>=fun x1 =>
 Qf7 x1.1 x1.2>>=fun y5 =>
 (Qfn x1 y5.1 0)>>=fun o6 =>
 some o6
theorem Q8x:∀ (p0:(List Qab)) (o:Int),Qpu p0=some o→PCall Tryz.prog 71 [.sl false (p0.map Qaa)] (Qs7 o):=by
 intro p0 o h;unfold Qpu at h;refine PCall.ofB mixed tbOk Qqn Tryz.func71 rfl (by kernel_rfl) (Nat.le_of_ble_eq_true rfl) ?_;refine Qan [.sl false (p0.map Qaa),iV 1] Qpq h (fun x1 hy=>(Qv6 p0 1 x1 hy)) (fun x1 hy h=>?_);refine Qaj h (fun y5 hy5 h=>?_);refine Qaj h (fun o6 ho hk=>?_);refine Exists.intro (JP1 _ _ o6 .normal (Qrc x1)) (And.intro (Qhe (τ := Qh8 x1 0) ?_ (Q7b (g:=125) (cap:=[.ep [.sl false (x1.1.map Qaa)],.ep [iV x1.2]]) rfl ((Qxa x1.1 x1.2 y5 hy5) _ rfl) (Q1q fun _=>rfl) rfl (Nat.le_of_ble_eq_true rfl) (Nat.le_of_ble_eq_true rfl) (Qahv x1 y5.1 0 o6 ho))) (Qa4 ?_))
 ·exact Le.tz 1 0 rfl rfl rfl
 have h:=hk;refine Qas (t:=Qs7) h ?_;exact .refl _
def Qg1 (x1:(List Qab)×Int) (l4:(List (Qab×Int))) (h0_0:Int):Option (Int) :=
 match l4 with
 | [] =>
  some h0_0
 | x2::r3 =>
  Qg1 x1 r3 (if x2.2>h0_0 then x2.2 else h0_0)
 partial_fixpoint
theorem Qaij:∀ (x1:(List Qab)×Int),(∀ (l4:(List (Qab×Int))) (h0_0:Int) (o6:Int),Qg1 x1 l4 h0_0=some o6→RL 1 0 Tryz.prog 14 (rgP Qox) (rgA Qox) (rgB Qox) (Qjb x1 h0_0).env (JP1 (0,0) 14 o6 .normal (Qs9 x1)) (l4.map Qcn) (Qjb x1 h0_0).s):=by
 intro x1;refine Qg1.partial_correctness x1 _ ?_;intro Qg1' iQg1 l4 h0_0 o6 h;cases l4 with
 | nil =>
  refine Qaf8 ?_;exact JP1.a h (Le.tz 1 0 rfl rfl rfl)
 | cons x2 r3 =>
  refine Q7h (Qar mixed tbOk (lv:=Qs8) _ _ _ ?_);refine And.intro rfl (Qar mixed tbOk (lv:=Qs8) _ _ _ ?_);exact Exists.intro (Qjb x1 (if x2.2>h0_0 then x2.2 else h0_0)).s (And.intro (Le.tz 1 0 rfl rfl rfl) (And.intro rfl (And.intro rfl ((iQg1 r3 (if x2.2>h0_0 then x2.2 else h0_0) _ h)))))
def Qtd (p0:(List Qab)):Option (Int) :=
 Qk7 p0 1>>=fun x1 =>
 Qf7 x1.1 x1.2>>=fun y5 =>
 (Qg1 x1 y5.1 0)>>=fun o6 =>
 some o6
theorem Qaca:∀ (p0:(List Qab)) (o:Int),Qtd p0=some o→PCall Tryz.prog 70 [.sl false (p0.map Qaa)] (Qv2 o):=by
 intro p0 o h;unfold Qtd at h;refine PCall.ofB mixed tbOk Qs8 Tryz.func70 rfl (by kernel_rfl) (Nat.le_of_ble_eq_true rfl) ?_;refine Qan [.sl false (p0.map Qaa),iV 1] Qpq h (fun x1 hy=>(Qv6 p0 1 x1 hy)) (fun x1 hy h=>?_);refine Qaj h (fun y5 hy5 h=>?_);refine Qaj h (fun o6 ho hk=>?_);refine Exists.intro (JP1 _ _ o6 .normal (Qs9 x1)) (And.intro (Qhe (τ := Qjb x1 0) ?_ (Q7b (g:=125) (cap:=[.ep [.sl false (x1.1.map Qaa)],.ep [iV x1.2]]) rfl ((Qxa x1.1 x1.2 y5 hy5) _ rfl) (Q1q fun _=>rfl) rfl (Nat.le_of_ble_eq_true rfl) (Nat.le_of_ble_eq_true rfl) (Qaij x1 y5.1 0 o6 ho))) (Qa4 ?_))
 ·exact Le.tz 1 0 rfl rfl rfl
 have h:=hk;refine Qas (t:=Qv2) h ?_;exact .refl _
def Qce (p0:(List UInt8)) (p1:(List UInt8)):Option (Bool) :=
 ( if(decide ((p0.length:Int) ≥ (p1.length:Int))) then
   cutL p0 (wr ((p0.length:Int)-(p1.length:Int))) (p0.length:Int)>>=fun x2 =>
   some (x2==p1)
  else
   some false:Option (Bool))>>=fun o1 =>
 some o1
theorem Qjf:∀ (p0:(List UInt8)) (p1:(List UInt8)) (o:Bool),Qce p0 p1=some o→PCall Tryz.prog 129 [sV p0,sV p1] (Qcy o):=by
 intro p0 p1 o h;unfold Qce at h;refine PCall.ofB mixed tbOk Qi8 Tryz.func129 rfl (by kernel_rfl) (Nat.le_of_ble_eq_true rfl) ?_;refine Qaj h (fun o1 ho hk=>?_);refine Exists.intro (JP1 _ _ o1 .normal (Qie )) (And.intro ?_ (Qa4 ?_))
 ·have h:=ho;refine vrfl ?_;refine vrfl ?_;refine Qac h (fun hb h=>?_) (fun hb h=>?_)
  ·refine vrfl ?_;refine vrfl ?_;refine Qi3 (some (wr ((p0.length:Int)-(p1.length:Int)))) none h (fun x2 hi h=>?_);refine JP1.a h ?_;exact Le.tz 0 0 rfl rfl rfl
  ·refine JP1.a h ?_;exact Le.tz 0 0 rfl rfl rfl
 ·have h:=hk;refine Qas (t:=Qcy) h ?_;exact .refl _
def Qco (p0:(List UInt8)) (p1:(List UInt8)):Option (Bool) :=
 Qce p0 p1>>=fun x1 =>
 some x1
theorem Qe0:∀ (p0:(List UInt8)) (p1:(List UInt8)) (o:Bool),Qco p0 p1=some o→PCall Tryz.prog 98 [sV p0,sV p1] (Qc7 o):=by
 intro p0 p1 o h;unfold Qco at h;refine PCall.ofB mixed tbOk Qus Tryz.func98 rfl (by kernel_rfl) (Nat.le_of_ble_eq_true rfl) ?_;refine Qan [sV p0,sV p1] Qcy h (fun x1 hy=>(Qjf p0 p1 x1 hy)) (fun x1 hy h=>?_);refine Qas (t:=Qc7) h ?_;exact .refl _
def Qc1 (p0:(List UInt8)) (p1:(List UInt8)):Option (Int) :=
 need (p0.length<4294967281)>>=fun _ =>
 some (Lib.index p0 p1)
theorem Ql1:∀ (p0:(List UInt8)) (p1:(List UInt8)) (o:Int),Qc1 p0 p1=some o→PCall Tryz.prog 167 [sV p0,sV p1] (Qgc o):=by
 intro p0 p1 o h;unfold Qc1 at h;obtain⟨h1,h⟩:=Qabi h;cases h;exact Qamm _ _ h1
def Qmh (p0:(List UInt8)) (p1:(List UInt8)):Option (Int) :=
 Qc1 p0 p1>>=fun x1 =>
 some x1
theorem Qz1:∀ (p0:(List UInt8)) (p1:(List UInt8)) (o:Int),Qmh p0 p1=some o→PCall Tryz.prog 153 [sV p0,sV p1] (Qnd o):=by
 intro p0 p1 o h;unfold Qmh at h;refine PCall.ofB mixed tbOk Qz0 Tryz.func153 rfl (by kernel_rfl) (Nat.le_of_ble_eq_true rfl) ?_;refine Qan [sV p0,sV p1] Qgc h (fun x1 hy=>(Ql1 p0 p1 x1 hy)) (fun x1 hy h=>?_);refine Qas (t:=Qnd) h ?_;exact .refl _
def Qf2 (p0:(List UInt8)) (p1:(List UInt8)):Option (Bool) :=
 Qmh p0 p1>>=fun x1 =>
 some (decide (x1 ≥ 0))
theorem Qv7:∀ (p0:(List UInt8)) (p1:(List UInt8)) (o:Bool),Qf2 p0 p1=some o→PCall Tryz.prog 127 [sV p0,sV p1] (Qja o):=by
 intro p0 p1 o h;unfold Qf2 at h;refine PCall.ofB mixed tbOk Qv1 Tryz.func127 rfl (by kernel_rfl) (Nat.le_of_ble_eq_true rfl) ?_;refine Qan [sV p0,sV p1] Qnd h (fun x1 hy=>(Qz1 p0 p1 x1 hy)) (fun x1 hy h=>?_);refine Qas (t:=Qja) h ?_;exact .refl _
def Qpv (p0:Int):Option (Bool) :=
 ( if(decide (p0 ≥ 48)) then
   some (decide (p0≤57))
  else
   some false:Option (Bool))>>=fun o1 =>
 some o1
theorem Qzg:∀ (p0:Int) (o:Bool),Qpv p0=some o→PCall Tryz.prog 124 [nV .u8 p0] (Qqm o):=by
 intro p0 o h;unfold Qpv at h;refine PCall.ofB mixed tbOk Qabt Tryz.func124 rfl (by kernel_rfl) (Nat.le_of_ble_eq_true rfl) ?_;refine Qaj h (fun o1 ho hk=>?_);refine Exists.intro (JP1 _ _ o1 .normal (Q37 )) (And.intro ?_ (Qa4 ?_))
 ·have h:=ho;refine Qac h (fun hb h=>?_) (fun hb h=>?_)
  ·refine JP1.a h ?_;exact Le.tz 0 0 rfl rfl rfl
  ·refine JP1.a h ?_;exact Le.tz 0 0 rfl rfl rfl
 ·have h:=hk;refine Qas (t:=Qqm) h ?_;exact .refl _
def Qpw (p0:Int):Option (Bool) :=
 ( if(decide (p0 ≥ 97)) then
   if(decide (p0≤122)) then
    some true
   else
    Qpv p0>>=fun x2 =>
    if x2 then
     some true
    else
     some (p0==95)
  else
   Qpv p0>>=fun x3 =>
   if x3 then
    some true
   else
    some (p0==95):Option (Bool))>>=fun o1 =>
 some o1
theorem Q8y:∀ (p0:Int) (o:Bool),Qpw p0=some o→PCall Tryz.prog 95 [nV .u8 p0] (Qs6 o):=by
 intro p0 o h;unfold Qpw at h;refine PCall.ofB mixed tbOk Q8k Tryz.func95 rfl (by kernel_rfl) (Nat.le_of_ble_eq_true rfl) ?_;refine Qaj h (fun o1 ho hk=>?_);refine Exists.intro (JP1 _ _ o1 .normal (Q15 )) (And.intro ?_ (Qa4 ?_))
 ·have h:=ho;refine Qac h (fun hb h=>?_) (fun hb h=>?_)
  ·refine Qac h (fun hb h=>?_) (fun hb h=>?_)
   ·refine bT ?_;refine JP1.a h ?_;exact Le.tz 0 0 rfl rfl rfl
   ·refine Qan [nV .u8 p0] Qqm h (fun x2 hy=>(Qzg p0 x2 hy)) (fun x2 hy h=>?_);refine Qac h (fun hb h=>?_) (fun hb h=>?_)
    ·refine JP1.a h ?_;exact Le.tz 0 0 rfl rfl rfl
    ·refine JP1.a h ?_;exact Le.tz 0 0 rfl rfl rfl
  ·refine bF ?_;refine Qan [nV .u8 p0] Qqm h (fun x3 hy=>(Qzg p0 x3 hy)) (fun x3 hy h=>?_);refine Qac h (fun hb h=>?_) (fun hb h=>?_)
   ·refine JP1.a h ?_;exact Le.tz 0 0 rfl rfl rfl
   ·refine JP1.a h ?_;exact Le.tz 0 0 rfl rfl rfl
 ·have h:=hk;refine Qas (t:=Qs6) h ?_;exact .refl _
def Qii (p0:(List UInt8)) (v6:Int):Option (Unit⊕Unit) :=
 if(decide (v6<(p0.length:Int))) then
  idx p0 v6>>=fun x4 =>
  Qpw (x4.toNat:Int)>>=fun x5 =>
  if(!x5) then
   some (.inr ())
  else
   Qii p0 (wr (v6+1))
 else
  some (.inl ())
 partial_fixpoint
theorem Qakk:∀ (p0:(List UInt8)),(∀ (v6:Int) (o1:Unit⊕Unit),Qii p0 v6=some o1→TL (0,0) Tryz.prog 27 Q8i (JP2 (0,0) 27 o1 (.exit 0) (Qvl p0) .ret (Qvm p0)) (Qow p0 v6)):=by
 intro p0;refine Qii.partial_correctness p0 _ ?_;intro Qii' iQii v6 o1 h;refine TL.round (Qar mixed tbOk (lv:=Q14) _ _ _ ?_);refine Qac h (fun hb h=>?_) (fun hb h=>?_)
 ·refine Qde h (fun x4 hi h=>?_);refine Qan [nV .u8 (x4.toNat:Int)] Qs6 h (fun x5 hy=>(Q8y (x4.toNat:Int) x5 hy)) (fun x5 hy h=>?_);refine Qac h (fun hb h=>?_) (fun hb h=>?_)
  ·exact JP2.b h (Le.tz 0 0 rfl rfl rfl)
  ·refine TL.le (τ := Qow p0 (wr (v6+1))) ?_ ((iQii (wr (v6+1)) _ h));exact Le.tz 0 0 rfl rfl rfl
 ·exact JP2.a h (Le.tz 0 0 rfl rfl rfl)
def Qqr (p0:(List UInt8)):Option (Bool) :=
 (Qii p0 0)>>=fun o1 =>
 match o1 with
 | .inl y2 =>
  ( if(!(p0==[])) then
    if(decide ((p0.length:Int)≤32)) then
     idx p0 0>>=fun x7 =>
     some (decide ((x7.toNat:Int) ≥ 97))
    else
     some false
   else
    some false:Option (Bool))>>=fun o6 =>
  some o6
 | .inr y3 =>
  some false
theorem Qv8:∀ (p0:(List UInt8)) (o:Bool),Qqr p0=some o→PCall Tryz.prog 69 [sV p0] (Qmp o):=by
 intro p0 o h;unfold Qqr at h;refine PCall.ofB mixed tbOk Q14 Tryz.func69 rfl (by kernel_rfl) (Nat.le_of_ble_eq_true rfl) ?_;refine vrfl ?_;refine Qaj h (fun o1 ho hk=>?_);refine Exists.intro (JP2 _ _ o1 (.exit 0) (Qvl p0) .ret (Qvm p0)) (And.intro (Qhe (τ := Qow p0 0) ?_ (TL.loop (Qakk p0 0 o1 ho))) (Qfg (fun y2 hy=>?_) (fun y3 hy=>?_)))
 ·exact Le.tz 0 0 rfl rfl rfl
 ·have h:=(by rw[hy] at hk; exact hk);refine Qaj h (fun o6 ho hk=>?_);refine Exists.intro (JP1 _ _ o6 .normal (Q8j )) (And.intro ?_ (Qa4 ?_))
  ·have h:=ho;refine Qac h (fun hb h=>?_) (fun hb h=>?_)
   ·refine vrfl ?_;refine Qac h (fun hb h=>?_) (fun hb h=>?_)
    ·refine Qde h (fun x7 hi h=>?_);refine JP1.a h ?_;exact Le.tz 0 0 rfl rfl rfl
    ·refine JP1.a h ?_;exact Le.tz 0 0 rfl rfl rfl
   ·refine bF ?_;refine JP1.a h ?_;exact Le.tz 0 0 rfl rfl rfl
  ·have h:=hk;refine Qas (t:=Qmp) h ?_;exact .refl _
 ·have h:=(by rw[hy] at hk; exact hk);refine Qas (t:=Qmp) h ?_;exact .refl _
def Qjg (p0:(List UInt8)):Option (Bool) :=
 ( if(p0==[105,102]) then
   some (p0==[105,102])
  else
   if(p0==[101,108,115,101]) then
    some (p0==[101,108,115,101])
   else
    if(p0==[101,110,100]) then
     some (p0==[101,110,100])
    else
     if(p0==[101,97,99,104]) then
      some (p0==[101,97,99,104])
     else
      if(p0==[105,110]) then
       some (p0==[105,110])
      else
       if(p0==[108,101,116]) then
        some (p0==[108,101,116])
       else
        if(p0==[117,115,101]) then
         some (p0==[117,115,101])
        else
         if(p0==[116,114,117,101]) then
          some (p0==[116,114,117,101])
         else
          if(p0==[102,97,108,115,101]) then
           some (p0==[102,97,108,115,101])
          else
           some (p0==[115,101,99,114,101,116]):Option (Bool))>>=fun o1 =>
 if o1 then
  some false
 else
  Qqr p0>>=fun x2 =>
  some x2
theorem Qli:∀ (p0:(List UInt8)) (o:Bool),Qjg p0=some o→PCall Tryz.prog 37 [sV p0] (Qgo o):=by
 intro p0 o h;unfold Qjg at h;refine PCall.ofB mixed tbOk Qabv Tryz.func37 rfl (by kernel_rfl) (Nat.le_of_ble_eq_true rfl) ?_;refine Qaj h (fun o1 ho hk=>?_);refine Exists.intro (JP1 _ _ o1 .normal (Q38 p0)) (And.intro ?_ (Qa4 ?_))
 ·have h:=ho;refine Qac h (fun hb h=>?_) (fun hb h=>?_)
  ·refine JP1.a h ?_;exact Le.tz 0 0 rfl rfl rfl
  ·refine Qac h (fun hb h=>?_) (fun hb h=>?_)
   ·refine JP1.a h ?_;exact Le.tz 0 0 rfl rfl rfl
   ·refine Qac h (fun hb h=>?_) (fun hb h=>?_)
    ·refine JP1.a h ?_;exact Le.tz 0 0 rfl rfl rfl
    ·refine Qac h (fun hb h=>?_) (fun hb h=>?_)
     ·refine JP1.a h ?_;exact Le.tz 0 0 rfl rfl rfl
     ·refine Qac h (fun hb h=>?_) (fun hb h=>?_)
      ·refine JP1.a h ?_;exact Le.tz 0 0 rfl rfl rfl
      ·refine Qac h (fun hb h=>?_) (fun hb h=>?_)
       ·refine JP1.a h ?_;exact Le.tz 0 0 rfl rfl rfl
       ·refine Qac h (fun hb h=>?_) (fun hb h=>?_)
        ·refine JP1.a h ?_;exact Le.tz 0 0 rfl rfl rfl
        ·refine Qac h (fun hb h=>?_) (fun hb h=>?_)
         ·refine JP1.a h ?_;exact Le.tz 0 0 rfl rfl rfl
         ·refine Qac h (fun hb h=>?_) (fun hb h=>?_)
          ·refine JP1.a h ?_;exact Le.tz 0 0 rfl rfl rfl
          ·refine JP1.a h ?_;exact Le.tz 0 0 rfl rfl rfl
 ·have h:=hk;refine Qac h (fun hb h=>?_) (fun hb h=>?_)
  ·refine Qas (t:=Qgo) h ?_;exact .refl _
  ·refine Qan [sV p0] Qmp h (fun x2 hy=>(Qv8 p0 x2 hy)) (fun x2 hy h=>?_);refine Qas (t:=Qgo) h ?_;exact .refl _
def Qdf (p0:(List UInt8)) (v4:(List Int)) (v18:Int):Option ((List Int)) :=
 if(decide (v18<(p0.length:Int))) then
  idx p0 v18>>=fun x5 =>
  if((x5.toNat:Int)==10) then
   appL 1 v4 (s2b [92,110])>>=fun x6 =>
   Qdf p0 x6 (wr (v18+1))
  else
   if((x5.toNat:Int)==9) then
    appL 1 v4 (s2b [92,116])>>=fun x7 =>
    Qdf p0 x7 (wr (v18+1))
   else
    ( if((x5.toNat:Int)==34) then
      some ((x5.toNat:Int)==34)
     else
      some ((x5.toNat:Int)==92):Option (Bool))>>=fun o8 =>
    if o8 then
     appL 1 v4 [92,(x5.toNat:Int)]>>=fun x9 =>
     Qdf p0 x9 (wr (v18+1))
    else
     appL 1 v4 [(x5.toNat:Int)]>>=fun x10 =>
     Qdf p0 x10 (wr (v18+1))
 else
  some v4
 partial_fixpoint
theorem Qaik:∀ (p0:(List UInt8)),(∀ (v4:(List Int)) (v18:Int) (o4:(List Int)),Qdf p0 v4 v18=some o4→TL (0,0) Tryz.prog 49 Q36 (JP1 (0,0) 49 o4 (.exit 0) (Qs5 p0)) (Qe2 p0 v4 v18)):=by
 intro p0;refine Qdf.partial_correctness p0 _ ?_;intro Qdf' iQdf v4 v18 o4 h;refine TL.round (Qar mixed tbOk (lv:=Qza) _ _ _ ?_);refine Qac h (fun hb h=>?_) (fun hb h=>?_)
 ·refine Qde h (fun x5 hi h=>?_);refine Qac h (fun hb h=>?_) (fun hb h=>?_)
  ·refine Qaf7 (a:=v4) (b:=[92,110]) h rfl (fun x6 hi h=>?_);refine TL.le (τ := Qe2 p0 x6 (wr (v18+1))) ?_ ((iQdf x6 (wr (v18+1)) _ h));exact Le.tz 0 1 rfl rfl rfl
  ·refine Qac h (fun hb h=>?_) (fun hb h=>?_)
   ·refine Qaf7 (a:=v4) (b:=[92,116]) h rfl (fun x7 hi h=>?_);refine TL.le (τ := Qe2 p0 x7 (wr (v18+1))) ?_ ((iQdf x7 (wr (v18+1)) _ h));exact Le.tz 0 1 rfl rfl rfl
   ·refine Qaj h (fun o8 ho hk=>?_);refine Exists.intro (JP1 _ _ o8 .normal (Q35 p0 v4 v18 x5)) (And.intro ?_ (Qa4 ?_))
    ·have h:=ho;refine Qac h (fun hb h=>?_) (fun hb h=>?_)
     ·refine JP1.a h ?_;exact Le.tz 0 1 rfl rfl rfl
     ·refine JP1.a h ?_;exact Le.tz 0 1 rfl rfl rfl
    ·have h:=hk;refine Qac h (fun hb h=>?_) (fun hb h=>?_)
     ·refine Qi4 (a:=v4) (b:=[92,(x5.toNat:Int)]) (c:=(cNum .u8)) h (.refl _) (fun _=>rfl) rfl (fun x9 hi h=>?_);refine TL.le (τ := Qe2 p0 x9 (wr (v18+1))) ?_ ((iQdf x9 (wr (v18+1)) _ h));exact Le.tz 0 1 rfl rfl rfl
     ·refine Qi4 (a:=v4) (b:=[(x5.toNat:Int)]) (c:=(cNum .u8)) h (.refl _) (fun _=>rfl) rfl (fun x10 hi h=>?_);refine TL.le (τ := Qe2 p0 x10 (wr (v18+1))) ?_ ((iQdf x10 (wr (v18+1)) _ h));exact Le.tz 0 1 rfl rfl rfl
 ·exact JP1.a h (Le.tz 0 1 rfl rfl rfl)
def Qcf (p0:(List UInt8)) (p1:Int):Option (Int) :=
 some (Lib.indexByte p0 p1.toNat.toUInt8)
theorem Qjh:∀ (p0:(List UInt8)) (p1:Int) (o:Int),Qcf p0 p1=some o→PCall Tryz.prog 174 [sV p0,nV .u8 p1] (Qew o):=by
 intro p0 p1 o h;unfold Qcf at h;cases h;exact Qabj _ _
def Qho (p0:(List UInt8)) (p1:Int):Option (Int) :=
 Qcf p0 p1>>=fun x1 =>
 some x1
theorem Quu:∀ (p0:(List UInt8)) (p1:Int) (o:Int),Qho p0 p1=some o→PCall Tryz.prog 169 [sV p0,nV .u8 p1] (Qif o):=by
 intro p0 p1 o h;unfold Qho at h;refine PCall.ofB mixed tbOk Qut Tryz.func169 rfl (by kernel_rfl) (Nat.le_of_ble_eq_true rfl) ?_;refine Qan [sV p0,nV .u8 p1] Qew h (fun x1 hy=>(Qjh p0 p1 x1 hy)) (fun x1 hy h=>?_);refine Qas (t:=Qif) h ?_;exact .refl _
def Qlj (x1:(List UInt8)) (l4:(List (Int×Int))):Option (Unit⊕Unit) :=
 match l4 with
 | [] =>
  some (.inl ())
 | x2::r3 =>
  ( if(x2.1==65533) then
    some (x2.2==1)
   else
    some false:Option (Bool))>>=fun o9 =>
  if o9 then
   some (.inr ())
  else
   Qlj x1 r3
 partial_fixpoint
theorem Qams:∀ (x1:(List UInt8)),(∀ (l4:(List (Int×Int))) (o6:Unit⊕Unit),Qlj x1 l4=some o6→RL 1 0 Tryz.prog 15 (rgP Qv3) (rgA Qv3) (rgB Qv3) (Qn5 x1).env (JP2 (0,0) 15 o6 .normal (Qzb x1) .ret (Qzc x1)) (l4.map Qkl) (Qn5 x1).s):=by
 intro x1;refine Qlj.partial_correctness x1 _ ?_;intro Qlj' iQlj l4 o6 h;cases l4 with
 | nil =>
  refine Qaf8 ?_;exact JP2.a h (Le.tz 1 0 rfl rfl rfl)
 | cons x2 r3 =>
  refine Q7h (Qar mixed tbOk (lv:=Q2c) _ _ _ ?_);refine And.intro rfl (Qar mixed tbOk (lv:=Q2c) _ _ _ ?_);refine Qaj h (fun o9 ho hk=>?_);refine Exists.intro (JP1 _ _ o9 .normal (Qaes x1 x2)) (And.intro ?_ (Qa4 ?_))
  ·have h:=ho;refine Qac h (fun hb h=>?_) (fun hb h=>?_)
   ·refine JP1.a h ?_;exact Le.tz 1 0 rfl rfl rfl
   ·refine JP1.a h ?_;exact Le.tz 1 0 rfl rfl rfl
  ·have h:=hk;refine Qac h (fun hb h=>?_) (fun hb h=>?_)
   ·exact Exists.intro (⟨[[.p (bV false)]],[]⟩:S) (And.intro (Le.tow 1 0 rfl .nil (.refl _) rfl) (And.intro rfl (And.intro rfl (JP2.b h (Le.tz 1 0 rfl rfl rfl)))))
   ·exact Exists.intro (Qn5 x1 ).s (And.intro (Le.tz 1 0 rfl rfl rfl) (And.intro rfl (And.intro rfl ((iQlj r3 _ h)))))
def Q8z (p0:(List UInt8)):Option ((List UInt8)) :=
 some p0
theorem Qahx:∀ (p0:(List UInt8)) (o:(List UInt8)),Q8z p0=some o→PCall Tryz.prog 178 [sV p0] (Q2d o):=by
 intro p0 o h;unfold Q8z at h;refine PCall.ofM mixed tbOk Qahs Tryz.func178 rfl (by kernel_rfl) (Nat.le_of_ble_eq_true rfl) ?_;refine Qas (t:=Q2d) h ?_;exact .refl _
def Q6a (p0:Int):Option (Bool) :=
 ( if(decide (p0 ≥ 0)) then
   if(decide (p0≤1114111)) then
    if(decide (p0<55296)) then
     some true
    else
     some (decide (p0>57343))
   else
    some false
  else
   some false:Option (Bool))>>=fun o1 =>
 some o1
theorem Qakl:∀ (p0:Int) (o:Bool),Q6a p0=some o→PCall Tryz.prog 188 [nV .i32 p0] (Q8s o):=by
 intro p0 o h;unfold Q6a at h;refine PCall.ofB mixed tbOk Qaka Tryz.func188 rfl (by kernel_rfl) (Nat.le_of_ble_eq_true rfl) ?_;refine Qaj h (fun o1 ho hk=>?_);refine Exists.intro (JP1 _ _ o1 .normal (Qaeu )) (And.intro ?_ (Qa4 ?_))
 ·have h:=ho;refine Qac h (fun hb h=>?_) (fun hb h=>?_)
  ·refine Qac h (fun hb h=>?_) (fun hb h=>?_)
   ·refine Qac h (fun hb h=>?_) (fun hb h=>?_)
    ·refine JP1.a h ?_;exact Le.tz 0 0 rfl rfl rfl
    ·refine JP1.a h ?_;exact Le.tz 0 0 rfl rfl rfl
   ·refine JP1.a h ?_;exact Le.tz 0 0 rfl rfl rfl
  ·refine bF ?_;refine JP1.a h ?_;exact Le.tz 0 0 rfl rfl rfl
 ·have h:=hk;refine Qas (t:=Q8s) h ?_;exact .refl _
def Qij (p0:(List UInt8)) (p2:Int) (v1:Int) (v14:Int):Option (Int⊕Unit) :=
 if(decide (v14<p2)) then
  idx p0 v14>>=fun x4 =>
  if((bits .and .u8 (x4.toNat:Int) 192) != 128) then
   some (.inr ())
  else
   idx p0 v14>>=fun x5 =>
   Qij p0 p2 (bits .or .i32 (IntKind.i32.wrap (v1*2 ^ (min (6:Int).toNat (IntKind.i32.bits)))) (IntKind.i32.wrap (bits .and .u8 (x5.toNat:Int) 63))) (wr (v14+1))
 else
  some (.inl v1)
 partial_fixpoint
theorem Qakm:∀ (p0:(List UInt8)) (p2:Int),(∀ (v1:Int) (v14:Int) (o1:Int⊕Unit),Qij p0 p2 v1 v14=some o1→TL (0,0) Tryz.prog 32 Q8t (JP2 (0,0) 32 o1 (.exit 0) (Qvn p0 p2) .ret (Qvo p0 p2)) (Qoy p0 p2 v1 v14)):=by
 intro p0 p2;refine Qij.partial_correctness p0 p2 _ ?_;intro Qij' iQij v1 v14 o1 h;refine TL.round (Qar mixed tbOk (lv:=Q2e) _ _ _ ?_);refine Qac h (fun hb h=>?_) (fun hb h=>?_)
 ·refine Qde h (fun x4 hi h=>?_);refine Qac h (fun hb h=>?_) (fun hb h=>?_)
  ·exact JP2.b h (Le.tz 0 0 rfl rfl rfl)
  ·refine And.intro (by decide) ?_;refine Qde h (fun x5 hi h=>?_);refine vrfl ?_;refine TL.le (τ := Qoy p0 p2 (bits .or .i32 (IntKind.i32.wrap (v1*2 ^ (min (6:Int).toNat (IntKind.i32.bits)))) (IntKind.i32.wrap (bits .and .u8 (x5.toNat:Int) 63))) (wr (v14+1))) ?_ ((iQij (bits .or .i32 (IntKind.i32.wrap (v1*2 ^ (min (6:Int).toNat (IntKind.i32.bits)))) (IntKind.i32.wrap (bits .and .u8 (x5.toNat:Int) 63))) (wr (v14+1)) _ h));exact Le.tz 0 0 rfl rfl rfl
 ·exact JP2.a h (Le.tz 0 0 rfl rfl rfl)
def Quf (p0:(List UInt8)) (p1:Int) (p2:Int):Option (Int×Bool) :=
 if(decide ((p0.length:Int)<p2)) then
  some (0,false)
 else
  (Qij p0 p2 p1 0)>>=fun o1 =>
  match o1 with
  | .inl y2 =>
   some (y2,true)
  | .inr y3 =>
   some (0,false)
theorem Qaev:∀ (p0:(List UInt8)) (p1:Int) (p2:Int) (o:Int×Bool),Quf p0 p1 p2=some o→PCall Tryz.prog 187 [sV p0,nV .i32 p1,iV p2] (Qpr o):=by
 intro p0 p1 p2 o h;unfold Quf at h;refine PCall.ofB mixed tbOk Q2e Tryz.func187 rfl (by kernel_rfl) (Nat.le_of_ble_eq_true rfl) ?_;refine vrfl ?_;refine Qac h (fun hb h=>?_) (fun hb h=>?_)
 ·refine Qas (t:=Qpr) h ?_;exact .refl _
 ·refine Qaj h (fun o1 ho hk=>?_);refine Exists.intro (JP2 _ _ o1 (.exit 0) (Qvn p0 p2) .ret (Qvo p0 p2)) (And.intro (Qhe (τ := Qoy p0 p2 p1 0) ?_ (TL.loop (Qakm p0 p2 p1 0 o1 ho))) (Qfg (fun y2 hy=>?_) (fun y3 hy=>?_)))
  ·exact Le.tz 0 0 rfl rfl rfl
  ·have h:=(by rw[hy] at hk; exact hk);refine Qas (t:=Qpr) h ?_;exact .refl _
  ·have h:=(by rw[hy] at hk; exact hk);refine Qas (t:=Qpr) h ?_;exact .refl _
def Qxb (p0:(List UInt8)) (p1:Int):Option (Int×Int) :=
 ( if(decide (p1<0)) then
   some true
  else
   some (decide (p1 ≥ (p0.length:Int))):Option (Bool))>>=fun o1 =>
 if o1 then
  some (0,0)
 else
  idx p0 p1>>=fun x2 =>
  ( if(decide ((x2.toNat:Int)<128)) then
    some (.inr (IntKind.i32.wrap (x2.toNat:Int)))
   else
    ( if(decide ((x2.toNat:Int) ≥ 192)) then
      some (decide ((x2.toNat:Int)<224))
     else
      some false:Option (Bool))>>=fun o6 =>
    if o6 then
     some (.inl ((IntKind.i32.wrap (bits .and .u8 (x2.toNat:Int) 31)),128,1))
    else
     ( if(decide ((x2.toNat:Int) ≥ 224)) then
       some (decide ((x2.toNat:Int)<240))
      else
       some false:Option (Bool))>>=fun o7 =>
     if o7 then
      some (.inl ((IntKind.i32.wrap (bits .and .u8 (x2.toNat:Int) 15)),2048,2))
     else
      ( if(decide ((x2.toNat:Int) ≥ 240)) then
        some (decide ((x2.toNat:Int)<248))
       else
        some false:Option (Bool))>>=fun o8 =>
      if o8 then
       some (.inl ((IntKind.i32.wrap (bits .and .u8 (x2.toNat:Int) 7)),65536,3))
      else
       some (.inr 65533):Option ((Int×Int×Int)⊕Int))>>=fun o3 =>
  match o3 with
  | .inl y4 =>
   cutL p0 (wr (p1+1)) (p0.length:Int)>>=fun x9 =>
   Quf x9 y4.1 y4.2.2>>=fun x10 =>
   ( if(!x10.2) then
     some true
    else
     if(decide (x10.1<y4.2.1)) then
      some true
     else
      Q6a x10.1>>=fun x12 =>
      some (!x12):Option (Bool))>>=fun o11 =>
   if o11 then
    some (65533,1)
   else
    some (x10.1,(wr (y4.2.2+1)))
  | .inr y5 =>
   some (y5,1)
theorem Qaew:∀ (p0:(List UInt8)) (p1:Int) (o:Int×Int),Qxb p0 p1=some o→PCall Tryz.prog 186 [sV p0,iV p1] (Qmq o):=by
 intro p0 p1 o h;unfold Qxb at h;refine PCall.ofB mixed tbOk Qaet Tryz.func186 rfl (by kernel_rfl) (Nat.le_of_ble_eq_true rfl) ?_;refine Qaj h (fun o1 ho hk=>?_);refine Exists.intro (JP1 _ _ o1 .normal (Q8l p0 p1)) (And.intro ?_ (Qa4 ?_))
 ·have h:=ho;refine Qac h (fun hb h=>?_) (fun hb h=>?_)
  ·refine JP1.a h ?_;exact Le.tz 0 0 rfl rfl rfl
  ·refine vrfl ?_;refine JP1.a h ?_;exact Le.tz 0 0 rfl rfl rfl
 ·have h:=hk;refine Qac h (fun hb h=>?_) (fun hb h=>?_)
  ·refine Qas (t:=Qmq) h ?_;exact .refl _
  ·refine Qde h (fun x2 hi h=>?_);refine Qaj h (fun o3 ho hk=>?_);refine Exists.intro (JP2 _ _ o3 .normal (Q8m p0 p1) .ret (Q8n p0 p1)) (And.intro ?_ (Qfg (fun y4 hy=>?_) (fun y5 hy=>?_)))
   ·have h:=ho;refine Qac h (fun hb h=>?_) (fun hb h=>?_)
    ·refine vrfl ?_;refine JP2.b h ?_;exact Le.tz 0 0 rfl rfl rfl
    ·refine Qaj h (fun o6 ho hk=>?_);refine Exists.intro (JP1 _ _ o6 .normal (Q8o p0 p1 x2)) (And.intro ?_ (Qa4 ?_))
     ·have h:=ho;refine Qac h (fun hb h=>?_) (fun hb h=>?_)
      ·refine JP1.a h ?_;exact Le.tz 0 0 rfl rfl rfl
      ·refine JP1.a h ?_;exact Le.tz 0 0 rfl rfl rfl
     ·have h:=hk;refine Qac h (fun hb h=>?_) (fun hb h=>?_)
      ·refine vrfl ?_;refine JP2.a h ?_;exact Le.tz 0 0 rfl rfl rfl
      ·refine Qaj h (fun o7 ho hk=>?_);refine Exists.intro (JP1 _ _ o7 .normal (Q8p p0 p1 x2)) (And.intro ?_ (Qa4 ?_))
       ·have h:=ho;refine Qac h (fun hb h=>?_) (fun hb h=>?_)
        ·refine JP1.a h ?_;exact Le.tz 0 0 rfl rfl rfl
        ·refine JP1.a h ?_;exact Le.tz 0 0 rfl rfl rfl
       ·have h:=hk;refine Qac h (fun hb h=>?_) (fun hb h=>?_)
        ·refine vrfl ?_;refine JP2.a h ?_;exact Le.tz 0 0 rfl rfl rfl
        ·refine Qaj h (fun o8 ho hk=>?_);refine Exists.intro (JP1 _ _ o8 .normal (Q8q p0 p1 x2)) (And.intro ?_ (Qa4 ?_))
         ·have h:=ho;refine Qac h (fun hb h=>?_) (fun hb h=>?_)
          ·refine JP1.a h ?_;exact Le.tz 0 0 rfl rfl rfl
          ·refine JP1.a h ?_;exact Le.tz 0 0 rfl rfl rfl
         ·have h:=hk;refine Qac h (fun hb h=>?_) (fun hb h=>?_)
          ·refine vrfl ?_;refine JP2.a h ?_;exact Le.tz 0 0 rfl rfl rfl
          ·refine JP2.b h ?_;exact Le.tz 0 0 rfl rfl rfl
   ·have h:=(by rw[hy] at hk; exact hk);refine Qi3 (some (wr (p1+1))) none h (fun x9 hi h=>?_);refine Qan [sV x9,nV .i32 y4.1,iV y4.2.2] Qpr h (fun x10 hy=>(Qaev x9 y4.1 y4.2.2 x10 hy)) (fun x10 hy h=>?_);refine Qaj h (fun o11 ho hk=>?_);refine Exists.intro (JP1 _ _ o11 .normal (Q8r y4 x10)) (And.intro ?_ (Qa4 ?_))
    ·have h:=ho;refine Qac h (fun hb h=>?_) (fun hb h=>?_)
     ·refine bT ?_;refine JP1.a h ?_;exact Le.tz 0 0 rfl rfl rfl
     ·refine Qac h (fun hb h=>?_) (fun hb h=>?_)
      ·refine JP1.a h ?_;exact Le.tz 0 0 rfl rfl rfl
      ·refine Qan [nV .i32 x10.1] Q8s h (fun x12 hy=>(Qakl x10.1 x12 hy)) (fun x12 hy h=>?_);refine JP1.a h ?_;exact Le.tz 0 0 rfl rfl rfl
    ·have h:=hk;refine Qac h (fun hb h=>?_) (fun hb h=>?_)
     ·refine Qas (t:=Qmq) h ?_;exact .refl _
     ·refine Qas (t:=Qmq) h ?_;exact .refl _
   ·have h:=(by rw[hy] at hk; exact hk);refine Qas (t:=Qmq) h ?_;exact .refl _
def Qfd (p0:(List UInt8)) (v3:Int):Option ((List (Int×Int))×(Unit)) :=
 if(decide (v3<(p0.length:Int))) then
  Qxb p0 v3>>=fun x3 =>
  ( Qfd p0 (wr (v3+x3.2)))>>=fun q=>some ((x3.1,x3.2)::q.1,q.2)
 else
  some ([],())
 partial_fixpoint
theorem Qail:∀ (p0:(List UInt8)),(∀ (v3:Int) (o2:(List (Int×Int))×(Unit)),Qfd p0 v3=some o2→∀ (gxs gp gpost gq1:List (List V)),gxs=gp++(o2.1.map Qkl++gpost)→gxs=gq1++gpost→TL (0,1) Tryz.prog 24 Q4m (Qs (0,1) 24 gxs (JP1 (0,1) 24 o2.2 (.exit 0) (Qta p0 gxs gq1))) (Qng p0 v3 gxs gp)):=by
 intro p0;refine Qfd.partial_correctness p0 _ ?_;intro Qfd' iQfd v3 o2 h;intro gxs gp gpost gq1 hx hq;refine TL.round (Qar mixed tbOk (lv:=Qzd) _ _ _ ?_);refine vrfl ?_;refine Qac h (fun hb h=>?_) (fun hb h=>?_)
 ·refine Qan [sV p0,iV v3] Qmq h (fun x3 hy=>(Qaew p0 v3 x3 hy)) (fun x3 hy h=>?_);refine Qajy (c:=Qkl) h hx (.refl _) (by exact rfl) (by exact rfl) (fun _ h hx=>?_) ?_
  ·refine bF ?_;refine TL.le (τ := Qng p0 (wr (v3+x3.2)) gxs (gp++[Qkl (x3.1,x3.2)])) ?_ ((iQfd (wr (v3+x3.2)) _ h) _ _ _ _ hx hq);exact Le.tz 0 1 rfl rfl rfl
  ·refine bT ?_;exact .inr ⟨rfl,_,(Le.env0 _).trans (Le.tow 0 1 rfl .nil (.refl _) rfl),rfl,rfl,rfl⟩
 ·exact .inl (JP1.a (sndI h) (Le.tz 0 1 rfl rfl (Qamj h hx hq rfl)))
def Qxc (p0:(List UInt8)):Option ((List (Int×Int))×Unit) :=
 ( Qfd p0 0)>>=fun o2=>(
  some ([],()))>>=fun q=>some (o2.1++q.1,q.2)
theorem Qacb:∀ (p0:(List UInt8)) (o:(List (Int×Int))×Unit),Qxc p0=some o→∀ gxs:List (List V),gxs=o.1.map Qkl→IterOK Tryz.prog 185 [.ep [sV p0]] gxs:=by
 intro p0 o h;unfold Qxc at h;intro gxs hg;have hx:gxs=[]++(o.1.map Qkl++[]):=by simp[hg]
 refine IterOK.ofB mixed tbOk Qzd Tryz.func185 rfl (by kernel_rfl) (Nat.le_of_ble_eq_true rfl) rfl ?_;refine Q0s h hx (fun o2 lgq1 gq1 ho hk hxa hjgq1=>?_);refine Exists.intro (Qs _ _ gxs (JP1 _ _ o2.2 (.exit 0) (Qta p0 gxs gq1))) (And.intro (Qhe (τ := Qng p0 0 gxs ([]:List (List V))) ?_ (TL.loop ((Qail p0 0 o2 ho) _ _ _ _ hxa hjgq1))) (Qamk (Qa4 ?_) ?_))
 ·exact Le.tz 0 1 rfl rfl rfl
 ·have h:=hk;have hx:=hjgq1;exact Qajx h hx (.inl rfl) rfl
 ·exact fun s1 h1 h2 hs=>Qaf9 (.inr rfl) hs
def Qacc (p0:(List UInt8)):Option (Bool) :=
 Q8z p0>>=fun x1 =>
 Qxc x1>>=fun y5 =>
 (Qlj x1 y5.1)>>=fun o6 =>
 match o6 with
 | .inl y7 =>
  some true
 | .inr y8 =>
  some false
theorem Qakn:∀ (p0:(List UInt8)) (o:Bool),Qacc p0=some o→PCall Tryz.prog 168 [sV p0] (Q0v o):=by
 intro p0 o h;unfold Qacc at h;refine PCall.ofB mixed tbOk Q2c Tryz.func168 rfl (by kernel_rfl) (Nat.le_of_ble_eq_true rfl) ?_;refine Qan [sV p0] Q2d h (fun x1 hy=>(Qahx p0 x1 hy)) (fun x1 hy h=>?_);refine Qaj h (fun y5 hy5 h=>?_);refine Qaj h (fun o6 ho hk=>?_);refine Exists.intro (JP2 _ _ o6 .normal (Qzb x1) .ret (Qzc x1)) (And.intro (Qhe (τ := Qn5 x1) ?_ (Q7b (g:=185) (cap:=[.ep [sV x1]]) rfl ((Qacb x1 y5 hy5) _ rfl) (Q1q fun _=>rfl) rfl (Nat.le_of_ble_eq_true rfl) (Nat.le_of_ble_eq_true rfl) (Qams x1 y5.1 o6 ho))) (Qfg (fun y7 hy=>?_) (fun y8 hy=>?_)))
 ·exact Le.tz 1 0 rfl rfl rfl
 ·have h:=(by rw[hy] at hk; exact hk);refine Qas (t:=Q0v) h ?_;exact .refl _
 ·have h:=(by rw[hy] at hk; exact hk);refine Qas (t:=Q0v) h ?_;exact .refl _
def Qlk (p0:(List UInt8)):Option ((List UInt8)×Bool) :=
 ( Qacc p0>>=fun x2 =>
  if(!x2) then
   some true
  else
   Qho p0 13>>=fun x3 =>
   some (decide (x3 ≥ 0)):Option (Bool))>>=fun o1 =>
 if o1 then
  some ([],false)
 else
  (Qdf p0 [34] 0)>>=fun o4 =>
  appL 1 o4 [34]>>=fun x11 =>
  b2s x11>>=fun x12 =>
  some (x12,true)
theorem Qacd:∀ (p0:(List UInt8)) (o:(List UInt8)×Bool),Qlk p0=some o→PCall Tryz.prog 154 [sV p0] (Qql o):=by
 intro p0 o h;unfold Qlk at h;refine PCall.ofB mixed tbOk Qza Tryz.func154 rfl (by kernel_rfl) (Nat.le_of_ble_eq_true rfl) ?_;refine Qaj h (fun o1 ho hk=>?_);refine Exists.intro (JP1 _ _ o1 .normal (Q34 p0)) (And.intro ?_ (Qa4 ?_))
 ·have h:=ho;refine Qan [sV p0] Q0v h (fun x2 hy=>(Qakn p0 x2 hy)) (fun x2 hy h=>?_);refine Qac h (fun hb h=>?_) (fun hb h=>?_)
  ·refine JP1.a h ?_;exact Le.tz 0 0 rfl rfl rfl
  ·refine Qan [sV p0,nV .u8 13] Qif h (fun x3 hy=>(Quu p0 13 x3 hy)) (fun x3 hy h=>?_);refine JP1.a h ?_;exact Le.tz 0 0 rfl rfl rfl
 ·have h:=hk;refine Qac h (fun hb h=>?_) (fun hb h=>?_)
  ·refine Qas (t:=Qql) h ?_;exact .refl _
  ·refine vrfl ?_;refine Qaj h (fun o4 ho hk=>?_);refine Exists.intro (JP1 _ _ o4 (.exit 0) (Qs5 p0)) (And.intro (Qhe (τ := Qe2 p0 [34] 0) ?_ (TL.loop (Qaik p0 [34] 0 o4 ho))) (Qa4 ?_))
   ·exact Le.trans (τ := ⟨[(0,.p (sV p0)),(4,.p (.sl true ([34].map (cNum .u8)))),(17,.p (iV (p0.length:Int))),(18,.p (iV 0))],⟨[],[]⟩⟩) (Le.tz 0 0 rfl rfl rfl) ((Le.ownW 4 5 1 rfl (Q1q fun _=>rfl)).trans (Le.tz 0 1 rfl rfl rfl))
   have h:=hk;refine Qi4 (a:=o4) (b:=[34]) (c:=(cNum .u8)) h (.refl _) (fun _=>rfl) rfl (fun x11 hi h=>?_);refine Qabh (l:=x11) h (fun x12 hi h=>?_);refine Qas (t:=Qql) h ?_;exact .refl _
def Qix (p0:Qab):Option (Qdo) :=
 some (Qdo.mk (!(p0.Name==[])) (!(p0.Text==[])) (p0.N != 0) (decide ((p0.Then.length:Int)>0)) (decide ((p0.Else.length:Int)>0)) (p0.L.length:Int))
theorem Qte:∀ (p0:Qab) (o:Qdo),Qix p0=some o→PCall Tryz.prog 126 [.agg [iV p0.Kind,sV p0.Name,sV p0.Text,iV p0.N,.sl false (p0.L.map Qaa),.sl false (p0.Then.map Qaa),.sl false (p0.Else.map Qaa)]] (Qk6 o):=by
 intro p0 o h;unfold Qix at h;refine PCall.ofB mixed tbOk Q2b Tryz.func126 rfl (by kernel_rfl) (Nat.le_of_ble_eq_true rfl) ?_;refine view (Qaw _ _) rfl ?_;refine view (Qaw _ _) rfl ?_;refine view (Qaw _ _) rfl ?_;refine Qas (t:=Qk6) h ?_;exact .refl _
mutual
def Qa9 (p0:(List Qab)):Option (Bool) :=
 Qbm p0>>=fun x1 =>
 some (decide (x1 ≥ 0))
 partial_fixpoint
def Qbm (p0:(List Qab)):Option (Int) :=
 (Qay p0 0)>>=fun o1 =>
 match o1 with
 | .inl y2 =>
  some (-1)
 | .inr y3 =>
  some y3
 partial_fixpoint
def Qay (p0:(List Qab)) (v8:Int):Option (Unit⊕Int) :=
 if(decide (v8<(p0.length:Int))) then
  idx p0 v8>>=fun x4 =>
  Qv9 x4>>=fun x5 =>
  if x5 then
   some (.inr v8)
  else
   Qay p0 (wr (v8+1))
 else
  some (.inl ())
 partial_fixpoint
def Qv9 (p0:Qab):Option (Bool) :=
 Qf3 p0>>=fun x1 =>
 some (!x1)
 partial_fixpoint
def Qf3 (p0:Qab):Option (Bool) :=
 Qix p0>>=fun x1 =>
 if(p0.Kind==1) then
  Qlk p0.Text>>=fun x2 =>
  ( if x2.2 then
    some ((x1.name_==false)&&((x1.text_==x1.text_)&&((x1.num_==false)&&((x1.then_==false)&&((x1.other_==false)&&((x1.l_==0)&&true))))))
   else
    some false:Option (Bool))>>=fun o3 =>
  some o3
 else
  if(p0.Kind==2) then
   some ((x1.name_==false)&&((x1.text_==false)&&((x1.num_==x1.num_)&&((x1.then_==false)&&((x1.other_==false)&&((x1.l_==0)&&true))))))
  else
   if(p0.Kind==3) then
    ( if((bits .andNot .i64 p0.N 1)==0) then
      some ((x1.name_==false)&&((x1.text_==false)&&((x1.num_==x1.num_)&&((x1.then_==false)&&((x1.other_==false)&&((x1.l_==0)&&true))))))
     else
      some false:Option (Bool))>>=fun o4 =>
    some o4
   else
    if(p0.Kind==4) then
     ( Qjg p0.Name>>=fun x6 =>
      if x6 then
       some ((x1.name_==true)&&((x1.text_==false)&&((x1.num_==false)&&((x1.then_==false)&&((x1.other_==false)&&((x1.l_==0)&&true))))))
      else
       some false:Option (Bool))>>=fun o5 =>
     some o5
    else
     if(p0.Kind==7) then
      ( Qqr p0.Name>>=fun x8 =>
       if x8 then
        some ((x1.name_==true)&&((x1.text_==false)&&((x1.num_==false)&&((x1.then_==false)&&((x1.other_==false)&&((x1.l_==0)&&true))))))
       else
        some false:Option (Bool))>>=fun o7 =>
      some o7
     else
      if(p0.Kind==5) then
       ( Qqr p0.Name>>=fun x10 =>
        if x10 then
         if((x1.name_==true)&&((x1.text_==false)&&((x1.num_==false)&&((x1.then_==false)&&((x1.other_==false)&&((x1.l_==1)&&true)))))) then
          idx p0.L 0>>=fun x11 =>
          Qf3 x11>>=fun x12 =>
          some x12
         else
          some false
        else
         some false:Option (Bool))>>=fun o9 =>
       some o9
      else
       if(p0.Kind==6) then
        ( Qjg p0.Name>>=fun x14 =>
         if x14 then
          if((x1.name_==true)&&((x1.text_==false)&&((x1.num_==false)&&((x1.then_==false)&&((x1.other_==false)&&((x1.l_==(if 3<x1.l_ then 3 else x1.l_))&&true)))))) then
           Qa9 p0.L>>=fun x15 =>
           some (!x15)
          else
           some false
         else
          some false:Option (Bool))>>=fun o13 =>
        some o13
       else
        some false
 partial_fixpoint
end
theorem Qds:(∀ (p0:(List Qab)) (o:Bool),Qa9 p0=some o→CallOK Tryz.prog 56 [.p (.sl false (p0.map Qaa)),.fn (.func 155) [] []] ⟨[],[]⟩ (Qb3 o) ⟨[],[]⟩)∧(∀ (p0:(List Qab)) (o:Int),Qbm p0=some o→CallOK Tryz.prog 83 [.p (.sl false (p0.map Qaa)),.fn (.func 155) [] []] ⟨[],[]⟩ (Qbl o) ⟨[],[]⟩)∧(∀ (p0:(List Qab)) (v8:Int) (o1:Unit⊕Int),Qay p0 v8=some o1→TL (0,0) Tryz.prog 19 Qd2 (JP2 (0,0) 19 o1 (.exit 0) (Qb0 p0) .ret (Qb1 p0)) (Qbh p0 v8))∧(∀ (p0:Qab) (o:Bool),Qv9 p0=some o→PCall Tryz.prog 155 [.agg [iV p0.Kind,sV p0.Name,sV p0.Text,iV p0.N,.sl false (p0.L.map Qaa),.sl false (p0.Then.map Qaa),.sl false (p0.Else.map Qaa)]] (Qqo o))∧(∀ (p0:Qab) (o:Bool),Qf3 p0=some o→PCall Tryz.prog 128 [.agg [iV p0.Kind,sV p0.Name,sV p0.Text,iV p0.N,.sl false (p0.L.map Qaa),.sl false (p0.Then.map Qaa),.sl false (p0.Else.map Qaa)]] (Qc8 o)):=by
 refine Qa9.mutual_partial_correctness _ _ _ _ _ ?_ ?_ ?_ ?_ ?_
 ·intro Qbm' iQbm p0 o h;refine CallOK.ofB mixed tbOk Qdx Tryz.func56 rfl (by kernel_rfl) (Nat.le_of_ble_eq_true rfl) rfl rfl rfl ?_;refine Qaq _ _ h (fun x1 hy=>((iQbm p0 x1 hy).fr [] [] rfl rfl rfl)) (fun x1 hy h=>?_);refine Exists.intro _ (And.intro (Le.refl _ _ _) ?_);exact Qbb (t:=Qb3) (ss:=fun o=>⟨[],[]⟩) h ⟨[],rfl,.refl _,.refl _,rfl⟩
 ·intro Qay' iQay p0 o h;refine CallOK.ofB mixed tbOk Qca Tryz.func83 rfl (by kernel_rfl) (Nat.le_of_ble_eq_true rfl) rfl rfl rfl ?_;refine view (Qaw _ _) rfl ?_;refine Qaj h (fun o1 ho hk=>?_);refine Exists.intro (JP2 _ _ o1 (.exit 0) (Qb0 p0) .ret (Qb1 p0)) (And.intro (Qhe (τ := Qbh p0 0) ?_ (TL.loop (iQay p0 0 o1 ho))) (Qfg (fun y2 hy=>?_) (fun y3 hy=>?_)))
  ·exact Le.tz 0 0 rfl rfl rfl
  ·have h:=(by rw[hy] at hk; exact hk);refine Exists.intro _ (And.intro (Le.refl _ _ _) ?_);exact Qbb (t:=Qbl) (ss:=fun o=>⟨[],[]⟩) h ⟨[],rfl,.refl _,.refl _,rfl⟩
  ·have h:=(by rw[hy] at hk; exact hk);refine Exists.intro _ (And.intro (Le.refl _ _ _) ?_);exact Qbb (t:=Qbl) (ss:=fun o=>⟨[],[]⟩) h ⟨[],rfl,.refl _,.refl _,rfl⟩
 ·intro Qay' Qv9' iQay iQv9 p0 v8 o1 h;refine TL.round (Qar mixed tbOk (lv:=Qca) _ _ _ ?_);refine Qac h (fun hb h=>?_) (fun hb h=>?_)
  ·refine Qa8 (l:=p0) (c:=Qaa) (c' := Qa2) h Qao (fun _=>rfl) (by decide) (fun x4 hi h=>?_);refine Qan [.agg [iV x4.Kind,sV x4.Name,sV x4.Text,iV x4.N,.sl false (x4.L.map Qaa),.sl false (x4.Then.map Qaa),.sl false (x4.Else.map Qaa)]] Qqo h (fun x5 hy=>(iQv9 x4 x5 hy)) (fun x5 hy h=>?_);refine Qac h (fun hb h=>?_) (fun hb h=>?_)
   ·exact JP2.b h (Le.tz 0 0 rfl rfl rfl)
   ·refine TL.le (τ := Qbh p0 (wr (v8+1))) ?_ ((iQay p0 (wr (v8+1)) _ h));exact Le.tz 0 0 rfl rfl rfl
  ·exact JP2.a h (Le.tz 0 0 rfl rfl rfl)
 ·intro Qf3' iQf3 p0 o h;refine PCall.ofB mixed tbOk Q4f Tryz.func155 rfl (by kernel_rfl) (Nat.le_of_ble_eq_true rfl) ?_;refine Qan [.agg [iV p0.Kind,sV p0.Name,sV p0.Text,iV p0.N,.sl false (p0.L.map Qaa),.sl false (p0.Then.map Qaa),.sl false (p0.Else.map Qaa)]] Qc8 h (fun x1 hy=>(iQf3 p0 x1 hy)) (fun x1 hy h=>?_);refine Qas (t:=Qqo) h ?_;exact .refl _
 ·intro Qa9' Qf3' iQa9 iQf3 p0 o h;refine PCall.ofB mixed tbOk Qabw Tryz.func128 rfl (by kernel_rfl) (Nat.le_of_ble_eq_true rfl) ?_;refine Qan [.agg [iV p0.Kind,sV p0.Name,sV p0.Text,iV p0.N,.sl false (p0.L.map Qaa),.sl false (p0.Then.map Qaa),.sl false (p0.Else.map Qaa)]] Qk6 h (fun x1 hy=>(Qte p0 x1 hy)) (fun x1 hy h=>?_);refine Qac h (fun hb h=>?_) (fun hb h=>?_)
  ·refine Qan [sV p0.Text] Qql h (fun x2 hy=>(Qacd p0.Text x2 hy)) (fun x2 hy h=>?_);refine Qaj h (fun o3 ho hk=>?_);refine Exists.intro (JP1 _ _ o3 .normal (Q39 p0 x1)) (And.intro ?_ (Qa4 ?_))
   ·have h:=ho;refine Qac h (fun hb h=>?_) (fun hb h=>?_)
    ·refine And.intro rfl ?_;refine JP1.a h ?_;exact Le.tz 3 0 rfl rfl rfl
    ·refine JP1.a h ?_;exact Le.tz 3 0 rfl rfl rfl
   ·have h:=hk;refine Qas (t:=Qc8) h ?_;exact .refl _
  ·refine Qac h (fun hb h=>?_) (fun hb h=>?_)
   ·refine And.intro rfl ?_;refine Qas (t:=Qc8) h ?_;exact .refl _
   ·refine Qac h (fun hb h=>?_) (fun hb h=>?_)
    ·refine Qaj h (fun o4 ho hk=>?_);refine Exists.intro (JP1 _ _ o4 .normal (Q4a p0 x1)) (And.intro ?_ (Qa4 ?_))
     ·have h:=ho;refine Qac h (fun hb h=>?_) (fun hb h=>?_)
      ·refine And.intro rfl ?_;refine JP1.a h ?_;exact Le.tz 3 0 rfl rfl rfl
      ·refine JP1.a h ?_;exact Le.tz 3 0 rfl rfl rfl
     ·have h:=hk;refine Qas (t:=Qc8) h ?_;exact .refl _
    ·refine Qac h (fun hb h=>?_) (fun hb h=>?_)
     ·refine Qaj h (fun o5 ho hk=>?_);refine Exists.intro (JP1 _ _ o5 .normal (Q4b p0 x1)) (And.intro ?_ (Qa4 ?_))
      ·have h:=ho;refine Qan [sV p0.Name] Qgo h (fun x6 hy=>(Qli p0.Name x6 hy)) (fun x6 hy h=>?_);refine Qac h (fun hb h=>?_) (fun hb h=>?_)
       ·refine And.intro rfl ?_;refine JP1.a h ?_;exact Le.tz 3 0 rfl rfl rfl
       ·refine JP1.a h ?_;exact Le.tz 3 0 rfl rfl rfl
      ·have h:=hk;refine Qas (t:=Qc8) h ?_;exact .refl _
     ·refine Qac h (fun hb h=>?_) (fun hb h=>?_)
      ·refine Qaj h (fun o7 ho hk=>?_);refine Exists.intro (JP1 _ _ o7 .normal (Q4c p0 x1)) (And.intro ?_ (Qa4 ?_))
       ·have h:=ho;refine Qan [sV p0.Name] Qmp h (fun x8 hy=>(Qv8 p0.Name x8 hy)) (fun x8 hy h=>?_);refine Qac h (fun hb h=>?_) (fun hb h=>?_)
        ·refine And.intro rfl ?_;refine JP1.a h ?_;exact Le.tz 3 0 rfl rfl rfl
        ·refine JP1.a h ?_;exact Le.tz 3 0 rfl rfl rfl
       ·have h:=hk;refine Qas (t:=Qc8) h ?_;exact .refl _
      ·refine Qac h (fun hb h=>?_) (fun hb h=>?_)
       ·refine Qaj h (fun o9 ho hk=>?_);refine Exists.intro (JP1 _ _ o9 .normal (Q4d p0 x1)) (And.intro ?_ (Qa4 ?_))
        ·have h:=ho;refine Qan [sV p0.Name] Qmp h (fun x10 hy=>(Qv8 p0.Name x10 hy)) (fun x10 hy h=>?_);refine Qac h (fun hb h=>?_) (fun hb h=>?_)
         ·refine And.intro rfl ?_;refine Qac h (fun hb h=>?_) (fun hb h=>?_)
          ·refine Qa8 (l:=p0.L) (c:=Qaa) (c' := Qa2) h Qao (fun _=>rfl) (by decide) (fun x11 hi h=>?_);refine Qan [.agg [iV x11.Kind,sV x11.Name,sV x11.Text,iV x11.N,.sl false (x11.L.map Qaa),.sl false (x11.Then.map Qaa),.sl false (x11.Else.map Qaa)]] Qc8 h (fun x12 hy=>(iQf3 x11 x12 hy)) (fun x12 hy h=>?_);refine JP1.a h ?_;exact Le.tz 3 0 rfl rfl rfl
          ·refine JP1.a h ?_;exact Le.tz 3 0 rfl rfl rfl
         ·refine bF ?_;refine JP1.a h ?_;exact Le.tz 3 0 rfl rfl rfl
        ·have h:=hk;refine Qas (t:=Qc8) h ?_;exact .refl _
       ·refine Qac h (fun hb h=>?_) (fun hb h=>?_)
        ·refine Qaj h (fun o13 ho hk=>?_);refine Exists.intro (JP1 _ _ o13 .normal (Q4e p0 x1)) (And.intro ?_ (Qa4 ?_))
         ·have h:=ho;refine Qan [sV p0.Name] Qgo h (fun x14 hy=>(Qli p0.Name x14 hy)) (fun x14 hy h=>?_);refine Qac h (fun hb h=>?_) (fun hb h=>?_)
          ·refine And.intro rfl ?_;refine Qac h (fun hb h=>?_) (fun hb h=>?_)
           ·refine Qaq _ _ h (fun x15 hy=>((iQa9 p0.L x15 hy).fr [] [] rfl rfl rfl)) (fun x15 hy h=>?_);refine JP1.a h ?_;exact Le.tz 3 0 rfl rfl rfl
           ·refine JP1.a h ?_;exact Le.tz 3 0 rfl rfl rfl
          ·refine bF ?_;refine JP1.a h ?_;exact Le.tz 3 0 rfl rfl rfl
         ·have h:=hk;refine Qas (t:=Qc8) h ?_;exact .refl _
        ·refine Qas (t:=Qc8) h ?_;exact .refl _
theorem Qace:∀ (p0:Qab) (o:Bool),Qf3 p0=some o→PCall Tryz.prog 128 [.agg [iV p0.Kind,sV p0.Name,sV p0.Text,iV p0.N,.sl false (p0.L.map Qaa),.sl false (p0.Then.map Qaa),.sl false (p0.Else.map Qaa)]] (Qc8 o):=fun p0=>Qds.2.2.2.2 p0
mutual
def Qiy (p0:(List Qab)) (p1:Bool):Option (Bool) :=
 (Qhp p0 p1 0)>>=fun o1 =>
 match o1 with
 | .inl y2 =>
  some true
 | .inr y3 =>
  some false
 partial_fixpoint
def Qhp (p0:(List Qab)) (p1:Bool) (v10:Int):Option (Unit⊕Unit) :=
 if(decide (v10<(p0.length:Int))) then
  idx p0 v10>>=fun x4 =>
  Qtf x4>>=fun x5 =>
  if(!x5) then
   some (.inr ())
  else
   ( if(x4.Kind==8) then
     if(!(v10==(wr ((p0.length:Int)-1)))) then
      idx p0 (wr (v10+1))>>=fun x7 =>
      if(x7.Kind==8) then
       some true
      else
       if(v10==(wr ((p0.length:Int)-1))) then
        if(!p1) then
         Qco x4.Text [123]>>=fun x8 =>
         some x8
        else
         some false
       else
        Qco x4.Text [123]>>=fun x9 =>
        some x9
     else
      if(v10==(wr ((p0.length:Int)-1))) then
       if(!p1) then
        Qco x4.Text [123]>>=fun x10 =>
        some x10
       else
        some false
      else
       Qco x4.Text [123]>>=fun x11 =>
       some x11
    else
     some false:Option (Bool))>>=fun o6 =>
   if o6 then
    some (.inr ())
   else
    Qhp p0 p1 (wr (v10+1))
 else
  some (.inl ())
 partial_fixpoint
def Qtf (p0:Qab):Option (Bool) :=
 Qix p0>>=fun x1 =>
 ( if(p0.Kind==8) then
   ( if((x1.name_==false)&&((x1.text_==true)&&((x1.num_==false)&&((x1.then_==false)&&((x1.other_==false)&&((x1.l_==0)&&true)))))) then
     Qf2 p0.Text [123,123]>>=fun x6 =>
     some (!x6)
    else
     some false:Option (Bool))>>=fun o5 =>
   some (.inr o5)
  else
   if(p0.Kind==9) then
    some (.inl (false,false,false))
   else
    if(p0.Kind==10) then
     some (.inl (false,x1.then_,x1.other_))
    else
     ( if(p0.Kind==11) then
       some (p0.Kind==11)
      else
       some (p0.Kind==12):Option (Bool))>>=fun o7 =>
     if o7 then
      Qjg p0.Name>>=fun x8 =>
      some (.inl (x8,x1.then_,false))
     else
      if(p0.Kind==13) then
       Qjg p0.Name>>=fun x9 =>
       some (.inl (x9,false,false))
      else
       some (.inr false):Option ((Bool×Bool×Bool)⊕Bool))>>=fun o2 =>
 match o2 with
 | .inl y3 =>
  ( if(p0.Kind==11) then
    some true
   else
    if(p0.Kind==12) then
     some true
    else
     some (p0.Kind==13):Option (Bool))>>=fun o10 =>
  ( if(y3.1==o10) then
    if((x1.name_==y3.1)&&((x1.text_==false)&&((x1.num_==false)&&((x1.then_==y3.2.1)&&((x1.other_==y3.2.2)&&((x1.l_==1)&&true)))))) then
     idx p0.L 0>>=fun x12 =>
     Qf3 x12>>=fun x13 =>
     if x13 then
      Qiy p0.Then false>>=fun x14 =>
      if x14 then
       Qiy p0.Else false>>=fun x15 =>
       some x15
      else
       some false
     else
      some false
    else
     some false
   else
    some false:Option (Bool))>>=fun o11 =>
  some o11
 | .inr y4 =>
  some y4
 partial_fixpoint
end
theorem Q4o:(∀ (p0:(List Qab)) (p1:Bool) (o:Bool),Qiy p0 p1=some o→PCall Tryz.prog 72 [.sl false (p0.map Qaa),bV p1] (Qgp o))∧(∀ (p0:(List Qab)) (p1:Bool) (v10:Int) (o1:Unit⊕Unit),Qhp p0 p1 v10=some o1→TL (0,0) Tryz.prog 52 Q2a (JP2 (0,0) 52 o1 (.exit 0) (Qrg p0 p1) .ret (Qrh p0 p1)) (Ql0 p0 p1 v10))∧(∀ (p0:Qab) (o:Bool),Qtf p0=some o→PCall Tryz.prog 97 [.agg [iV p0.Kind,sV p0.Name,sV p0.Text,iV p0.N,.sl false (p0.L.map Qaa),.sl false (p0.Then.map Qaa),.sl false (p0.Else.map Qaa)]] (Qqp o)):=by
 refine Qiy.mutual_partial_correctness _ _ _ ?_ ?_ ?_
 ·intro Qhp' iQhp p0 p1 o h;refine PCall.ofB mixed tbOk Qw8 Tryz.func72 rfl (by kernel_rfl) (Nat.le_of_ble_eq_true rfl) ?_;refine view (Qaw _ _) rfl ?_;refine Qaj h (fun o1 ho hk=>?_);refine Exists.intro (JP2 _ _ o1 (.exit 0) (Qrg p0 p1) .ret (Qrh p0 p1)) (And.intro (Qhe (τ := Ql0 p0 p1 0) ?_ (TL.loop (iQhp p0 p1 0 o1 ho))) (Qfg (fun y2 hy=>?_) (fun y3 hy=>?_)))
  ·exact Le.tz 0 0 rfl rfl rfl
  ·have h:=(by rw[hy] at hk; exact hk);refine Qas (t:=Qgp) h ?_;exact .refl _
  ·have h:=(by rw[hy] at hk; exact hk);refine Qas (t:=Qgp) h ?_;exact .refl _
 ·intro Qhp' Qtf' iQhp iQtf p0 p1 v10 o1 h;refine TL.round (Qar mixed tbOk (lv:=Qw8) _ _ _ ?_);refine Qac h (fun hb h=>?_) (fun hb h=>?_)
  ·refine Qa8 (l:=p0) (c:=Qaa) (c' := Qa2) h Qao (fun _=>rfl) (by decide) (fun x4 hi h=>?_);refine Qan [.agg [iV x4.Kind,sV x4.Name,sV x4.Text,iV x4.N,.sl false (x4.L.map Qaa),.sl false (x4.Then.map Qaa),.sl false (x4.Else.map Qaa)]] Qqp h (fun x5 hy=>(iQtf x4 x5 hy)) (fun x5 hy h=>?_);refine Qac h (fun hb h=>?_) (fun hb h=>?_)
   ·exact JP2.b h (Le.tz 0 0 rfl rfl rfl)
   ·refine view (Qaw _ _) rfl ?_;refine Qaj h (fun o6 ho hk=>?_);refine Exists.intro (JP1 _ _ o6 .normal (Q19 p0 p1 v10 x4)) (And.intro ?_ (Qa4 ?_))
    ·have h:=ho;refine Qac h (fun hb h=>?_) (fun hb h=>?_)
     ·refine Qac h (fun hb h=>?_) (fun hb h=>?_)
      ·refine Qa8 (l:=p0) (c:=Qaa) (c' := Qa2) h Qao (fun _=>rfl) (by decide) (fun x7 hi h=>?_);refine Qac h (fun hb h=>?_) (fun hb h=>?_)
       ·refine JP1.a h ?_;exact Le.tz 1 0 rfl rfl rfl
       ·refine Qac h (fun hb h=>?_) (fun hb h=>?_)
        ·refine Qac h (fun hb h=>?_) (fun hb h=>?_)
         ·refine Qan [sV x4.Text,sV [123]] Qc7 h (fun x8 hy=>(Qe0 x4.Text [123] x8 hy)) (fun x8 hy h=>?_);refine JP1.a h ?_;exact Le.tz 1 0 rfl rfl rfl
         ·refine JP1.a h ?_;exact Le.tz 1 0 rfl rfl rfl
        ·refine bT ?_;refine Qan [sV x4.Text,sV [123]] Qc7 h (fun x9 hy=>(Qe0 x4.Text [123] x9 hy)) (fun x9 hy h=>?_);refine JP1.a h ?_;exact Le.tz 1 0 rfl rfl rfl
      ·refine bF ?_;refine Qac h (fun hb h=>?_) (fun hb h=>?_)
       ·refine Qac h (fun hb h=>?_) (fun hb h=>?_)
        ·refine Qan [sV x4.Text,sV [123]] Qc7 h (fun x10 hy=>(Qe0 x4.Text [123] x10 hy)) (fun x10 hy h=>?_);refine JP1.a h ?_;exact Le.tz 1 0 rfl rfl rfl
        ·refine JP1.a h ?_;exact Le.tz 1 0 rfl rfl rfl
       ·refine bT ?_;refine Qan [sV x4.Text,sV [123]] Qc7 h (fun x11 hy=>(Qe0 x4.Text [123] x11 hy)) (fun x11 hy h=>?_);refine JP1.a h ?_;exact Le.tz 1 0 rfl rfl rfl
     ·refine JP1.a h ?_;exact Le.tz 1 0 rfl rfl rfl
    ·have h:=hk;refine Qac h (fun hb h=>?_) (fun hb h=>?_)
     ·exact JP2.b h (Le.tz 0 0 rfl rfl rfl)
     ·refine TL.le (τ := Ql0 p0 p1 (wr (v10+1))) ?_ ((iQhp p0 p1 (wr (v10+1)) _ h));exact Le.tz 0 0 rfl rfl rfl
  ·exact JP2.a h (Le.tz 0 0 rfl rfl rfl)
 ·intro Qiy' iQiy p0 o h;refine PCall.ofB mixed tbOk Qabx Tryz.func97 rfl (by kernel_rfl) (Nat.le_of_ble_eq_true rfl) ?_;refine Qan [.agg [iV p0.Kind,sV p0.Name,sV p0.Text,iV p0.N,.sl false (p0.L.map Qaa),.sl false (p0.Then.map Qaa),.sl false (p0.Else.map Qaa)]] Qk6 h (fun x1 hy=>(Qte p0 x1 hy)) (fun x1 hy h=>?_);refine Qaj h (fun o2 ho hk=>?_);refine Exists.intro (JP2 _ _ o2 .normal (Q4g p0 x1) .ret (Q4h p0 x1)) (And.intro ?_ (Qfg (fun y3 hy=>?_) (fun y4 hy=>?_)))
  ·have h:=ho;refine Qac h (fun hb h=>?_) (fun hb h=>?_)
   ·refine Qaj h (fun o5 ho hk=>?_);refine Exists.intro (JP1 _ _ o5 .normal (Q4i p0 x1)) (And.intro ?_ (Qa4 ?_))
    ·have h:=ho;refine And.intro rfl ?_;refine Qac h (fun hb h=>?_) (fun hb h=>?_)
     ·refine Qan [sV p0.Text,sV [123,123]] Qja h (fun x6 hy=>(Qv7 p0.Text [123,123] x6 hy)) (fun x6 hy h=>?_);refine JP1.a h ?_;exact Le.tz 3 0 rfl rfl rfl
     ·refine JP1.a h ?_;exact Le.tz 3 0 rfl rfl rfl
    ·have h:=hk;refine JP2.b h ?_;exact Le.tz 3 0 rfl rfl rfl
   ·refine Qac h (fun hb h=>?_) (fun hb h=>?_)
    ·refine JP2.a h ?_;exact Le.tz 3 0 rfl rfl rfl
    ·refine Qac h (fun hb h=>?_) (fun hb h=>?_)
     ·refine And.intro (by decide +kernel) (And.intro rfl ?_);refine JP2.a h ?_;exact Le.tz 3 0 rfl rfl rfl
     ·refine Qaj h (fun o7 ho hk=>?_);refine Exists.intro (JP1 _ _ o7 .normal (Q4j p0 x1)) (And.intro ?_ (Qa4 ?_))
      ·have h:=ho;refine Qac h (fun hb h=>?_) (fun hb h=>?_)
       ·refine JP1.a h ?_;exact Le.tz 3 0 rfl rfl rfl
       ·refine JP1.a h ?_;exact Le.tz 3 0 rfl rfl rfl
      ·have h:=hk;refine Qac h (fun hb h=>?_) (fun hb h=>?_)
       ·refine And.intro (by decide +kernel) (And.intro rfl ?_);refine Qdk [sV p0.Name] Qgo h (fun x8 hy=>(Qli p0.Name x8 hy)) (fun x8 hy h=>?_);refine JP2.a h ?_;exact Le.tz 3 0 rfl rfl rfl
       ·refine Qac h (fun hb h=>?_) (fun hb h=>?_)
        ·refine Qan [sV p0.Name] Qgo h (fun x9 hy=>(Qli p0.Name x9 hy)) (fun x9 hy h=>?_);refine JP2.a h ?_;exact Le.tz 3 0 rfl rfl rfl
        ·refine JP2.b h ?_;exact Le.tz 3 0 rfl rfl rfl
  ·have h:=(by rw[hy] at hk; exact hk);refine Qaj h (fun o10 ho hk=>?_);refine Exists.intro (JP1 _ _ o10 .normal (Q4k p0 x1 y3)) (And.intro ?_ (Qa4 ?_))
   ·have h:=ho;refine Qac h (fun hb h=>?_) (fun hb h=>?_)
    ·refine bT ?_;refine JP1.a h ?_;exact Le.tz 3 0 rfl rfl rfl
    ·refine Qac h (fun hb h=>?_) (fun hb h=>?_)
     ·refine JP1.a h ?_;exact Le.tz 3 0 rfl rfl rfl
     ·refine JP1.a h ?_;exact Le.tz 3 0 rfl rfl rfl
   ·have h:=hk;refine Qaj h (fun o11 ho hk=>?_);refine Exists.intro (JP1 _ _ o11 .normal (Q4l p0 x1 y3)) (And.intro ?_ (Qa4 ?_))
    ·have h:=ho;refine Qac h (fun hb h=>?_) (fun hb h=>?_)
     ·refine And.intro rfl ?_;refine Qac h (fun hb h=>?_) (fun hb h=>?_)
      ·refine Qa8 (l:=p0.L) (c:=Qaa) (c' := Qa2) h Qao (fun _=>rfl) (by decide) (fun x12 hi h=>?_);refine Qan [.agg [iV x12.Kind,sV x12.Name,sV x12.Text,iV x12.N,.sl false (x12.L.map Qaa),.sl false (x12.Then.map Qaa),.sl false (x12.Else.map Qaa)]] Qc8 h (fun x13 hy=>(Qace x12 x13 hy)) (fun x13 hy h=>?_);refine Qac h (fun hb h=>?_) (fun hb h=>?_)
       ·refine Qan [.sl false (p0.Then.map Qaa),bV false] Qgp h (fun x14 hy=>(iQiy p0.Then false x14 hy)) (fun x14 hy h=>?_);refine Qac h (fun hb h=>?_) (fun hb h=>?_)
        ·refine Qan [.sl false (p0.Else.map Qaa),bV false] Qgp h (fun x15 hy=>(iQiy p0.Else false x15 hy)) (fun x15 hy h=>?_);refine JP1.a h ?_;exact Le.tz 3 0 rfl rfl rfl
        ·refine JP1.a h ?_;exact Le.tz 3 0 rfl rfl rfl
       ·refine bF ?_;refine JP1.a h ?_;exact Le.tz 3 0 rfl rfl rfl
      ·refine bF ?_;refine bF ?_;refine JP1.a h ?_;exact Le.tz 3 0 rfl rfl rfl
     ·refine bF ?_;refine bF ?_;refine bF ?_;refine JP1.a h ?_;exact Le.tz 3 0 rfl rfl rfl
    ·have h:=hk;refine Qas (t:=Qqp) h ?_;exact .refl _
  ·have h:=(by rw[hy] at hk; exact hk);refine Qas (t:=Qqp) h ?_;exact .refl _
theorem Q80:∀ (p0:(List Qab)) (p1:Bool) (o:Bool),Qiy p0 p1=some o→PCall Tryz.prog 72 [.sl false (p0.map Qaa),bV p1] (Qgp o):=fun p0 p1=>Q4o.1 p0 p1
def Q2j (p0:(List Qab)):Option (Bool) :=
 ( Qtd p0>>=fun x2 =>
  if(decide (x2≤12)) then
   Qpu p0>>=fun x3 =>
   if(decide (x3≤1024)) then
    Qiy p0 true>>=fun x4 =>
    some x4
   else
    some false
  else
   some false:Option (Bool))>>=fun o1 =>
 some o1
theorem Qahy:∀ (p0:(List Qab)) (o:Bool),Q2j p0=some o→PCall Tryz.prog 38 [.sl false (p0.map Qaa)] (Q16 o):=by
 intro p0 o h;unfold Q2j at h;refine PCall.ofB mixed tbOk Qahr Tryz.func38 rfl (by kernel_rfl) (Nat.le_of_ble_eq_true rfl) ?_;refine Qaj h (fun o1 ho hk=>?_);refine Exists.intro (JP1 _ _ o1 .normal (Qabu )) (And.intro ?_ (Qa4 ?_))
 ·have h:=ho;refine Qan [.sl false (p0.map Qaa)] Qv2 h (fun x2 hy=>(Qaca p0 x2 hy)) (fun x2 hy h=>?_);refine Qac h (fun hb h=>?_) (fun hb h=>?_)
  ·refine Qan [.sl false (p0.map Qaa)] Qs7 h (fun x3 hy=>(Q8x p0 x3 hy)) (fun x3 hy h=>?_);refine Qac h (fun hb h=>?_) (fun hb h=>?_)
   ·refine Qan [.sl false (p0.map Qaa),bV true] Qgp h (fun x4 hy=>(Q80 p0 true x4 hy)) (fun x4 hy h=>?_);refine JP1.a h ?_;exact Le.tz 0 0 rfl rfl rfl
   ·refine JP1.a h ?_;exact Le.tz 0 0 rfl rfl rfl
  ·refine bF ?_;refine JP1.a h ?_;exact Le.tz 0 0 rfl rfl rfl
 ·have h:=hk;refine Qas (t:=Q16) h ?_;exact .refl _
def Qer (p0:(List Qae)) (v22:Int):Option (Unit⊕((List UInt8)×Int)) :=
 if(decide (v22<(p0.length:Int))) then
  idx p0 v22>>=fun x4 =>
  ( Qjg x4.Name>>=fun x6 =>
   if(!x6) then
    some true
   else
    Q2j x4.L>>=fun x7 =>
    some (!x7):Option (Bool))>>=fun o5 =>
  if o5 then
   some (.inr (x4.Name,7))
  else
   cutL p0 0 v22>>=fun x8 =>
   Qhn x8 x4.Name>>=fun x9 =>
   if x9.2 then
    some (.inr (x4.Name,9))
   else
    Qer p0 (wr (v22+1))
 else
  some (.inl ())
 partial_fixpoint
theorem Qage:∀ (p0:(List Qae)),(∀ (v22:Int) (o1:Unit⊕((List UInt8)×Int)),Qer p0 v22=some o1→TL (0,0) Tryz.prog 102 Qzv (JP2 (0,0) 102 o1 (.exit 0) (Qph p0) .ret (Qpi p0)) (Qkf p0 v22)):=by
 intro p0;refine Qer.partial_correctness p0 _ ?_;intro Qer' iQer v22 o1 h;refine TL.round (Qar mixed tbOk (lv:=Qh0) _ _ _ ?_);refine Qac h (fun hb h=>?_) (fun hb h=>?_)
 ·refine Qa8 (l:=p0) (c:=Qaf) (c' := Qaf) h (fun _=>rfl) (fun _=>rfl) (by decide) (fun x4 hi h=>?_);refine Qaj h (fun o5 ho hk=>?_);refine Exists.intro (JP1 _ _ o5 .normal (Qzu p0 v22 x4)) (And.intro ?_ (Qa4 ?_))
  ·have h:=ho;refine Qan [sV x4.Name] Qgo h (fun x6 hy=>(Qli x4.Name x6 hy)) (fun x6 hy h=>?_);refine Qac h (fun hb h=>?_) (fun hb h=>?_)
   ·refine JP1.a h ?_;exact Le.tz 1 0 rfl rfl rfl
   ·refine Qan [.sl false (x4.L.map Qaa)] Q16 h (fun x7 hy=>(Qahy x4.L x7 hy)) (fun x7 hy h=>?_);refine JP1.a h ?_;exact Le.tz 1 0 rfl rfl rfl
  ·have h:=hk;refine Qac h (fun hb h=>?_) (fun hb h=>?_)
   ·exact JP2.b h (Le.tz 0 0 rfl rfl rfl)
   ·refine And.intro (by decide +kernel) (And.intro rfl ?_);refine Qaf6 (c:=Qaf) none (some v22) h (fun _=>rfl) (fun x8 hi h=>?_);refine Qdk [.sl false (x8.map Qaf),sV x4.Name] Qfb h (fun x9 hy=>(Qje x8 x4.Name x9 hy)) (fun x9 hy h=>?_);refine Qac h (fun hb h=>?_) (fun hb h=>?_)
    ·exact JP2.b h (Le.tz 0 0 rfl rfl rfl)
    ·refine TL.le (τ := Qkf p0 (wr (v22+1))) ?_ ((iQer (wr (v22+1)) _ h));exact Le.tz 0 0 rfl rfl rfl
 ·exact JP2.a h (Le.tz 0 0 rfl rfl rfl)
def Qes (p0:(List Qae)) (x10:(List ((List UInt8)×(List (List UInt8))))) (v56:Int) (x14:Qae) (v66:Int):Option (Unit⊕Unit) :=
 if(decide (v66<(((mget (fun a b=>a==b) x14.Name x10).getD []).length:Int))) then
  idx ((mget (fun a b=>a==b) x14.Name x10).getD []) v66>>=fun x18 =>
  if(!((mget (fun a b=>a==b) x18 x10).isSome)) then
   some (.inr ())
  else
   Qes p0 x10 v56 x14 (wr (v66+1))
 else
  some (.inl ())
 partial_fixpoint
theorem Qagf:∀ (p0:(List Qae)) (x10:(List ((List UInt8)×(List (List UInt8))))) (v56:Int) (x14:Qae),(∀ (v66:Int) (o15:Unit⊕Unit),Qes p0 x10 v56 x14 v66=some o15→TL (0,0) Tryz.prog 102 Qzw (JP2 (0,0) 102 o15 (.exit 4) (Qpj p0 x10 v56 x14) .ret (Qpk p0 x10 v56 x14)) (Qkg p0 x10 v56 x14 v66)):=by
 intro p0 x10 v56 x14;refine Qes.partial_correctness p0 x10 v56 x14 _ ?_;intro Qes' iQes v66 o15 h;refine TL.round (Qar mixed tbOk (lv:=Qh0) _ _ _ ?_);refine Qac h (fun hb h=>?_) (fun hb h=>?_)
 ·refine Qa8 (l:=((mget (fun a b=>a==b) x14.Name x10).getD [])) (c:=cStr) (c' := cStr) h (fun _=>rfl) (fun _=>rfl) (by decide) (fun x18 hi h=>?_);refine Qse (l:=x10) (k:=x18) (fun a b=>a==b) (ck:=sV) (ca:=(fun x =>.sl false (x.map cStr))) (z0:=[]) (by exact rfl) (by exact rfl) (by exact rfl) (by exact fun _ _=>rfl) (by exact rfl) (by exact .not) ?_;refine Qac h (fun hb h=>?_) (fun hb h=>?_)
  ·exact JP2.b h (Le.tz 3 0 rfl rfl rfl)
  ·refine TL.le (τ := Qkg p0 x10 v56 x14 (wr (v66+1))) ?_ ((iQes (wr (v66+1)) _ h));exact Le.tz 3 0 rfl rfl rfl
 ·exact JP2.a h (Le.tz 3 0 rfl rfl rfl)
def Qet (p0:(List Qae)) (x10:(List ((List UInt8)×(List (List UInt8))))) (v56:Int):Option (Unit⊕(List UInt8)) :=
 if(decide (v56<(p0.length:Int))) then
  idx p0 v56>>=fun x14 =>
  (Qes p0 x10 v56 x14 0)>>=fun o15 =>
  match o15 with
  | .inl y16 =>
   Qet p0 x10 (wr (v56+1))
  | .inr y17 =>
   some (.inr x14.Name)
 else
  some (.inl ())
 partial_fixpoint
theorem Qagg:∀ (p0:(List Qae)) (x10:(List ((List UInt8)×(List (List UInt8))))),(∀ (v56:Int) (o11:Unit⊕(List UInt8)),Qet p0 x10 v56=some o11→TL (0,0) Tryz.prog 102 Qzx (JP2 (0,0) 102 o11 (.exit 2) (Qpl p0 x10) .ret (Qpm p0 x10)) (Qkh p0 x10 v56)):=by
 intro p0 x10;refine Qet.partial_correctness p0 x10 _ ?_;intro Qet' iQet v56 o11 h;refine TL.round (Qar mixed tbOk (lv:=Qh0) _ _ _ ?_);refine Qac h (fun hb h=>?_) (fun hb h=>?_)
 ·refine Qa8 (l:=p0) (c:=Qaf) (c' := Qaf) h (fun _=>rfl) (fun _=>rfl) (by decide) (fun x14 hi h=>?_);refine Qse (l:=x10) (k:=x14.Name) (fun a b=>a==b) (ck:=sV) (ca:=(fun x =>.sl false (x.map cStr))) (z0:=[]) (by exact rfl) (by exact rfl) (by exact rfl) (by exact fun _ _=>rfl) (by exact rfl) (by exact .not) ?_;refine view (Qaw _ _) rfl ?_;refine Qaj h (fun o15 ho hk=>?_);refine Exists.intro (JP2 _ _ o15 (.exit 4) (Qpj p0 x10 v56 x14) .ret (Qpk p0 x10 v56 x14)) (And.intro (Qhe (τ := Qkg p0 x10 v56 x14 0) ?_ (TL.loop (Qagf p0 x10 v56 x14 0 o15 ho))) (Qfg (fun y16 hy=>?_) (fun y17 hy=>?_)))
  ·exact Le.tz 3 0 rfl rfl rfl
  ·have h:=(by rw[hy] at hk; exact hk);refine TL.le (τ := Qkh p0 x10 (wr (v56+1))) ?_ ((iQet (wr (v56+1)) _ h));exact Le.tz 2 0 rfl rfl rfl
  ·have h:=(by rw[hy] at hk; exact hk);exact JP2.b h (Le.tz 2 0 rfl rfl rfl)
 ·exact JP2.a h (Le.tz 2 0 rfl rfl rfl)
def Qcm (h0_0:(List ((List UInt8)×(List (List UInt8))))) (x1:(List (List UInt8))) (v17:Int) (h2_0:(List ((List UInt8)×Int))):Option (((List ((List UInt8)×Int)))) :=
 if(decide (v17<(x1.length:Int))) then
  idx x1 v17>>=fun x3 =>
  Qcm h0_0 x1 (wr (v17+1)) (mset (fun a b=>a==b) x3 1 h2_0)
 else
  some h2_0
 partial_fixpoint
theorem Q81:∀ (h0_0:(List ((List UInt8)×(List (List UInt8))))) (x1:(List (List UInt8))),(∀ (v17:Int) (h2_0:(List ((List UInt8)×Int))) (o2:((List ((List UInt8)×Int)))),Qcm h0_0 x1 v17 h2_0=some o2→TL (1,0) Tryz.prog 56 Qs2 (JP1 (1,0) 56 o2 (.exit 0) (Qj1 h0_0 x1)) (Qf9 h0_0 x1 v17 h2_0)):=by
 intro h0_0 x1;refine Qcm.partial_correctness h0_0 x1 _ ?_;intro Qcm' iQcm v17 h2_0 o2 h;refine TL.round (Qar mixed tbOk (lv:=Qfh) _ _ _ ?_);refine Qac h (fun hb h=>?_) (fun hb h=>?_)
 ·refine Q1r (l:=x1) (c:=cStr) (c' := cStr) h rfl (fun _=>rfl) (fun _=>rfl) (by decide) (fun x3 hi h=>?_);refine And.intro rfl (And.intro (Nat.le_of_ble_eq_true rfl) ?_);refine Qabm (l:=h2_0) (k:=x3) (x:=1) (fun a b=>a==b) (ck:=sV) (ca:=iV) (by exact rfl) (by exact rfl) (by exact rfl) (by exact .refl _) (by exact fun _ _=>rfl) ?_;refine TL.le (τ := Qf9 h0_0 x1 (wr (v17+1)) (mset (fun a b=>a==b) x3 1 h2_0)) ?_ ((iQcm (wr (v17+1)) (mset (fun a b=>a==b) x3 1 h2_0) _ h));exact Le.tz 3 1 rfl rfl rfl
 ·exact JP1.a h (Le.tz 3 1 rfl rfl rfl)
def Qb4 (h0_0:(List ((List UInt8)×(List (List UInt8))))) (v9:Int) (x5:(List UInt8)) (v6_:(List (List UInt8))) (v38:Int) (h2_0_:(List ((List UInt8)×Int))):Option (((List (List UInt8))×(List ((List UInt8)×Int)))) :=
 if(decide (v38<(((mget (fun a b=>a==b) x5 h0_0).getD []).length:Int))) then
  idx ((mget (fun a b=>a==b) x5 h0_0).getD []) v38>>=fun x7 =>
  if(((mget (fun a b=>a==b) x7 h2_0_).getD 0)==0) then
   appL 16 v6_ [x7]>>=fun x8 =>
   Qb4 h0_0 v9 x5 x8 (wr (v38+1)) (mset (fun a b=>a==b) x7 1 h2_0_)
  else
   Qb4 h0_0 v9 x5 v6_ (wr (v38+1)) h2_0_
 else
  some (v6_,h2_0_)
 partial_fixpoint
theorem Q82:∀ (h0_0:(List ((List UInt8)×(List (List UInt8))))) (v9:Int) (x5:(List UInt8)),(∀ (v6_:(List (List UInt8))) (v38:Int) (h2_0_:(List ((List UInt8)×Int))) (o6:((List (List UInt8))×(List ((List UInt8)×Int)))),Qb4 h0_0 v9 x5 v6_ v38 h2_0_=some o6→TL (1,0) Tryz.prog 56 Qs3 (JP1 (1,0) 56 o6 (.exit 4) (Qj2 h0_0 v9 x5)) (Qec h0_0 v9 x5 v6_ v38 h2_0_)):=by
 intro h0_0 v9 x5;refine Qb4.partial_correctness h0_0 v9 x5 _ ?_;intro Qb4' iQb4 v6_ v38 h2_0_ o6 h;refine TL.round (Qar mixed tbOk (lv:=Qfh) _ _ _ ?_);refine Qac h (fun hb h=>?_) (fun hb h=>?_)
 ·refine Qa8 (l:=((mget (fun a b=>a==b) x5 h0_0).getD [])) (c:=cStr) (c' := cStr) h (fun _=>rfl) (fun _=>rfl) (by decide) (fun x7 hi h=>?_);refine Qse (l:=h2_0_) (k:=x7) (fun a b=>a==b) (ck:=sV) (ca:=iV) (z0:=0) (by exact rfl) (by exact rfl) (by exact rfl) (by exact fun _ _=>rfl) (by exact rfl) (by exact .refl _) ?_;refine Qac h (fun hb h=>?_) (fun hb h=>?_)
  ·refine Qabm (l:=h2_0_) (k:=x7) (x:=1) (fun a b=>a==b) (ck:=sV) (ca:=iV) (by exact rfl) (by exact rfl) (by exact rfl) (by exact .refl _) (by exact fun _ _=>rfl) ?_;refine Qvx (a:=v6_) (b:=[x7]) (c:=cStr) h (.refl _) (fun _=>rfl) rfl (fun x8 hi h=>?_);refine TL.le (τ := Qec h0_0 v9 x5 x8 (wr (v38+1)) (mset (fun a b=>a==b) x7 1 h2_0_)) ?_ ((iQb4 x8 (wr (v38+1)) (mset (fun a b=>a==b) x7 1 h2_0_) _ h));exact Le.trans (τ := ⟨[(2,.ptr 1 0),(5,.mh 2),(6,.x 0 2 (.sl 9 1 (x8.map cStr))),(9,.p (iV v9)),(36,.p (.sl false (((mget (fun a b=>a==b) x5 h0_0).getD []).map cStr))),(37,.p (iV (((mget (fun a b=>a==b) x5 h0_0).getD []).length:Int))),(38,.p (iV (wr (v38+1))))],⟨[[mpD sV (fun x =>.sl false (x.map cStr)) h0_0],[.mh 0],[mpD sV iV (mset (fun a b=>a==b) x7 1 h2_0_)]],[2]⟩⟩) (Le.tz 3 1 rfl rfl rfl) ((Le.ver (.s 6) 0 2 1 rfl rfl rfl rfl).trans (Le.tz 3 1 rfl rfl rfl))
  ·refine TL.le (τ := Qec h0_0 v9 x5 v6_ (wr (v38+1)) h2_0_) ?_ ((iQb4 v6_ (wr (v38+1)) h2_0_ _ h));exact Le.tz 3 1 rfl rfl rfl
 ·exact JP1.a h (Le.tz 3 1 rfl rfl rfl)
def Qb5 (h0_0:(List ((List UInt8)×(List (List UInt8))))) (v6:(List (List UInt8))) (v9:Int) (h2_0:(List ((List UInt8)×Int))):Option (((List (List UInt8))×(List ((List UInt8)×Int)))) :=
 if(decide (v9<(v6.length:Int))) then
  idx v6 v9>>=fun x5 =>
  (Qb4 h0_0 v9 x5 v6 0 h2_0)>>=fun o6 =>
  Qb5 h0_0 o6.1 (wr (v9+1)) o6.2
 else
  some (v6,h2_0)
 partial_fixpoint
theorem Q83:∀ (h0_0:(List ((List UInt8)×(List (List UInt8))))),(∀ (v6:(List (List UInt8))) (v9:Int) (h2_0:(List ((List UInt8)×Int))) (o4:((List (List UInt8))×(List ((List UInt8)×Int)))),Qb5 h0_0 v6 v9 h2_0=some o4→TL (1,0) Tryz.prog 56 Qs4 (JP1 (1,0) 56 o4 (.exit 2) (Qj3 h0_0)) (Qga h0_0 v6 v9 h2_0)):=by
 intro h0_0;refine Qb5.partial_correctness h0_0 _ ?_;intro Qb5' iQb5 v6 v9 h2_0 o4 h;refine TL.round (Qar mixed tbOk (lv:=Qfh) _ _ _ ?_);refine And.intro rfl (Exists.intro _ (And.intro (List.length_map _) ?_));refine Qac h (fun hb h=>?_) (fun hb h=>?_)
 ·refine And.intro (by decide +kernel) (And.intro rfl ?_);refine And.intro rfl ?_;refine Q1r (l:=v6) (c:=cStr) (c' := cStr) h rfl (fun _=>rfl) (fun _=>rfl) (by decide) (fun x5 hi h=>?_);refine And.intro rfl ?_;refine And.intro rfl (And.intro (Nat.le_of_ble_eq_true rfl) ?_);refine And.intro rfl ?_;refine Qse (l:=h0_0) (k:=x5) (fun a b=>a==b) (ck:=sV) (ca:=(fun x =>.sl false (x.map cStr))) (z0:=[]) (by exact rfl) (by exact rfl) (by exact rfl) (by exact fun _ _=>rfl) (by exact rfl) (by exact .not) ?_;refine view (Qaw _ _) rfl ?_;refine Qaj h (fun o6 ho hk=>?_);refine Exists.intro (JP1 _ _ o6 (.exit 4) (Qj2 h0_0 v9 x5)) (And.intro (Qhe (τ := Qec h0_0 v9 x5 v6 0 h2_0) ?_ (TL.loop (Q82 h0_0 v9 x5 v6 0 h2_0 o6 ho))) (Qa4 ?_))
  ·exact Le.tz 3 1 rfl rfl rfl
  have h:=hk;refine TL.le (τ := Qga h0_0 o6.1 (wr (v9+1)) o6.2) ?_ ((iQb5 o6.1 (wr (v9+1)) o6.2 _ h));exact Le.tz 3 1 rfl rfl rfl
 ·exact JP1.a h (Le.tz 3 1 rfl rfl rfl)
def Qc2 (p0:(List (List UInt8))):Option ((List (List UInt8))) :=
 appL 16 [] p0
theorem Ql2:∀ (p0:(List (List UInt8))) (o:(List (List UInt8))),Qc2 p0=some o→CallOK Tryz.prog 75 [.p (.sl false (p0.map cStr))] ⟨[],[]⟩ (Qdr o) ⟨[],[1]⟩:=by
 intro p0 o h;unfold Qc2 at h;have h:(appL 16 ([]:List (List UInt8)) p0>>=fun r=>some r)=some o:=by rw[h]; rfl
 refine CallOK.ofB mixed tbOk Qlx Tryz.func75 rfl (by kernel_rfl) (Nat.le_of_ble_eq_true rfl) rfl rfl rfl ?_;refine⟨rfl,rfl,rfl,fun b hb=>?_⟩;cases b with
 | true =>
  refine bT ?_;obtain rfl:=List.map_eq_nil_iff.1 (hb rfl);have h:some ([]:List (List UInt8))=some o:=h;refine Exists.intro _ (And.intro (Le.xnil (.s 2) 9 1 rfl) ?_);exact Qbb (t:=Qdr) (ss:=fun o=>⟨[],[1]⟩) h ⟨[0],rfl,.refl _,.refl _,rfl⟩
 | false =>
  refine bF ?_;refine Qaga (a:=([]:List (List UInt8))) (b:=p0) (c:=cStr) h (.refl _) (.refl _) (fun _=>rfl) (.inl rfl) (fun r hi h=>?_);refine Exists.intro _ (And.intro (Le.refl _ _ _) ?_);exact Qbb (t:=Qdr) (ss:=fun o=>⟨[],[1]⟩) h ⟨[0],rfl,.refl _,.refl _,rfl⟩
def Qf4 (p1:(List (List UInt8))) (h0_0:(List ((List UInt8)×(List (List UInt8))))):Option ((List (List UInt8))) :=
 Qc2 p1>>=fun x1 =>
 (Qcm h0_0 x1 0 [])>>=fun o2 =>
 (Qb5 h0_0 x1 0 o2)>>=fun o4 =>
 need (o4.1.length<4611686018427387904)>>=fun _ =>
 some (srtL o4.1)
theorem Qwa:∀ (p1:(List (List UInt8))) (h0_0:(List ((List UInt8)×(List (List UInt8))))) (o:(List (List UInt8))),Qf4 p1 h0_0=some o→CallOK Tryz.prog 42 [.agg [.mh 0],.p (.sl false (p1.map cStr))] ⟨[[mpD sV (fun x =>.sl false (x.map cStr)) h0_0]],[]⟩ (Qi7 o) ⟨[[mpD sV (fun x =>.sl false (x.map cStr)) h0_0]],[]⟩:=by
 intro p1 h0_0 o h;unfold Qf4 at h;refine CallOK.ofB mixed tbOk Qfh Tryz.func42 rfl (by kernel_rfl) (Nat.le_of_ble_eq_true rfl) rfl rfl rfl ?_;refine And.intro rfl (Exists.intro false ?_);refine Qaq _ _ h (fun x1 hy=>((Ql2 p1 x1 hy).fr [] [] rfl rfl rfl)) (fun x1 hy h=>?_);refine And.intro rfl (Exists.intro _ (And.intro (List.length_map _) ?_));refine Qaj h (fun o2 ho hk=>?_);refine Exists.intro (JP1 _ _ o2 (.exit 0) (Qj1 h0_0 x1)) (And.intro (Qhe (τ := Qf9 h0_0 x1 0 []) ?_ (TL.loop (Q81 h0_0 x1 0 [] o2 ho))) (Qa4 ?_))
 ·exact Le.tz 3 1 rfl rfl rfl
 have h:=hk;refine Qaj h (fun o4 ho hk=>?_);refine Exists.intro (JP1 _ _ o4 (.exit 2) (Qj3 h0_0)) (And.intro (Qhe (τ := Qga h0_0 x1 0 o2) ?_ (TL.loop (Q83 h0_0 x1 0 o2 o4 ho))) (Qa4 ?_))
 ·exact Le.tz 3 1 rfl rfl rfl
 have h:=hk;refine Q0t h (fun hn0 h=>?_);refine Or.inl ?_;refine⟨rfl,rfl,_,false,o4.1,(srtL o4.1),_,rfl,rfl,Qanf  hn0 ,rfl,rfl,?_⟩;refine Exists.intro _ (And.intro (Le.trans (τ := ⟨[(4,.x 0 2 (.sl 9 1 ((srtL o4.1).map cStr)))],⟨[[mpD sV (fun x =>.sl false (x.map cStr)) h0_0]],[2]⟩⟩) (Le.tz 1 1 rfl rfl rfl) (Le.trans (τ := ⟨[(4,.x 0 2 (.sl 9 1 ((srtL o4.1).map cStr)))],⟨[[mpD sV (fun x =>.sl false (x.map cStr)) h0_0]],[2]⟩⟩) (Le.tz 1 1 rfl rfl rfl) ((Le.frzv (.s 4) 0 2 rfl rfl rfl rfl).trans (Le.refl _ _ _)))) ?_);refine Qbb (t:=Qi7) (ss:=fun o=>⟨[[mpD sV (fun x =>.sl false (x.map cStr)) h0_0]],[]⟩) h ?_;exact⟨[],rfl,.refl _,.refl _,rfl⟩
def Qbd (p0:(List (List UInt8))) (p1:(List UInt8)) (v8:Int):Option (Unit⊕Int) :=
 if(decide (v8<(p0.length:Int))) then
  idx p0 v8>>=fun x4 =>
  if(p1==x4) then
   some (.inr v8)
  else
   Qbd p0 p1 (wr (v8+1))
 else
  some (.inl ())
 partial_fixpoint
theorem Qxd:∀ (p0:(List (List UInt8))) (p1:(List UInt8)),(∀ (v8:Int) (o1:Unit⊕Int),Qbd p0 p1 v8=some o1→TL (0,0) Tryz.prog 19 Qkk (JP2 (0,0) 19 o1 (.exit 0) (Qex p0 p1) .ret (Qey p0 p1)) (Qcz p0 p1 v8)):=by
 intro p0 p1;refine Qbd.partial_correctness p0 p1 _ ?_;intro Qbd' iQbd v8 o1 h;refine TL.round (Qar mixed tbOk (lv:=Qfz) _ _ _ ?_);refine Qac h (fun hb h=>?_) (fun hb h=>?_)
 ·refine Qa8 (l:=p0) (c:=cStr) (c' := cStr) h (fun _=>rfl) (fun _=>rfl) (by decide) (fun x4 hi h=>?_);refine Qac h (fun hb h=>?_) (fun hb h=>?_)
  ·exact JP2.b h (Le.tz 0 0 rfl rfl rfl)
  ·refine TL.le (τ := Qcz p0 p1 (wr (v8+1))) ?_ ((iQbd (wr (v8+1)) _ h));exact Le.tz 0 0 rfl rfl rfl
 ·exact JP2.a h (Le.tz 0 0 rfl rfl rfl)
def Qc3 (p0:(List (List UInt8))) (p1:(List UInt8)):Option (Int) :=
 (Qbd p0 p1 0)>>=fun o1 =>
 match o1 with
 | .inl y2 =>
  some (-1)
 | .inr y3 =>
  some y3
theorem Ql3:∀ (p0:(List (List UInt8))) (p1:(List UInt8)) (o:Int),Qc3 p0 p1=some o→PCall Tryz.prog 74 [.sl false (p0.map cStr),sV p1] (Qcp o):=by
 intro p0 p1 o h;unfold Qc3 at h;refine PCall.ofB mixed tbOk Qfz Tryz.func74 rfl (by kernel_rfl) (Nat.le_of_ble_eq_true rfl) ?_;refine view (Qaw _ _) rfl ?_;refine Qaj h (fun o1 ho hk=>?_);refine Exists.intro (JP2 _ _ o1 (.exit 0) (Qex p0 p1) .ret (Qey p0 p1)) (And.intro (Qhe (τ := Qcz p0 p1 0) ?_ (TL.loop (Qxd p0 p1 0 o1 ho))) (Qfg (fun y2 hy=>?_) (fun y3 hy=>?_)))
 ·exact Le.tz 0 0 rfl rfl rfl
 ·have h:=(by rw[hy] at hk; exact hk);refine Qas (t:=Qcp) h ?_;exact .refl _
 ·have h:=(by rw[hy] at hk; exact hk);refine Qas (t:=Qcp) h ?_;exact .refl _
def Qbs (p0:(List (List UInt8))) (p1:(List UInt8)):Option (Bool) :=
 Qc3 p0 p1>>=fun x1 =>
 some (decide (x1 ≥ 0))
theorem Qjz:∀ (p0:(List (List UInt8))) (p1:(List UInt8)) (o:Bool),Qbs p0 p1=some o→PCall Tryz.prog 41 [.sl false (p0.map cStr),sV p1] (Qc6 o):=by
 intro p0 p1 o h;unfold Qbs at h;refine PCall.ofB mixed tbOk Qjy Tryz.func41 rfl (by kernel_rfl) (Nat.le_of_ble_eq_true rfl) ?_;refine Qan [.sl false (p0.map cStr),sV p1] Qcp h (fun x1 hy=>(Ql3 p0 p1 x1 hy)) (fun x1 hy h=>?_);refine Qas (t:=Qc6) h ?_;exact .refl _
def Qeu (p0:(List Qae)) (x10:(List ((List UInt8)×(List (List UInt8))))) (v85:Int):Option (Unit⊕(List UInt8)) :=
 if(decide (v85<(p0.length:Int))) then
  idx p0 v85>>=fun x22 =>
  Qf4 ((mget (fun a b=>a==b) x22.Name x10).getD []) x10>>=fun x23 =>
  Qbs x23 x22.Name>>=fun x24 =>
  if x24 then
   some (.inr x22.Name)
  else
   Qeu p0 x10 (wr (v85+1))
 else
  some (.inl ())
 partial_fixpoint
theorem Qagh:∀ (p0:(List Qae)) (x10:(List ((List UInt8)×(List (List UInt8))))),(∀ (v85:Int) (o19:Unit⊕(List UInt8)),Qeu p0 x10 v85=some o19→TL (0,0) Tryz.prog 102 Qzy (JP2 (0,0) 102 o19 (.exit 6) (Qpn p0 x10) .ret (Qpo p0 x10)) (Qki p0 x10 v85)):=by
 intro p0 x10;refine Qeu.partial_correctness p0 x10 _ ?_;intro Qeu' iQeu v85 o19 h;refine TL.round (Qar mixed tbOk (lv:=Qh0) _ _ _ ?_);refine Qac h (fun hb h=>?_) (fun hb h=>?_)
 ·refine Qa8 (l:=p0) (c:=Qaf) (c' := Qaf) h (fun _=>rfl) (fun _=>rfl) (by decide) (fun x22 hi h=>?_);refine And.intro (by decide +kernel) (And.intro rfl ?_);refine And.intro rfl ?_;refine Qse (l:=x10) (k:=x22.Name) (fun a b=>a==b) (ck:=sV) (ca:=(fun x =>.sl false (x.map cStr))) (z0:=[]) (by exact rfl) (by exact rfl) (by exact rfl) (by exact fun _ _=>rfl) (by exact rfl) (by exact .not) ?_;refine Qqk (fun x23=>(Qi7 x23).ren [0] []) h (fun x23 hy=>(Qwa ((mget (fun a b=>a==b) x22.Name x10).getD []) x10 x23 hy).fd rfl rfl [0] rfl rfl) (fun x23 hy h=>?_);refine Qdk [.sl false (x23.map cStr),sV x22.Name] Qc6 h (fun x24 hy=>(Qjz x23 x22.Name x24 hy)) (fun x24 hy h=>?_);refine Qac h (fun hb h=>?_) (fun hb h=>?_)
  ·exact JP2.b h (Le.tz 2 0 rfl rfl rfl)
  ·refine TL.le (τ := Qki p0 x10 (wr (v85+1))) ?_ ((iQeu (wr (v85+1)) _ h));exact Le.tz 2 0 rfl rfl rfl
 ·exact JP2.a h (Le.tz 2 0 rfl rfl rfl)
mutual
def Qdt (p0:(List Qab)) (h0_0:(List (List UInt8))):Option ((List (List UInt8))) :=
 (Qd5 p0 0 h0_0)>>=fun o1 =>
 some o1
 partial_fixpoint
def Qd5 (p0:(List Qab)) (v8:Int) (h0_0_:(List (List UInt8))):Option ((List (List UInt8))) :=
 if(decide (v8<(p0.length:Int))) then
  idx p0 v8>>=fun x2 =>
  ( if(x2.Kind==13) then
    appL 16 h0_0_ [x2.Name]>>=fun x4 =>
    some x4
   else
    some h0_0_:Option ((List (List UInt8))))>>=fun o3 =>
  Qdt x2.Then o3>>=fun x5 =>
  Qdt x2.Else x5>>=fun x6 =>
  Qd5 p0 (wr (v8+1)) x6
 else
  some h0_0_
 partial_fixpoint
end
theorem Qz2:(∀ (p0:(List Qab)) (h0_0:(List (List UInt8))) (o:(List (List UInt8))),Qdt p0 h0_0=some o→CallOK Tryz.prog 99 [.p (.sl false (p0.map Qaa)),.ptr 0 0,.ptr 1 0] ⟨[[.x 0 (h0_0.length+1) (.sl 9 1 (h0_0.map cStr))],[.fn (.func 99) [] [.ptr 0 0,.ptr 1 0]]],[(h0_0.length+1)]⟩ (Qov o) ⟨[[.x 0 (o.length+1) (.sl 9 1 (o.map cStr))],[.fn (.func 99) [] [.ptr 0 0,.ptr 1 0]]],[(o.length+1)]⟩)∧(∀ (p0:(List Qab)) (v8:Int) (h0_0_:(List (List UInt8))) (o1:(List (List UInt8))),Qd5 p0 v8 h0_0_=some o1→TL (2,1) Tryz.prog 29 Qym (JP1 (2,1) 29 o1 (.exit 0) (Qn3 p0)) (Qi6 p0 v8 h0_0_)):=by
 refine Qdt.mutual_partial_correctness _ _ ?_ ?_
 ·intro Qd5' iQd5 p0 h0_0 o h;refine CallOK.ofB mixed tbOk Qs1 Tryz.func99 rfl (by kernel_rfl) (Nat.le_of_ble_eq_true rfl) rfl rfl rfl ?_;refine view (Qaw _ _) rfl ?_;refine Qaj h (fun o1 ho hk=>?_);refine Exists.intro (JP1 _ _ o1 (.exit 0) (Qn3 p0)) (And.intro (Qhe (τ := Qi6 p0 0 h0_0) ?_ (TL.loop (iQd5 p0 0 h0_0 o1 ho))) (Qa4 ?_))
  ·exact Le.tz 2 1 rfl rfl rfl
  have h:=hk;refine Exists.intro _ (And.intro (Le.refl _ _ _) ?_);exact Qbb (t:=Qov) (ss:=fun o=>⟨[[.x 0 (o.length+1) (.sl 9 1 (o.map cStr))],[.fn (.func 99) [] [.ptr 0 0,.ptr 1 0]]],[(o.length+1)]⟩) h ⟨[0],rfl,.refl _,.refl _,rfl⟩
 ·intro Qdt' Qd5' iQdt iQd5 p0 v8 h0_0_ o1 h;refine TL.round (Qar mixed tbOk (lv:=Qs1) _ _ _ ?_);refine Qac h (fun hb h=>?_) (fun hb h=>?_)
  ·refine Qa8 (l:=p0) (c:=Qaa) (c' := Qa2) h Qao (fun _=>rfl) (by decide) (fun x2 hi h=>?_);refine Qaj h (fun o3 ho hk=>?_);refine Exists.intro (JP1 _ _ o3 .normal (Qyl p0 v8 x2)) (And.intro ?_ (Qa4 ?_))
   ·have h:=ho;refine Qac h (fun hb h=>?_) (fun hb h=>?_)
    ·refine Qaml (a:=h0_0_) (b:=[x2.Name]) (c:=cStr) h (.refl _) (fun _=>rfl) rfl rfl (Nat.zero_lt_succ _) (fun x4 hi h=>?_);refine JP1.a h ?_;exact Le.tz 3 1 rfl rfl rfl
    ·refine JP1.a h ?_;exact Le.tz 3 1 rfl rfl rfl
   ·have h:=hk;refine Qaq _ _ h (fun x5 hy=>((iQdt x2.Then o3 x5 hy).fr [0,1] [0] rfl rfl rfl)) (fun x5 hy h=>?_);refine Qaq _ _ h (fun x6 hy=>((iQdt x2.Else x5 x6 hy).fr [0,1] [0] rfl rfl rfl)) (fun x6 hy h=>?_);refine TL.le (τ := Qi6 p0 (wr (v8+1)) x6) ?_ ((iQd5 p0 (wr (v8+1)) x6 _ h));exact Le.tz 2 1 rfl rfl rfl
  ·exact JP1.a h (Le.tz 2 1 rfl rfl rfl)
theorem Q2k:∀ (p0:(List Qab)) (h0_0:(List (List UInt8))) (o:(List (List UInt8))),Qdt p0 h0_0=some o→CallOK Tryz.prog 99 [.p (.sl false (p0.map Qaa)),.ptr 0 0,.ptr 1 0] ⟨[[.x 0 (h0_0.length+1) (.sl 9 1 (h0_0.map cStr))],[.fn (.func 99) [] [.ptr 0 0,.ptr 1 0]]],[(h0_0.length+1)]⟩ (Qov o) ⟨[[.x 0 (o.length+1) (.sl 9 1 (o.map cStr))],[.fn (.func 99) [] [.ptr 0 0,.ptr 1 0]]],[(o.length+1)]⟩:=fun p0 h0_0=>Qz2.1 p0 h0_0
def Qpx (p0:(List Qab)):Option ((List (List UInt8))) :=
 Qdt p0 []>>=fun x1 =>
 need (x1.length<4611686018427387904)>>=fun _ =>
 need ((srtL x1).length<4611686018427387904)>>=fun _ =>
 some (Lib.compact (srtL x1))
theorem Q84:∀ (p0:(List Qab)) (o:(List (List UInt8))),Qpx p0=some o→CallOK Tryz.prog 73 [.p (.sl false (p0.map Qaa))] ⟨[],[]⟩ (Qs0 o) ⟨[],[]⟩:=by
 intro p0 o h;unfold Qpx at h;refine CallOK.ofB mixed tbOk Q8h Tryz.func73 rfl (by kernel_rfl) (Nat.le_of_ble_eq_true rfl) rfl rfl rfl ?_;refine Exists.intro _ (And.intro (Le.xnil (.h 0 0) 9 1 rfl) ?_);refine Qaq _ _ h (fun x1 hy=>((Q2k p0 [] x1 hy).fr [0,1] [0] rfl rfl rfl)) (fun x1 hy h=>?_);refine Q0t h (fun hn0 h=>?_);refine Or.inl ?_;refine⟨rfl,rfl,_,false,x1,(srtL x1),_,rfl,rfl,Qanf  hn0 ,rfl,rfl,?_⟩;refine Q0t h (fun hn0 h=>?_);refine Or.inl ?_;refine⟨rfl,rfl,_,true,(srtL x1),(Lib.compact (srtL x1)),_,rfl,rfl,Qaj5  hn0 ,rfl,?_⟩;refine Exists.intro _ (And.intro (Le.trans (τ := ⟨[(2,.x 0 (((x1.length+1)+1)+1) (.sl 9 1 ((Lib.compact (srtL x1)).map cStr)))],⟨[],[(((x1.length+1)+1)+1)]⟩⟩) (Le.tz 0 1 rfl rfl rfl) (Le.trans (τ := ⟨[(2,.x 0 (((x1.length+1)+1)+1) (.sl 9 1 ((Lib.compact (srtL x1)).map cStr)))],⟨[],[(((x1.length+1)+1)+1)]⟩⟩) (Le.tz 0 1 rfl rfl rfl) ((Le.verh 2 0 (((x1.length+1)+1)+1) 1 rfl rfl rfl rfl).trans ((Le.frzv (.s 2) 0 1 rfl rfl rfl rfl).trans (Le.refl _ _ _))))) ?_);exact Qbb (t:=Qs0) (ss:=fun o=>⟨[],[]⟩) h ⟨[],rfl,.refl _,.refl _,rfl⟩
def Qdu (p0:(List Qae)) (v12:Int) (h1_0:(List ((List UInt8)×(List (List UInt8))))):Option (((List ((List UInt8)×(List (List UInt8)))))) :=
 if(decide (v12<(p0.length:Int))) then
  idx p0 v12>>=fun x2 =>
  if(!((mget (fun a b=>a==b) x2.Name h1_0).isSome)) then
   Qpx x2.L>>=fun x3 =>
   Qdu p0 (wr (v12+1)) (mset (fun a b=>a==b) x2.Name x3 h1_0)
  else
   Qdu p0 (wr (v12+1)) h1_0
 else
  some h1_0
 partial_fixpoint
theorem Qagi:∀ (p0:(List Qae)),(∀ (v12:Int) (h1_0:(List ((List UInt8)×(List (List UInt8))))) (o1:((List ((List UInt8)×(List (List UInt8)))))),Qdu p0 v12 h1_0=some o1→TL (0,0) Tryz.prog 35 Qzz (JP1 (0,0) 35 o1 (.exit 0) (Qpp p0)) (Qhk p0 v12 h1_0)):=by
 intro p0;refine Qdu.partial_correctness p0 _ ?_;intro Qdu' iQdu v12 h1_0 o1 h;refine TL.round (Qar mixed tbOk (lv:=Qvk) _ _ _ ?_);refine Qac h (fun hb h=>?_) (fun hb h=>?_)
 ·refine Qa8 (l:=p0) (c:=Qaf) (c' := Qaf) h (fun _=>rfl) (fun _=>rfl) (by decide) (fun x2 hi h=>?_);refine Qse (l:=h1_0) (k:=x2.Name) (fun a b=>a==b) (ck:=sV) (ca:=(fun x =>.sl false (x.map cStr))) (z0:=[]) (by exact rfl) (by exact rfl) (by exact rfl) (by exact fun _ _=>rfl) (by exact rfl) (by exact .not) ?_;refine Qac h (fun hb h=>?_) (fun hb h=>?_)
  ·refine And.intro (by decide +kernel) (And.intro (by decide +kernel) (And.intro rfl ?_));refine Qqk (fun x3=>(Qs0 x3).ren [] []) h (fun x3 hy=>(Q84 x2.L x3 hy).fd rfl rfl [] rfl rfl) (fun x3 hy h=>?_);refine Qabm (l:=h1_0) (k:=x2.Name) (x:=x3) (fun a b=>a==b) (ck:=sV) (ca:=(fun x =>.sl false (x.map cStr))) (by exact rfl) (by exact rfl) (by exact rfl) (by exact .refl _) (by exact fun _ _=>rfl) ?_;refine TL.le (τ := Qhk p0 (wr (v12+1)) (mset (fun a b=>a==b) x2.Name x3 h1_0)) ?_ ((iQdu (wr (v12+1)) (mset (fun a b=>a==b) x2.Name x3 h1_0) _ h));exact Le.tz 3 0 rfl rfl rfl
  ·refine TL.le (τ := Qhk p0 (wr (v12+1)) h1_0) ?_ ((iQdu (wr (v12+1)) h1_0 _ h));exact Le.tz 3 0 rfl rfl rfl
 ·exact JP1.a h (Le.tz 3 0 rfl rfl rfl)
def Qnm (p0:(List Qae)):Option ((List ((List UInt8)×(List (List UInt8))))) :=
 (Qdu p0 0 [])>>=fun o1 =>
 some o1
theorem Q4p:∀ (p0:(List Qae)) (o:(List ((List UInt8)×(List (List UInt8))))),Qnm p0=some o→CallOK Tryz.prog 40 [.p (.sl false (p0.map Qaf))] ⟨[],[]⟩ (Qw7 o) ⟨[[mpD sV (fun x =>.sl false (x.map cStr)) o]],[]⟩:=by
 intro p0 o h;unfold Qnm at h;refine CallOK.ofBN mixed tbOk Qvk Tryz.func40 rfl (by kernel_rfl) (Nat.le_of_ble_eq_true rfl) rfl rfl (Nat.le_of_ble_eq_true rfl) ?_;refine And.intro rfl (Exists.intro false ?_);refine view (Qaw _ _) rfl ?_;refine Qaj h (fun o1 ho hk=>?_);refine Exists.intro (JP1 _ _ o1 (.exit 0) (Qpp p0)) (And.intro (Qhe (τ := Qhk p0 0 []) ?_ (TL.loop (Qagi p0 0 [] o1 ho))) (Qa4 ?_))
 ·exact Le.tz 3 0 rfl rfl rfl
 have h:=hk;refine Exists.intro _ (And.intro (Le.refl _ _ _) ?_);refine Q1t (t:=Qw7) (ss:=fun o=>⟨[[mpD sV (fun x =>.sl false (x.map cStr)) o]],[]⟩) h ?_;exact⟨[1],[],rfl,rfl,.refl _,.refl _,rfl,rfl⟩
def Qkn (p0:(List Qae)):Option ((List UInt8)×Int) :=
 if(decide ((p0.length:Int)>16)) then
  some ([],5)
 else
  (Qer p0 0)>>=fun o1 =>
  match o1 with
  | .inl y2 =>
   Qnm p0>>=fun x10 =>
   (Qet p0 x10 0)>>=fun o11 =>
   match o11 with
   | .inl y12 =>
    (Qeu p0 x10 0)>>=fun o19 =>
    match o19 with
    | .inl y20 =>
     some ([],0)
    | .inr y21 =>
     some (y21,10)
   | .inr y13 =>
    some (y13,4)
  | .inr y3 =>
   some (y3.1,y3.2)
theorem Qvp:∀ (p0:(List Qae)) (o:(List UInt8)×Int),Qkn p0=some o→PCall Tryz.prog 13 [.sl false (p0.map Qaf)] (Qeh o):=by
 intro p0 o h;unfold Qkn at h;refine PCall.ofB mixed tbOk Qh0 Tryz.func13 rfl (by kernel_rfl) (Nat.le_of_ble_eq_true rfl) ?_;refine view (Qaw _ _) rfl ?_;refine Qac h (fun hb h=>?_) (fun hb h=>?_)
 ·refine Qas (t:=Qeh) h ?_;exact .refl _
 ·refine view (Qaw _ _) rfl ?_;refine Qaj h (fun o1 ho hk=>?_);refine Exists.intro (JP2 _ _ o1 (.exit 0) (Qph p0) .ret (Qpi p0)) (And.intro (Qhe (τ := Qkf p0 0) ?_ (TL.loop (Qage p0 0 o1 ho))) (Qfg (fun y2 hy=>?_) (fun y3 hy=>?_)))
  ·exact Le.tz 0 0 rfl rfl rfl
  ·have h:=(by rw[hy] at hk; exact hk);refine Qaq _ _ h (fun x10 hy=>((Q4p p0 x10 hy).frN [] [] rfl rfl rfl)) (fun x10 hy h=>?_);refine view (Qaw _ _) rfl ?_;refine Qaj h (fun o11 ho hk=>?_);refine Exists.intro (JP2 _ _ o11 (.exit 2) (Qpl p0 x10) .ret (Qpm p0 x10)) (And.intro (Qhe (τ := Qkh p0 x10 0) ?_ (TL.loop (Qagg p0 x10 0 o11 ho))) (Qfg (fun y12 hy=>?_) (fun y13 hy=>?_)))
   ·exact Le.tz 2 0 rfl rfl rfl
   ·have h:=(by rw[hy] at hk; exact hk);refine view (Qaw _ _) rfl ?_;refine Qaj h (fun o19 ho hk=>?_);refine Exists.intro (JP2 _ _ o19 (.exit 6) (Qpn p0 x10) .ret (Qpo p0 x10)) (And.intro (Qhe (τ := Qki p0 x10 0) ?_ (TL.loop (Qagh p0 x10 0 o19 ho))) (Qfg (fun y20 hy=>?_) (fun y21 hy=>?_)))
    ·exact Le.tz 2 0 rfl rfl rfl
    ·have h:=(by rw[hy] at hk; exact hk);refine Qas (t:=Qeh) h ?_;exact .refl _
    ·have h:=(by rw[hy] at hk; exact hk);refine Qas (t:=Qeh) h ?_;exact .refl _
   ·have h:=(by rw[hy] at hk; exact hk);refine Qas (t:=Qeh) h ?_;exact .refl _
  ·have h:=(by rw[hy] at hk; exact hk);refine Qas (t:=Qeh) h ?_;exact .refl _
mutual
def Qbi (p0:(List Qab)) (p1:Int) (p2:Int):Option ((List Qab)×Int) :=
 (Qcc p0 p1 p2 [] 0)>>=fun o1 =>
 some (o1.2,o1.1)
 partial_fixpoint
def Qcc (p0:(List Qab)) (p1:Int) (v2:Int) (v8:(List Qab)) (v9:Int):Option ((Int×(List Qab))) :=
 ( if(decide (v9<(p0.length:Int))) then
   if(decide (v2>0)) then
    some (decide (p1>0))
   else
    some false
  else
   some false:Option (Bool))>>=fun o2 =>
 if o2 then
  idx p0 v9>>=fun x3 =>
  cutL x3.Name 0 (if 40<(x3.Name.length:Int) then 40 else(x3.Name.length:Int))>>=fun x4 =>
  cutL x3.Text 0 (if 60<(x3.Text.length:Int) then 60 else(x3.Text.length:Int))>>=fun x5 =>
  Qbi x3.L (wr (p1-1)) (wr (v2-1))>>=fun x6 =>
  Qbi x3.Then (wr (p1-1)) x6.2>>=fun x7 =>
  Qbi x3.Else (wr (p1-1)) x7.2>>=fun x8 =>
  appL 120 v8 [(Qab.mk x3.Kind x4 x5 x3.N x6.1 x7.1 x8.1)]>>=fun x9 =>
  Qcc p0 p1 x8.2 x9 (wr (v9+1))
 else
  some (v2,v8)
 partial_fixpoint
end
theorem Qtg:(∀ (p0:(List Qab)) (p1:Int) (p2:Int) (o:(List Qab)×Int),Qbi p0 p1 p2=some o→PCall Tryz.prog 22 [.sl false (p0.map Qaa),iV p1,iV p2] (Qcl o))∧(∀ (p0:(List Qab)) (p1:Int) (v2:Int) (v8:(List Qab)) (v9:Int) (o1:(Int×(List Qab))),Qcc p0 p1 v2 v8 v9=some o1→TL (0,0) Tryz.prog 88 Qrt (JP1 (0,0) 88 o1 (.exit 0) (Qi9 p0 p1)) (Qfi p0 p1 v2 v8 v9)):=by
 refine Qbi.mutual_partial_correctness _ _ ?_ ?_
 ·intro Qcc' iQcc p0 p1 p2 o h;refine PCall.ofB mixed tbOk Qma Tryz.func22 rfl (by kernel_rfl) (Nat.le_of_ble_eq_true rfl) ?_;refine Qaj h (fun o1 ho hk=>?_);refine Exists.intro (JP1 _ _ o1 (.exit 0) (Qi9 p0 p1)) (And.intro (Qhe (τ := Qfi p0 p1 p2 [] 0) ?_ (TL.loop (iQcc p0 p1 p2 [] 0 o1 ho))) (Qa4 ?_))
  ·exact Le.trans (τ := ⟨[(0,.p (.sl false (p0.map Qaa))),(1,.p (iV p1)),(2,.p (iV p2)),(8,.p (.sl true [])),(9,.p (iV 0))],⟨[],[]⟩⟩) (Le.tz 0 0 rfl rfl rfl) ((Le.own 8 38 7 rfl Q1p).trans (Le.tz 0 1 rfl rfl rfl))
  have h:=hk;refine Qas (t:=Qcl) h ?_;exact .refl _
 ·intro Qbi' Qcc' iQbi iQcc p0 p1 v2 v8 v9 o1 h;refine TL.round (Qar mixed tbOk (lv:=Qma) _ _ _ ?_);refine Qaj h (fun o2 ho hk=>?_);refine Exists.intro (JP1 _ _ o2 .normal (Qrs p0 p1 v2 v8 v9)) (And.intro ?_ (Qa4 ?_))
  ·have h:=ho;refine view (Qaw _ _) rfl ?_;refine Qac h (fun hb h=>?_) (fun hb h=>?_)
   ·refine Qac h (fun hb h=>?_) (fun hb h=>?_)
    ·refine JP1.a h ?_;exact Le.tz 0 1 rfl rfl rfl
    ·refine JP1.a h ?_;exact Le.tz 0 1 rfl rfl rfl
   ·refine bF ?_;refine JP1.a h ?_;exact Le.tz 0 1 rfl rfl rfl
  ·have h:=hk;refine Qac h (fun hb h=>?_) (fun hb h=>?_)
   ·refine Qa8 (l:=p0) (c:=Qaa) (c' := Qa2) h Qao (fun _=>rfl) (by decide) (fun x3 hi h=>?_);refine And.intro (by decide +kernel) (And.intro rfl ?_);refine vrfl ?_;refine Qi3 none (some (if 40<(x3.Name.length:Int) then 40 else(x3.Name.length:Int))) h (fun x4 hi h=>?_);refine vrfl ?_;refine Qi3 none (some (if 60<(x3.Text.length:Int) then 60 else(x3.Text.length:Int))) h (fun x5 hi h=>?_);refine Qan [.sl false (x3.L.map Qaa),iV (wr (p1-1)),iV (wr (v2-1))] Qcl h (fun x6 hy=>(iQbi x3.L (wr (p1-1)) (wr (v2-1)) x6 hy)) (fun x6 hy h=>?_);refine Qan [.sl false (x3.Then.map Qaa),iV (wr (p1-1)),iV x6.2] Qcl h (fun x7 hy=>(iQbi x3.Then (wr (p1-1)) x6.2 x7 hy)) (fun x7 hy h=>?_);refine Qan [.sl false (x3.Else.map Qaa),iV (wr (p1-1)),iV x7.2] Qcl h (fun x8 hy=>(iQbi x3.Else (wr (p1-1)) x7.2 x8 hy)) (fun x8 hy h=>?_);refine Qi4 (a:=v8) (b:=[(Qab.mk x3.Kind x4 x5 x3.N x6.1 x7.1 x8.1)]) (c:=Qaa) h (.cons (.ceq (Qao _) (.refl _)) (.nil)) (fun x=>by rw[Qao]; rfl) rfl (fun x9 hi h=>?_);refine TL.le (τ := Qfi p0 p1 x8.2 x9 (wr (v9+1))) ?_ ((iQcc p0 p1 x8.2 x9 (wr (v9+1)) _ h));exact Le.tz 0 1 rfl rfl rfl
   ·exact JP1.a h (Le.tz 0 1 rfl rfl rfl)
theorem Quv:∀ (p0:(List Qab)) (p1:Int) (p2:Int) (o:(List Qab)×Int),Qbi p0 p1 p2=some o→PCall Tryz.prog 22 [.sl false (p0.map Qaa),iV p1,iV p2] (Qcl o):=fun p0 p1 p2=>Qtg.1 p0 p1 p2
def Qcu (p0:(List Qae)) (p1:Int) (v5:(List Qae)) (v6:Int):Option ((List Qae)) :=
 ( if(decide (v6<(p0.length:Int))) then
   some (decide (v6<p1))
  else
   some false:Option (Bool))>>=fun o2 =>
 if o2 then
  idx p0 v6>>=fun x3 =>
  Qbi x3.L 14 40>>=fun x4 =>
  idx p0 v6>>=fun x5 =>
  idx p0 v6>>=fun x6 =>
  cutL x5.Name 0 (if 40<(x6.Name.length:Int) then 40 else(x6.Name.length:Int))>>=fun x7 =>
  appL 40 v5 [(Qae.mk x7 x4.1)]>>=fun x8 =>
  Qcu p0 p1 x8 (wr (v6+1))
 else
  some v5
 partial_fixpoint
theorem Q9v:∀ (p0:(List Qae)) (p1:Int),(∀ (v5:(List Qae)) (v6:Int) (o1:(List Qae)),Qcu p0 p1 v5 v6=some o1→TL (0,0) Tryz.prog 49 Qur (JP1 (0,0) 49 o1 (.exit 0) (Qlg p0 p1)) (Qgn p0 p1 v5 v6)):=by
 intro p0 p1;refine Qcu.partial_correctness p0 p1 _ ?_;intro Qcu' iQcu v5 v6 o1 h;refine TL.round (Qar mixed tbOk (lv:=Qn4) _ _ _ ?_);refine Qaj h (fun o2 ho hk=>?_);refine Exists.intro (JP1 _ _ o2 .normal (Quq p0 p1 v5 v6)) (And.intro ?_ (Qa4 ?_))
 ·have h:=ho;refine view (Qaw _ _) rfl ?_;refine Qac h (fun hb h=>?_) (fun hb h=>?_)
  ·refine JP1.a h ?_;exact Le.tz 0 1 rfl rfl rfl
  ·refine JP1.a h ?_;exact Le.tz 0 1 rfl rfl rfl
 ·have h:=hk;refine Qac h (fun hb h=>?_) (fun hb h=>?_)
  ·refine Qa8 (l:=p0) (c:=Qaf) (c' := Qaf) h (fun _=>rfl) (fun _=>rfl) (by decide) (fun x3 hi h=>?_);refine Qan [.sl false (x3.L.map Qaa),iV 14,iV 40] Qcl h (fun x4 hy=>(Quv x3.L 14 40 x4 hy)) (fun x4 hy h=>?_);refine And.intro (by decide +kernel) (And.intro rfl ?_);refine Qa8 (l:=p0) (c:=Qaf) (c' := Qaf) h (fun _=>rfl) (fun _=>rfl) (by decide) (fun x5 hi h=>?_);refine Qa8 (l:=p0) (c:=Qaf) (c' := Qaf) h (fun _=>rfl) (fun _=>rfl) (by decide) (fun x6 hi h=>?_);refine vrfl ?_;refine Qi3 none (some (if 40<(x6.Name.length:Int) then 40 else(x6.Name.length:Int))) h (fun x7 hi h=>?_);refine Qi4 (a:=v5) (b:=[(Qae.mk x7 x4.1)]) (c:=Qaf) h (.refl _) (fun _=>rfl) rfl (fun x8 hi h=>?_);refine TL.le (τ := Qgn p0 p1 x8 (wr (v6+1))) ?_ ((iQcu x8 (wr (v6+1)) _ h));exact Le.tz 0 1 rfl rfl rfl
  ·exact JP1.a h (Le.tz 0 1 rfl rfl rfl)
def Qg2 (p0:(List Qae)) (p1:Int):Option ((List Qae)) :=
 (Qcu p0 p1 [] 0)>>=fun o1 =>
 some o1
theorem Qxe:∀ (p0:(List Qae)) (p1:Int) (o:(List Qae)),Qg2 p0 p1=some o→PCall Tryz.prog 12 [.sl false (p0.map Qaf),iV p1] (Qkj o):=by
 intro p0 p1 o h;unfold Qg2 at h;refine PCall.ofB mixed tbOk Qn4 Tryz.func12 rfl (by kernel_rfl) (Nat.le_of_ble_eq_true rfl) ?_;refine Qaj h (fun o1 ho hk=>?_);refine Exists.intro (JP1 _ _ o1 (.exit 0) (Qlg p0 p1)) (And.intro (Qhe (τ := Qgn p0 p1 [] 0) ?_ (TL.loop (Q9v p0 p1 [] 0 o1 ho))) (Qa4 ?_))
 ·exact Le.trans (τ := ⟨[(0,.p (.sl false (p0.map Qaf))),(1,.p (iV p1)),(5,.p (.sl true [])),(6,.p (iV 0))],⟨[],[]⟩⟩) (Le.tz 0 0 rfl rfl rfl) ((Le.own 5 56 2 rfl Q1p).trans (Le.tz 0 1 rfl rfl rfl))
 have h:=hk;refine Qas (t:=Qkj) h ?_;exact .refl _
end Go.Proofs.YtfgegilhjlnohaaGreat
end
