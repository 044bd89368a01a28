/- The proof's texts, part 9 of 13: the walks by a logic in which data are by value, the plain laws, and at the end the law, for every input. -/
import Derived.Test.YtfgegilhjlnohaaGreatMgSecrecyFree8

noncomputable section
set_option linter.unusedVariables false
set_option linter.unusedSimpArgs false
set_option maxRecDepth 100000
set_option maxHeartbeats 4000000
namespace Go.Proofs.YtfgegilhjlnohaaGreat
open Go.RowKit
def Q5m (p0:(List (List UInt8))) (p1:(List UInt8)):Option (Bool) :=
 (Qnk p0 p1 0)>>=fun o1 =>
 match o1 with
 | .inl y2 =>
  some false
 | .inr y3 =>
  some true
theorem Qabl:∀ (p0:(List (List UInt8))) (p1:(List UInt8)) (o:Bool),Q5m p0 p1=some o→PCall Tryz.prog 21 [.sl false (p0.map cStr),sV p1] (Qws o):=by
 intro p0 p1 o h;unfold Q5m at h;refine PCall.ofB mixed tbOk Qaa6 Tryz.func21 rfl (by kernel_rfl) (Nat.le_of_ble_eq_true rfl) ?_;refine Qaj h (fun o1 ho hk=>?_);refine Exists.intro (JP2 _ _ o1 (.exit 0) (Qyw p0 p1) .ret (Qyx p0 p1)) (And.intro (Qhn (τ := Qsq p0 p1 0) ?_ (TL.loop (Qalq p0 p1 0 o1 ho))) (Qfx (fun y2 hy=>?_) (fun y3 hy=>?_)))
 ·exact Le.tz 0 0 rfl rfl rfl
 ·have h:=(by rw[hy] at hk; exact hk);refine Qar (t:=Qws) h ?_;exact .refl _
 ·have h:=(by rw[hy] at hk; exact hk);refine Qar (t:=Qws) h ?_;exact .refl _
def Qie (p0:(List (List UInt8))) (p1:(List UInt8)) (v5:Int):Option (Int) :=
 ( if(decide (v5<(p0.length:Int))) then
   idx p0 v5>>=fun x4 =>
   some (Op.bytesLess x4 p1)
  else
   some false:Option (Bool))>>=fun o3 =>
 if o3 then
  Qie p0 p1 (wr (v5+1))
 else
  some v5
 partial_fixpoint
theorem Qajj:∀ (p0:(List (List UInt8))) (p1:(List UInt8)),(∀ (v5:Int) (o2:Int),Qie p0 p1 v5=some o2→TL (0,1) Tryz.prog 36 Q7t (JP1 (0,1) 36 o2 (.exit 0) (Qu9 p0 p1)) (Qou p0 p1 v5)):=by
 intro p0 p1;refine Qie.partial_correctness p0 p1 _ ?_;intro Qie' iQie v5 o2 h;refine TL.round (Qaq mixed tbOk (lv:=Q1p) _ _ _ ?_);refine Qaj h (fun o3 ho hk=>?_);refine Exists.intro (JP1 _ _ o3 .normal (Q7s p0 p1 v5)) (And.intro ?_ (Qa5 ?_))
 ·have h:=ho;refine view (Qax _ _) rfl ?_;refine Qac h (fun hb h=>?_) (fun hb h=>?_)
  ·refine Qa7 (l:=p0) (c:=cStr) (c' := cStr) h (fun _=>rfl) (fun _=>rfl) (by decide) (fun x4 hi h=>?_);refine JP1.a h ?_;exact Le.tz 0 1 rfl rfl rfl
  ·refine JP1.a h ?_;exact Le.tz 0 1 rfl rfl rfl
 ·have h:=hk;refine Qac h (fun hb h=>?_) (fun hb h=>?_)
  ·refine TL.le (τ := Qou p0 p1 (wr (v5+1))) ?_ ((iQie (wr (v5+1)) _ h));exact Le.tz 0 1 rfl rfl rfl
  ·exact JP1.a h (Le.tz 0 1 rfl rfl rfl)
def Qqm (p0:(List (List UInt8))) (p1:(List UInt8)):Option ((List (List UInt8))) :=
 Q5m p0 p1>>=fun x1 =>
 if x1 then
  some p0
 else
  (Qie p0 p1 0)>>=fun o2 =>
  cutL p0 0 o2>>=fun x5 =>
  appL 16 [] x5>>=fun x6 =>
  appL 16 x6 [p1]>>=fun x7 =>
  cutL p0 o2 (p0.length:Int)>>=fun x8 =>
  appL 16 x7 x8>>=fun x9 =>
  need (((p0.map cStr).length)<((x9.map cStr).length))>>=fun _ =>
  some x9
theorem Qvu:∀ (p0:(List (List UInt8))) (p1:(List UInt8)) (o:(List (List UInt8))),Qqm p0 p1=some o→CallOK Tryz.prog 55 [.own 0 9 1 (p0.map cStr),.p (sV p1)] ⟨[],[(p0.map cStr).length]⟩ (Qx8 o) ⟨[],[(o.map cStr).length]⟩:=by
 intro p0 p1 o h;unfold Qqm at h;refine CallOK.ofBN mixed tbOk Q1p Tryz.func55 rfl (by kernel_rfl) (Nat.le_of_ble_eq_true rfl) rfl rfl (Nat.le_of_ble_eq_true rfl) ?_;refine Qam [.sl false (p0.map cStr),sV p1] Qws h (fun x1 hy=>(Qabl p0 p1 x1 hy)) (fun x1 hy h=>?_);refine Qac h (fun hb h=>?_) (fun hb h=>?_)
 ·refine Exists.intro _ (And.intro (Le.refl _ _ _) ?_);exact Q1g (t:=Qx8) (ss:=fun o=>⟨[],[(o.map cStr).length]⟩) h ⟨[],[0],rfl,rfl,.refl _,.refl _,rfl,rfl⟩
 ·refine Qaj h (fun o2 ho hk=>?_);refine Exists.intro (JP1 _ _ o2 (.exit 0) (Qu9 p0 p1)) (And.intro (Qhn (τ := Qou p0 p1 0) ?_ (TL.loop (Qajj p0 p1 0 o2 ho))) (Qa5 ?_))
  ·exact Le.tz 0 1 rfl rfl rfl
  have h:=hk;refine And.intro (by decide +kernel) (And.intro rfl ?_);refine Qae8 (full:=false) (c:=cStr) none (some o2) h (fun _=>rfl) (fun x5 hi h=>?_);refine Qaiv (a:=([]:List (List UInt8))) (b:=x5) (c:=cStr) h (.refl _) (.refl _) (fun _=>rfl) (.inl rfl) (fun x6 hi h=>?_);refine Qlv (a:=x6) (b:=[p1]) (c:=cStr) h (.refl _) (fun _=>rfl) rfl (fun x7 hi h=>?_);refine Qae8 (full:=false) (c:=cStr) (some o2) none h (fun _=>rfl) (fun x8 hi h=>?_);refine Qlv (a:=x7) (b:=x8) (c:=cStr) h (.refl _) (fun _=>rfl) rfl (fun x9 hi h=>?_);refine Q0e h (fun hn h=>?_);refine Exists.intro _ (And.intro ((Le.into 4 0 0 1 _ _ rfl rfl rfl rfl rfl hn (by decide)).trans (Le.refl _ _ _)) ?_);exact Q1g (t:=Qx8) (ss:=fun o=>⟨[],[(o.map cStr).length]⟩) h ⟨[],[0],rfl,rfl,.refl _,.refl _,rfl,rfl⟩
def Qgu (p0:(List Qab)) (v4:Int) (x9:(List (List UInt8))) (x10:(List (List UInt8))) (v3_:(List (List UInt8))) (v6:Int):Option ((List (List UInt8))) :=
 if(decide (v6<(x10.length:Int))) then
  idx x10 v6>>=fun x12 =>
  Qqm v3_ x12>>=fun x13 =>
  Qgu p0 v4 x9 x10 x13 (wr (v6+1))
 else
  some v3_
 partial_fixpoint
theorem Qajk:∀ (p0:(List Qab)) (v4:Int) (x9:(List (List UInt8))) (x10:(List (List UInt8))),(∀ (v3_:(List (List UInt8))) (v6:Int) (o11:(List (List UInt8))),Qgu p0 v4 x9 x10 v3_ v6=some o11→TL (0,0) Tryz.prog 53 Q7q (JP1 (0,0) 53 o11 (.exit 2) (Qu7 p0 v4 x9 x10)) (Qos p0 v4 x9 x10 v3_ v6)):=by
 intro p0 v4 x9 x10;refine Qgu.partial_correctness p0 v4 x9 x10 _ ?_;intro Qgu' iQgu v3_ v6 o11 h;refine TL.round (Qaq mixed tbOk (lv:=Qvq) _ _ _ ?_);refine view (Qax _ _) rfl ?_;refine Qac h (fun hb h=>?_) (fun hb h=>?_)
 ·refine Qa7 (l:=x10) (c:=cStr) (c' := cStr) h (fun _=>rfl) (fun _=>rfl) (by decide) (fun x12 hi h=>?_);refine Or.inr ?_;refine Q6v _ _ h (fun x13 hy=>((Qvu v3_ x12 x13 hy).fr [] [0] rfl rfl rfl)) (fun x13 hy h=>?_);refine TL.le (τ := Qos p0 v4 x9 x10 x13 (wr (v6+1))) ?_ ((iQgu x13 (wr (v6+1)) _ h));exact Le.tz 0 3 rfl rfl rfl
 ·exact JP1.a h (Le.tz 0 3 rfl rfl rfl)
mutual
def Qe1 (p0:(List Qab)):Option ((List (List UInt8))) :=
 (Qgv p0 [] 0)>>=fun o1 =>
 some o1
 partial_fixpoint
def Qgv (p0:(List Qab)) (v3:(List (List UInt8))) (v4:Int):Option ((List (List UInt8))) :=
 if(decide (v4<(p0.length:Int))) then
  ( idx p0 v4>>=fun x3 =>
   if(x3.Kind==13) then
    idx p0 v4>>=fun x4 =>
    Qqm v3 x4.Name>>=fun x5 =>
    some x5
   else
    some v3:Option ((List (List UInt8))))>>=fun o2 =>
  idx p0 v4>>=fun x6 =>
  Qe1 x6.Then>>=fun x7 =>
  idx p0 v4>>=fun x8 =>
  Qe1 x8.Else>>=fun x9 =>
  appL 16 x7 x9>>=fun x10 =>
  (Qgu p0 v4 x9 x10 o2 0)>>=fun o11 =>
  Qgv p0 o11 (wr (v4+1))
 else
  some v3
 partial_fixpoint
end
theorem Qabm:(∀ (p0:(List Qab)) (o:(List (List UInt8))),Qe1 p0=some o→CallOK Tryz.prog 45 [.p (.sl false (p0.map Qaa))] ⟨[],[]⟩ (Qx7 o) ⟨[],[(o.map cStr).length]⟩)∧(∀ (p0:(List Qab)) (v3:(List (List UInt8))) (v4:Int) (o1:(List (List UInt8))),Qgv p0 v3 v4=some o1→TL (0,0) Tryz.prog 53 Q7r (JP1 (0,0) 53 o1 (.exit 0) (Qu8 p0)) (Qot p0 v3 v4)):=by
 refine Qe1.mutual_partial_correctness _ _ ?_ ?_
 ·intro Qgv' iQgv p0 o h;refine CallOK.ofBN mixed tbOk Qvq Tryz.func45 rfl (by kernel_rfl) (Nat.le_of_ble_eq_true rfl) rfl rfl (Nat.le_of_ble_eq_true rfl) ?_;refine Qaj h (fun o1 ho hk=>?_);refine Exists.intro (JP1 _ _ o1 (.exit 0) (Qu8 p0)) (And.intro (Qhn (τ := Qot p0 [] 0) ?_ (TL.loop (iQgv p0 [] 0 o1 ho))) (Qa5 ?_))
  ·exact Le.trans (τ := ⟨[(0,.p (.sl false (p0.map Qaa))),(3,.p (.sl true [])),(4,.p (iV 0))],⟨[],[]⟩⟩) (Le.tz 0 0 rfl rfl rfl) ((Le.own 3 9 1 rfl Q1c).trans (Le.tz 0 1 rfl rfl rfl))
  have h:=hk;refine Exists.intro _ (And.intro (Le.refl _ _ _) ?_);exact Q1g (t:=Qx7) (ss:=fun o=>⟨[],[(o.map cStr).length]⟩) h ⟨[],[0],rfl,rfl,.refl _,.refl _,rfl,rfl⟩
 ·intro Qe1' Qgv' iQe1 iQgv p0 v3 v4 o1 h;refine TL.round (Qaq mixed tbOk (lv:=Qvq) _ _ _ ?_);refine view (Qax _ _) rfl ?_;refine Qac h (fun hb h=>?_) (fun hb h=>?_)
  ·refine Qaj h (fun o2 ho hk=>?_);refine Exists.intro (JP1 _ _ o2 .normal (Q7p p0 v4)) (And.intro ?_ (Qa5 ?_))
   ·have h:=ho;refine Qa7 (l:=p0) (c:=Qaa) (c' := Qa2) h Qan (fun _=>rfl) (by decide) (fun x3 hi h=>?_);refine Qac h (fun hb h=>?_) (fun hb h=>?_)
    ·refine Qa7 (l:=p0) (c:=Qaa) (c' := Qa2) h Qan (fun _=>rfl) (by decide) (fun x4 hi h=>?_);refine Or.inr ?_;refine Q6v _ _ h (fun x5 hy=>((Qvu v3 x4.Name x5 hy).fr [] [0] rfl rfl rfl)) (fun x5 hy h=>?_);refine JP1.a h ?_;exact Le.tz 0 1 rfl rfl rfl
    ·refine JP1.a h ?_;exact Le.tz 0 1 rfl rfl rfl
   ·have h:=hk;refine And.intro (by decide +kernel) (And.intro rfl ?_);refine Qa7 (l:=p0) (c:=Qaa) (c' := Qa2) h Qan (fun _=>rfl) (by decide) (fun x6 hi h=>?_);refine Q6t _ _ h (fun x7 hy=>((iQe1 x6.Then x7 hy).ft rfl [] rfl rfl rfl)) (fun x7 hy h=>?_);refine Qa7 (l:=p0) (c:=Qaa) (c' := Qa2) h Qan (fun _=>rfl) (by decide) (fun x8 hi h=>?_);refine Q6t _ _ h (fun x9 hy=>((iQe1 x8.Else x9 hy).ft rfl [] rfl rfl rfl)) (fun x9 hy h=>?_);refine Qlv (a:=x7) (b:=x9) (c:=cStr) h (.refl _) (fun _=>rfl) rfl (fun x10 hi h=>?_);refine Qaj h (fun o11 ho hk=>?_);refine Exists.intro (JP1 _ _ o11 (.exit 2) (Qu7 p0 v4 x9 x10)) (And.intro (Qhn (τ := Qos p0 v4 x9 x10 o2 0) ?_ (TL.loop (Qajk p0 v4 x9 x10 o2 0 o11 ho))) (Qa5 ?_))
    ·exact Le.tz 0 3 rfl rfl rfl
    have h:=hk;refine TL.le (τ := Qot p0 o11 (wr (v4+1))) ?_ ((iQgv p0 o11 (wr (v4+1)) _ h));exact Le.tz 0 1 rfl rfl rfl
  ·exact JP1.a h (Le.tz 0 1 rfl rfl rfl)
theorem Qvv:∀ (p0:(List Qab)) (o:(List (List UInt8))),Qe1 p0=some o→CallOK Tryz.prog 45 [.p (.sl false (p0.map Qaa))] ⟨[],[]⟩ (Qx7 o) ⟨[],[(o.map cStr).length]⟩:=fun p0=>Qabm.1 p0
def Qgw (p0:(List Qae)) (v7:Int):Option (Unit⊕(List UInt8)) :=
 if(decide (v7<(p0.length:Int))) then
  idx p0 v7>>=fun x17 =>
  Qe1 x17.L>>=fun x18 =>
  (Qgt p0 v7 x18 0)>>=fun o19 =>
  match o19 with
  | .inl y20 =>
   Qgw p0 (wr (v7+1))
  | .inr y21 =>
   some (.inr y21)
 else
  some (.inl ())
 partial_fixpoint
theorem Qahf:∀ (p0:(List Qae)),(∀ (v7:Int) (o14:Unit⊕(List UInt8)),Qgw p0 v7=some o14→TL (0,0) Tryz.prog 119 Q3m (JP2 (0,0) 119 o14 (.exit 2) (Qsm p0) .ret (Qsn p0)) (Qm7 p0 v7)):=by
 intro p0;refine Qgw.partial_correctness p0 _ ?_;intro Qgw' iQgw v7 o14 h;refine TL.round (Qaq mixed tbOk (lv:=Qle) _ _ _ ?_);refine view (Qax _ _) rfl ?_;refine Qac h (fun hb h=>?_) (fun hb h=>?_)
 ·refine Qa7 (l:=p0) (c:=Qaf) (c' := Qaf) h (fun _=>rfl) (fun _=>rfl) (by decide) (fun x17 hi h=>?_);refine Qap _ _ h (fun x18 hy=>((Qvv x17.L x18 hy).fr [] [] rfl rfl rfl)) (fun x18 hy h=>?_);refine Qaj h (fun o19 ho hk=>?_);refine Exists.intro (JP2 _ _ o19 (.exit 4) (Qsk p0 v7 x18) .ret (Qsl p0 v7 x18)) (And.intro (Qhn (τ := Qm6 p0 v7 x18 0) ?_ (TL.loop (Qahe p0 v7 x18 0 o19 ho))) (Qfx (fun y20 hy=>?_) (fun y21 hy=>?_)))
  ·exact Le.tz 0 1 rfl rfl rfl
  ·have h:=(by rw[hy] at hk; exact hk);refine TL.le (τ := Qm7 p0 (wr (v7+1))) ?_ ((iQgw (wr (v7+1)) _ h));exact Le.tz 0 0 rfl rfl rfl
  ·have h:=(by rw[hy] at hk; exact hk);exact JP2.b h (Le.tz 0 0 rfl rfl rfl)
 ·exact JP2.a h (Le.tz 0 0 rfl rfl rfl)
def Qgx (p0:(List Qae)) (v7:(List (List UInt8))) (v8:Int) (v10:Int) (x7:(List (List UInt8))) (v7__:(List (List UInt8))) (v14:Int):Option ((List (List UInt8))) :=
 if(decide (v14<(x7.length:Int))) then
  idx x7 v14>>=fun x9 =>
  Qqm v7__ x9>>=fun x10 =>
  Qgx p0 v7 v8 v10 x7 x10 (wr (v14+1))
 else
  some v7__
 partial_fixpoint
theorem Qahg:∀ (p0:(List Qae)) (v7:(List (List UInt8))) (v8:Int) (v10:Int) (x7:(List (List UInt8))),(∀ (v7__:(List (List UInt8))) (v14:Int) (o8:(List (List UInt8))),Qgx p0 v7 v8 v10 x7 v7__ v14=some o8→TL (0,0) Tryz.prog 60 Q3o (JP1 (0,0) 60 o8 (.exit 4) (Qsr p0 v7 v8 v10 x7)) (Qm9 p0 v7 v8 v10 x7 v7__ v14)):=by
 intro p0 v7 v8 v10 x7;refine Qgx.partial_correctness p0 v7 v8 v10 x7 _ ?_;intro Qgx' iQgx v7__ v14 o8 h;refine TL.round (Qaq mixed tbOk (lv:=Qn2) _ _ _ ?_);refine view (Qax _ _) rfl ?_;refine Qac h (fun hb h=>?_) (fun hb h=>?_)
 ·refine Qa7 (l:=x7) (c:=cStr) (c' := cStr) h (fun _=>rfl) (fun _=>rfl) (by decide) (fun x9 hi h=>?_);refine Or.inr ?_;refine Q6v _ _ h (fun x10 hy=>((Qvu v7__ x9 x10 hy).fr [] [0] rfl rfl rfl)) (fun x10 hy h=>?_);refine TL.le (τ := Qm9 p0 v7 v8 v10 x7 x10 (wr (v14+1))) ?_ ((iQgx x10 (wr (v14+1)) _ h));exact Le.tz 0 2 rfl rfl rfl
 ·exact JP1.a h (Le.tz 0 2 rfl rfl rfl)
def Qgy (p0:(List Qae)) (v7:(List (List UInt8))) (v8:Int) (v7_:(List (List UInt8))) (v10:Int):Option ((List (List UInt8))) :=
 if(decide (v10<(v7.length:Int))) then
  idx v7 v10>>=fun x5 =>
  Qjc p0 x5>>=fun x6 =>
  Qe1 x6.1>>=fun x7 =>
  (Qgx p0 v7 v8 v10 x7 v7_ 0)>>=fun o8 =>
  Qgy p0 v7 v8 o8 (wr (v10+1))
 else
  some v7_
 partial_fixpoint
theorem Qahh:∀ (p0:(List Qae)) (v7:(List (List UInt8))) (v8:Int),(∀ (v7_:(List (List UInt8))) (v10:Int) (o4:(List (List UInt8))),Qgy p0 v7 v8 v7_ v10=some o4→TL (0,0) Tryz.prog 60 Q3p (JP1 (0,0) 60 o4 (.exit 2) (Qss p0 v7 v8)) (Qna p0 v7 v8 v7_ v10)):=by
 intro p0 v7 v8;refine Qgy.partial_correctness p0 v7 v8 _ ?_;intro Qgy' iQgy v7_ v10 o4 h;refine TL.round (Qaq mixed tbOk (lv:=Qn2) _ _ _ ?_);refine view (Qax _ _) rfl ?_;refine Qac h (fun hb h=>?_) (fun hb h=>?_)
 ·refine Qa7 (l:=v7) (c:=cStr) (c' := cStr) h (fun _=>rfl) (fun _=>rfl) (by decide) (fun x5 hi h=>?_);refine Qam [.sl false (p0.map Qaf),sV x5] Qf8 h (fun x6 hy=>(Qid p0 x5 x6 hy)) (fun x6 hy h=>?_);refine Qap _ _ h (fun x7 hy=>((Qvv x6.1 x7 hy).fr [] [] rfl rfl rfl)) (fun x7 hy h=>?_);refine Qaj h (fun o8 ho hk=>?_);refine Exists.intro (JP1 _ _ o8 (.exit 4) (Qsr p0 v7 v8 v10 x7)) (And.intro (Qhn (τ := Qm9 p0 v7 v8 v10 x7 v7_ 0) ?_ (TL.loop (Qahg p0 v7 v8 v10 x7 v7_ 0 o8 ho))) (Qa5 ?_))
  ·exact Le.tz 0 2 rfl rfl rfl
  have h:=hk;refine TL.le (τ := Qna p0 v7 v8 o8 (wr (v10+1))) ?_ ((iQgy o8 (wr (v10+1)) _ h));exact Le.tz 0 1 rfl rfl rfl
 ·exact JP1.a h (Le.tz 0 1 rfl rfl rfl)
def Qgz (p0:(List Qae)) (v7:(List (List UInt8))) (v8:Int):Option ((List (List UInt8))) :=
 if(decide (v8<(p0.length:Int))) then
  (Qgy p0 v7 v8 v7 0)>>=fun o4 =>
  Qgz p0 o4 (wr (v8+1))
 else
  some v7
 partial_fixpoint
theorem Qahi:∀ (p0:(List Qae)),(∀ (v7:(List (List UInt8))) (v8:Int) (o3:(List (List UInt8))),Qgz p0 v7 v8=some o3→TL (0,0) Tryz.prog 60 Q3q (JP1 (0,0) 60 o3 (.exit 0) (Qst p0)) (Qnb p0 v7 v8)):=by
 intro p0;refine Qgz.partial_correctness p0 _ ?_;intro Qgz' iQgz v7 v8 o3 h;refine TL.round (Qaq mixed tbOk (lv:=Qn2) _ _ _ ?_);refine view (Qax _ _) rfl ?_;refine Qac h (fun hb h=>?_) (fun hb h=>?_)
 ·refine Qaj h (fun o4 ho hk=>?_);refine Exists.intro (JP1 _ _ o4 (.exit 2) (Qss p0 v7 v8)) (And.intro (Qhn (τ := Qna p0 v7 v8 v7 0) ?_ (TL.loop (Qahh p0 v7 v8 v7 0 o4 ho))) (Qa5 ?_))
  ·exact Le.tow 0 1 rfl (.cons rfl (.refl _) (.cons rfl (.refl _) (.cons rfl (.refl _) (.cons rfl (.drop rfl (.refl _)) (.cons rfl (.refl _) (.nil)))))) (.refl _) rfl
  have h:=hk;refine TL.le (τ := Qnb p0 o4 (wr (v8+1))) ?_ ((iQgz o4 (wr (v8+1)) _ h));exact Le.tz 0 1 rfl rfl rfl
 ·exact JP1.a h (Le.tz 0 1 rfl rfl rfl)
def Qs6 (p0:(List Qae)) (p1:(List UInt8)):Option ((List (List UInt8))) :=
 Qjc p0 p1>>=fun x1 =>
 Qe1 x1.1>>=fun x2 =>
 (Qgz p0 x2 0)>>=fun o3 =>
 some o3
theorem Qabn:∀ (p0:(List Qae)) (p1:(List UInt8)) (o:(List (List UInt8))),Qs6 p0 p1=some o→CallOK Tryz.prog 46 [.p (.sl false (p0.map Qaf)),.p (sV p1)] ⟨[],[]⟩ (Q1o o) ⟨[],[(o.map cStr).length]⟩:=by
 intro p0 p1 o h;unfold Qs6 at h;refine CallOK.ofBN mixed tbOk Qn2 Tryz.func46 rfl (by kernel_rfl) (Nat.le_of_ble_eq_true rfl) rfl rfl (Nat.le_of_ble_eq_true rfl) ?_;refine Qam [.sl false (p0.map Qaf),sV p1] Qf8 h (fun x1 hy=>(Qid p0 p1 x1 hy)) (fun x1 hy h=>?_);refine Qap _ _ h (fun x2 hy=>((Qvv x1.1 x2 hy).fr [] [] rfl rfl rfl)) (fun x2 hy h=>?_);refine Qaj h (fun o3 ho hk=>?_);refine Exists.intro (JP1 _ _ o3 (.exit 0) (Qst p0)) (And.intro (Qhn (τ := Qnb p0 x2 0) ?_ (TL.loop (Qahi p0 x2 0 o3 ho))) (Qa5 ?_))
 ·exact Le.tz 0 1 rfl rfl rfl
 have h:=hk;refine Exists.intro _ (And.intro (Le.refl _ _ _) ?_);exact Q1g (t:=Q1o) (ss:=fun o=>⟨[],[(o.map cStr).length]⟩) h ⟨[],[0],rfl,rfl,.refl _,.refl _,rfl,rfl⟩
def Qg0 (p0:(List Qae)) (v12:Int):Option (Unit⊕(List UInt8)) :=
 if(decide (v12<(p0.length:Int))) then
  idx p0 v12>>=fun x28 =>
  Qs6 p0 x28.Name>>=fun x29 =>
  idx p0 v12>>=fun x30 =>
  Q5m x29 x30.Name>>=fun x31 =>
  if x31 then
   idx p0 v12>>=fun x32 =>
   some (.inr x32.Name)
  else
   Qg0 p0 (wr (v12+1))
 else
  some (.inl ())
 partial_fixpoint
theorem Qahj:∀ (p0:(List Qae)),(∀ (v12:Int) (o25:Unit⊕(List UInt8)),Qg0 p0 v12=some o25→TL (0,0) Tryz.prog 119 Q3n (JP2 (0,0) 119 o25 (.exit 6) (Qso p0) .ret (Qsp p0)) (Qm8 p0 v12)):=by
 intro p0;refine Qg0.partial_correctness p0 _ ?_;intro Qg0' iQg0 v12 o25 h;refine TL.round (Qaq mixed tbOk (lv:=Qle) _ _ _ ?_);refine view (Qax _ _) rfl ?_;refine Qac h (fun hb h=>?_) (fun hb h=>?_)
 ·refine And.intro (by decide +kernel) (And.intro rfl ?_);refine Qa7 (l:=p0) (c:=Qaf) (c' := Qaf) h (fun _=>rfl) (fun _=>rfl) (by decide) (fun x28 hi h=>?_);refine Q6t _ _ h (fun x29 hy=>((Qabn p0 x28.Name x29 hy).ft rfl [] rfl rfl rfl)) (fun x29 hy h=>?_);refine Qa7 (l:=p0) (c:=Qaf) (c' := Qaf) h (fun _=>rfl) (fun _=>rfl) (by decide) (fun x30 hi h=>?_);refine Qdm [.sl false (x29.map cStr),sV x30.Name] Qws h (fun x31 hy=>(Qabl x29 x30.Name x31 hy)) (fun x31 hy h=>?_);refine Qac h (fun hb h=>?_) (fun hb h=>?_)
  ·refine Qa7 (l:=p0) (c:=Qaf) (c' := Qaf) h (fun _=>rfl) (fun _=>rfl) (by decide) (fun x32 hi h=>?_);exact JP2.b h (Le.tz 0 0 rfl rfl rfl)
  ·refine TL.le (τ := Qm8 p0 (wr (v12+1))) ?_ ((iQg0 (wr (v12+1)) _ h));exact Le.tz 0 0 rfl rfl rfl
 ·exact JP2.a h (Le.tz 0 0 rfl rfl rfl)
def Qps (p0:(List Qae)):Option ((List UInt8)×Int) :=
 if(decide ((p0.length:Int)>16)) then
  some ([],5)
 else
  (Qgs p0 0)>>=fun o1 =>
  match o1 with
  | .inl y2 =>
   (Qgw p0 0)>>=fun o14 =>
   match o14 with
   | .inl y15 =>
    (Qg0 p0 0)>>=fun o25 =>
    match o25 with
    | .inl y26 =>
     some ([],0)
    | .inr y27 =>
     some (y27,10)
   | .inr y16 =>
    some (y16,4)
  | .inr y3 =>
   some (y3.1,y3.2)
theorem Qy3:∀ (p0:(List Qae)) (o:(List UInt8)×Int),Qps p0=some o→PCall Tryz.prog 14 [.sl false (p0.map Qaf)] (Qgn o):=by
 intro p0 o h;unfold Qps at h;refine PCall.ofB mixed tbOk Qle Tryz.func14 rfl (by kernel_rfl) (Nat.le_of_ble_eq_true rfl) ?_;refine view (Qax _ _) rfl ?_;refine Qac h (fun hb h=>?_) (fun hb h=>?_)
 ·refine Qar (t:=Qgn) h ?_;exact .refl _
 ·refine Qaj h (fun o1 ho hk=>?_);refine Exists.intro (JP2 _ _ o1 (.exit 0) (Qsi p0) .ret (Qsj p0)) (And.intro (Qhn (τ := Qm5 p0 0) ?_ (TL.loop (Qahd p0 0 o1 ho))) (Qfx (fun y2 hy=>?_) (fun y3 hy=>?_)))
  ·exact Le.tz 0 0 rfl rfl rfl
  ·have h:=(by rw[hy] at hk; exact hk);refine Qaj h (fun o14 ho hk=>?_);refine Exists.intro (JP2 _ _ o14 (.exit 2) (Qsm p0) .ret (Qsn p0)) (And.intro (Qhn (τ := Qm7 p0 0) ?_ (TL.loop (Qahf p0 0 o14 ho))) (Qfx (fun y15 hy=>?_) (fun y16 hy=>?_)))
   ·exact Le.tz 0 0 rfl rfl rfl
   ·have h:=(by rw[hy] at hk; exact hk);refine Qaj h (fun o25 ho hk=>?_);refine Exists.intro (JP2 _ _ o25 (.exit 6) (Qso p0) .ret (Qsp p0)) (And.intro (Qhn (τ := Qm8 p0 0) ?_ (TL.loop (Qahj p0 0 o25 ho))) (Qfx (fun y26 hy=>?_) (fun y27 hy=>?_)))
    ·exact Le.tz 0 0 rfl rfl rfl
    ·have h:=(by rw[hy] at hk; exact hk);refine Qar (t:=Qgn) h ?_;exact .refl _
    ·have h:=(by rw[hy] at hk; exact hk);refine Qar (t:=Qgn) h ?_;exact .refl _
   ·have h:=(by rw[hy] at hk; exact hk);refine Qar (t:=Qgn) h ?_;exact .refl _
  ·have h:=(by rw[hy] at hk; exact hk);refine Qar (t:=Qgn) h ?_;exact .refl _
def Qfk (p0:(List Qae)) (p1:(List UInt8)) (v10:Int):Option (Unit⊕(List Qab)) :=
 if(decide (v10<(p0.length:Int))) then
  idx p0 v10>>=fun x4 =>
  if(x4.Name==p1) then
   some (.inr x4.L)
  else
   Qfk p0 p1 (wr (v10+1))
 else
  some (.inl ())
 partial_fixpoint
theorem Qagv:∀ (p0:(List Qae)) (p1:(List UInt8)),(∀ (v10:Int) (o1:Unit⊕(List Qab)),Qfk p0 p1 v10=some o1→TL (0,0) Tryz.prog 21 Q1q (JP2 (0,0) 21 o1 (.exit 0) (Qq4 p0 p1) .ret (Qq5 p0 p1)) (Qlx p0 p1 v10)):=by
 intro p0 p1;refine Qfk.partial_correctness p0 p1 _ ?_;intro Qfk' iQfk v10 o1 h;refine TL.round (Qaq mixed tbOk (lv:=Qwt) _ _ _ ?_);refine Qac h (fun hb h=>?_) (fun hb h=>?_)
 ·refine Qa7 (l:=p0) (c:=Qaf) (c' := Qaf) h (fun _=>rfl) (fun _=>rfl) (by decide) (fun x4 hi h=>?_);refine Qac h (fun hb h=>?_) (fun hb h=>?_)
  ·exact JP2.b h (Le.tz 0 0 rfl rfl rfl)
  ·refine TL.le (τ := Qlx p0 p1 (wr (v10+1))) ?_ ((iQfk (wr (v10+1)) _ h));exact Le.tz 0 0 rfl rfl rfl
 ·exact JP2.a h (Le.tz 0 0 rfl rfl rfl)
def Qhj (p0:(List Qae)) (p1:(List UInt8)):Option ((List Qab)×Bool) :=
 (Qfk p0 p1 0)>>=fun o1 =>
 match o1 with
 | .inl y2 =>
  some ([],false)
 | .inr y3 =>
  some (y3,true)
theorem Qjd:∀ (p0:(List Qae)) (p1:(List UInt8)) (o:(List Qab)×Bool),Qhj p0 p1=some o→PCall Tryz.prog 39 [.sl false (p0.map Qaf),sV p1] (Qfa o):=by
 intro p0 p1 o h;unfold Qhj at h;refine PCall.ofB mixed tbOk Qwt Tryz.func39 rfl (by kernel_rfl) (Nat.le_of_ble_eq_true rfl) ?_;refine view (Qax _ _) rfl ?_;refine Qaj h (fun o1 ho hk=>?_);refine Exists.intro (JP2 _ _ o1 (.exit 0) (Qq4 p0 p1) .ret (Qq5 p0 p1)) (And.intro (Qhn (τ := Qlx p0 p1 0) ?_ (TL.loop (Qagv p0 p1 0 o1 ho))) (Qfx (fun y2 hy=>?_) (fun y3 hy=>?_)))
 ·exact Le.tz 0 0 rfl rfl rfl
 ·have h:=(by rw[hy] at hk; exact hk);refine Qar (t:=Qfa) h ?_;exact .tup (xs:=[.sl true [],bV false]) (ys:=[.sl false [],bV false]) (.cons (.not) (.cons (.refl _) (.nil)))
 ·have h:=(by rw[hy] at hk; exact hk);refine Qar (t:=Qfa) h ?_;exact .refl _
def Qfl (x1:(List Qab)×Int) (l4:(List (Qab×Int))) (h0_0:Int):Option (Int) :=
 match l4 with
 | [] =>
  some h0_0
 | x2::r3 =>
  Qfl x1 r3 (wr (h0_0+1))
 partial_fixpoint
theorem Qagw:∀ (x1:(List Qab)×Int),(∀ (l4:(List (Qab×Int))) (h0_0:Int) (o6:Int),Qfl x1 l4 h0_0=some o6→RL 1 0 Tryz.prog 11 (rgP Qnd) (rgA Qnd) (rgB Qnd) (Qh4 x1 h0_0).env (JP1 (0,0) 11 o6 .normal (Qq6 x1)) (l4.map Qcn) (Qh4 x1 h0_0).s):=by
 intro x1;refine Qfl.partial_correctness x1 _ ?_;intro Qfl' iQfl l4 h0_0 o6 h;cases l4 with
 | nil =>
  refine Qafa ?_;exact JP1.a h (Le.tz 1 0 rfl rfl rfl)
 | cons x2 r3 =>
  refine Q6u (Qaq mixed tbOk (lv:=Qqj) _ _ _ ?_);refine And.intro rfl (Qaq mixed tbOk (lv:=Qqj) _ _ _ ?_);exact Exists.intro (Qh4 x1 (wr (h0_0+1))).s (And.intro (Le.tz 1 0 rfl rfl rfl) (And.intro rfl (And.intro rfl ((iQfl r3 (wr (h0_0+1)) _ h)))))
def Qk6 (p0:(List Qab)) (p1:Int):Option ((List Qab)×Int) :=
 some (p0,p1)
theorem Qvw:∀ (p0:(List Qab)) (p1:Int) (o:(List Qab)×Int),Qk6 p0 p1=some o→PCall Tryz.prog 96 [.sl false (p0.map Qaa),iV p1] (Qpp o):=by
 intro p0 p1 o h;unfold Qk6 at h;refine PCall.ofM mixed tbOk Qadt Tryz.func96 rfl (by kernel_rfl) (Nat.le_of_ble_eq_true rfl) ?_;refine Qar (t:=Qpp) h ?_;exact .refl _
def Qfm (p0:(List Qab)) (p1:Int) (v12:Int) (x3:Qab) (v28:Int) (x7:(List Qab)×Int) (l10:(List (Qab×Int))):Option ((List (Qab×Int))×(Unit)) :=
 match l10 with
 | [] =>
  some ([],())
 | x8::r9 =>
  ( Qfm p0 p1 v12 x3 v28 x7 r9 )>>=fun q=>some (((Qab.mk x8.1.Kind x8.1.Name x8.1.Text x8.1.N x8.1.L x8.1.Then x8.1.Else),x8.2)::q.1,q.2)
 partial_fixpoint
theorem Qagx:∀ (p0:(List Qab)) (p1:Int) (v12:Int) (x3:Qab) (v28:Int) (x7:(List Qab)×Int),(∀ (l10:(List (Qab×Int))) (o13:(List (Qab×Int))×(Unit)),Qfm p0 p1 v12 x3 v28 x7 l10=some o13→∀ (gxs gp gpost gq12:List (List V)),gxs=gp++(o13.1.map Qcn++gpost)→gxs=gq12++gpost→RL 2 1 Tryz.prog 44 (rgP Qne) (rgA Qne) (rgB Qne) (Qh5 p0 p1 v12 x3 v28 x7 gxs gp).env (Qs (0,1) 44 gxs (JP1 (0,1) 44 o13.2 .normal (Qq7 p0 p1 v12 x3 v28 x7 gxs gq12))) (l10.map Qcn) (Qh5 p0 p1 v12 x3 v28 x7 gxs gp).s):=by
 intro p0 p1 v12 x3 v28 x7;refine Qfm.partial_correctness p0 p1 v12 x3 v28 x7 _ ?_;intro Qfm' iQfm l10 o13 h;intro gxs gp gpost gq12 hx hq;cases l10 with
 | nil =>
  refine Qafa ?_;exact .inl (JP1.a (sndI h) (Le.tz 2 1 rfl rfl (Qali h hx hq rfl)))
 | cons x8 r9 =>
  refine Q6u (Qaq mixed tbOk (lv:=Qja) _ _ _ ?_);refine And.intro rfl (Qaq mixed tbOk (lv:=Qja) _ _ _ ?_);refine Qaiz (c:=Qcn) h hx (.refl _) (by exact rfl) (by exact rfl) (fun _ h hx=>?_) ?_
  ·refine bF ?_;exact Exists.intro (Qh5 p0 p1 v12 x3 v28 x7  gxs (gp++[Qcn ((Qab.mk x8.1.Kind x8.1.Name x8.1.Text x8.1.N x8.1.L x8.1.Then x8.1.Else),x8.2)])).s (And.intro (Le.tz 2 1 rfl rfl rfl) (And.intro rfl (And.intro rfl ((iQfm r9 _ h) _ _ _ _ hx hq))))
  ·refine bT ?_;exact⟨_,(Le.env0 _).trans (Le.tow 2 1 rfl .nil (.refl _) rfl),rfl,rfl,.inr ⟨rfl,Qalh rfl⟩⟩
mutual
def Qf9 (p0 : (List Qab)) (p1 : Int) : Option ((List (Qab × Int)) × Unit) :=
  ( Qfn p0 p1 0) >>= fun o2 => (
    some ([], ())) >>= fun q => some (o2.1 ++ q.1, q.2)
  partial_fixpoint
def Qfn (p0 : (List Qab)) (p1 : Int) (v12 : Int) : Option ((List (Qab × Int)) × (Unit)) :=
  if (decide (v12 < (p0.length : Int))) then
    idx p0 v12 >>= fun x3 =>
    ( ( Qcj p0 p1 v12 x3 0) >>= fun o5 => (
        Qfn p0 p1 (wr (v12 + 1))) >>= fun q => some (o5.1 ++ q.1, q.2)) >>= fun q => some ((x3, p1) :: q.1, q.2)
  else
    some ([], ())
  partial_fixpoint
def Qcj (p0 : (List Qab)) (p1 : Int) (v12 : Int) (x3 : Qab) (v28 : Int) : Option ((List (Qab × Int)) × (Unit)) :=
  if (decide (v28 < 3)) then
    idx ([x3.L, x3.Then, x3.Else] : List (List Qab)) v28 >>= fun x6 =>
    Qk6 x6 (wr (p1 + 1)) >>= fun x7 =>
    Qf9 x7.1 x7.2 >>= fun y11 =>
    ( Qfm p0 p1 v12 x3 v28 x7 y11.1) >>= fun o13 => (
      Qcj p0 p1 v12 x3 (wr (v28 + 1))) >>= fun q => some (o13.1 ++ q.1, q.2)
  else
    some ([], ())
  partial_fixpoint
end
theorem Q4a:(∀ (p0:(List Qab)) (p1:Int) (o:(List (Qab×Int))×Unit),Qf9 p0 p1=some o→∀ gxs:List (List V),gxs=o.1.map Qcn→IterOK Tryz.prog 125 [.ep [.sl false (p0.map Qaa)],.ep [iV p1]] gxs)∧(∀ (p0:(List Qab)) (p1:Int) (v12:Int) (o2:(List (Qab×Int))×(Unit)),Qfn p0 p1 v12=some o2→∀ (gxs gp gpost gq1:List (List V)),gxs=gp++(o2.1.map Qcn++gpost)→gxs=gq1++gpost→TL (0,1) Tryz.prog 44 Q1v (Qs (0,1) 44 gxs (JP1 (0,1) 44 o2.2 (.exit 0) (Qq9 p0 p1 gxs gq1))) (Ql0 p0 p1 v12 gxs gp))∧(∀ (p0:(List Qab)) (p1:Int) (v12:Int) (x3:Qab) (v28:Int) (o5:(List (Qab×Int))×(Unit)),Qcj p0 p1 v12 x3 v28=some o5→∀ (gxs gp gpost gq4:List (List V)),gxs=gp++(o5.1.map Qcn++gpost)→gxs=gq4++gpost→TL (0,1) Tryz.prog 44 Q1u (Qs (0,1) 44 gxs (JP1 (0,1) 44 o5.2 (.exit 2) (Qq8 p0 p1 v12 x3 gxs gq4))) (Qlz p0 p1 v12 x3 v28 gxs gp)):=by
 refine Qf9.mutual_partial_correctness _ _ _ ?_ ?_ ?_
 ·intro Qfn' iQfn p0 p1 o h;intro gxs hg;have hx:gxs=[]++(o.1.map Qcn++[]):=by simp[hg]
  refine IterOK.ofB mixed tbOk Qja Tryz.func125 rfl (by kernel_rfl) (Nat.le_of_ble_eq_true rfl) rfl ?_;refine view (Qax _ _) rfl ?_;refine Q0d h hx (fun o2 lgq1 gq1 ho hk hxa hjgq1=>?_);refine Exists.intro (Qs _ _ gxs (JP1 _ _ o2.2 (.exit 0) (Qq9 p0 p1 gxs gq1))) (And.intro (Qhn (τ := Ql0 p0 p1 0 gxs ([]:List (List V))) ?_ (TL.loop ((iQfn p0 p1 0 o2 ho) _ _ _ _ hxa hjgq1))) (Qalj (Qa5 ?_) ?_))
  ·exact Le.tz 1 1 rfl rfl rfl
  ·have h:=hk;have hx:=hjgq1;exact Qaiy h hx (.inl rfl) rfl
  ·exact fun s1 h1 h2 hs=>Qafb (.inr rfl) hs
 ·intro Qfn' Qcj' iQfn iQcj p0 p1 v12 o2 h;intro gxs gp gpost gq1 hx hq;refine TL.round (Qaq mixed tbOk (lv:=Qja) _ _ _ ?_);refine Qac h (fun hb h=>?_) (fun hb h=>?_)
  ·refine Qa7 (l:=p0) (c:=Qaa) (c' := Qa2) h Qan (fun _=>rfl) (by decide) (fun x3 hi h=>?_);refine Qaiz (c:=Qcn) h hx (.refl _) (by exact rfl) (by exact rfl) (fun _ h hx=>?_) ?_
   ·refine bF ?_;refine Q0d h hx (fun o5 lgq4 gq4 ho hk hxa hjgq4=>?_);refine Exists.intro (Qs _ _ gxs (JP1 _ _ o5.2 (.exit 2) (Qq8 p0 p1 v12 x3 gxs gq4))) (And.intro (Qhn (τ := Qlz p0 p1 v12 x3 0 gxs (gp++[Qcn (x3,p1)])) ?_ (TL.loop ((iQcj p0 p1 v12 x3 0 o5 ho) _ _ _ _ hxa hjgq4))) (Qalj (Qa5 ?_) ?_))
    ·exact Le.tz 2 1 rfl rfl rfl
    ·have h:=hk;have hx:=hjgq4;refine TL.le (τ := Ql0 p0 p1 (wr (v12+1)) gxs gq4) ?_ ((iQfn p0 p1 (wr (v12+1)) _ h) _ _ _ _ hx hq);exact Le.tz 1 1 rfl rfl rfl
    ·exact fun s1 h1 h2 hs =>.inr ⟨rfl,s1,.refl _ _ _,h1,h2,hs⟩
   ·refine bT ?_;exact .inr ⟨rfl,_,(Le.env0 _).trans (Le.tow 0 1 rfl .nil (.refl _) rfl),rfl,rfl,rfl⟩
  ·exact .inl (JP1.a (sndI h) (Le.tz 1 1 rfl rfl (Qali h hx hq rfl)))
 ·intro Qf9' Qcj' iQf9 iQcj p0 p1 v12 x3 v28 o5 h;intro gxs gp gpost gq4 hx hq;refine TL.round (Qaq mixed tbOk (lv:=Qja) _ _ _ ?_);refine Qac h (fun hb h=>?_) (fun hb h=>?_)
  ·refine Qanf (l:=([x3.L,x3.Then,x3.Else]:List (List Qab))) (c:=fun x6 =>.sl false (x6.map Qaa)) h rfl rfl rfl rfl (fun x6 hi h=>?_);refine Qam [.sl false (x6.map Qaa),iV (wr (p1+1))] Qpp h (fun x7 hy=>(Qvw x6 (wr (p1+1)) x7 hy)) (fun x7 hy h=>?_);refine Qaj h (fun y11 hy11 h=>?_);refine Q0d h hx (fun o13 lgq12 gq12 ho hk hxa hjgq12=>?_);refine Exists.intro (Qs _ _ gxs (JP1 _ _ o13.2 .normal (Qq7 p0 p1 v12 x3 v28 x7 gxs gq12))) (And.intro (Qhn (τ := Qh5 p0 p1 v12 x3 v28 x7 gxs gp) ?_ (Q6o (g:=125) (cap:=[.ep [.sl false (x7.1.map Qaa)],.ep [iV x7.2]]) rfl ((iQf9 x7.1 x7.2 y11 hy11) _ rfl) (Q1d fun _=>rfl) rfl (Nat.le_of_ble_eq_true rfl) (Nat.le_of_ble_eq_true rfl) ((Qagx p0 p1 v12 x3 v28 x7 y11.1 o13 ho) _ _ _ _ hxa hjgq12))) (Qalj (Qa5 ?_) ?_))
   ·exact Le.tz 2 1 rfl rfl rfl
   ·have h:=hk;have hx:=hjgq12;refine TL.le (τ := Qlz p0 p1 v12 x3 (wr (v28+1)) gxs gq12) ?_ ((iQcj p0 p1 v12 x3 (wr (v28+1)) _ h) _ _ _ _ hx hq);exact Le.tz 2 1 rfl rfl rfl
   ·exact fun s1 h1 h2 hs =>.inr ⟨rfl,s1,.refl _ _ _,h1,h2,hs⟩
  ·exact .inl (JP1.a (sndI h) (Le.tz 2 1 rfl rfl (Qali h hx hq rfl)))
theorem Qwx:∀ (p0:(List Qab)) (p1:Int) (o:(List (Qab×Int))×Unit),Qf9 p0 p1=some o→∀ gxs:List (List V),gxs=o.1.map Qcn→IterOK Tryz.prog 125 [.ep [.sl false (p0.map Qaa)],.ep [iV p1]] gxs:=fun p0 p1=>Q4a.1 p0 p1
def Qpt (p0:(List Qab)):Option (Int) :=
 Qk6 p0 1>>=fun x1 =>
 Qf9 x1.1 x1.2>>=fun y5 =>
 (Qfl x1 y5.1 0)>>=fun o6 =>
 some o6
theorem Q8a:∀ (p0:(List Qab)) (o:Int),Qpt p0=some o→PCall Tryz.prog 71 [.sl false (p0.map Qaa)] (Qs1 o):=by
 intro p0 o h;unfold Qpt at h;refine PCall.ofB mixed tbOk Qqj Tryz.func71 rfl (by kernel_rfl) (Nat.le_of_ble_eq_true rfl) ?_;refine Qam [.sl false (p0.map Qaa),iV 1] Qpp h (fun x1 hy=>(Qvw p0 1 x1 hy)) (fun x1 hy h=>?_);refine Qaj h (fun y5 hy5 h=>?_);refine Qaj h (fun o6 ho hk=>?_);refine Exists.intro (JP1 _ _ o6 .normal (Qq6 x1)) (And.intro (Qhn (τ := Qh4 x1 0) ?_ (Q6o (g:=125) (cap:=[.ep [.sl false (x1.1.map Qaa)],.ep [iV x1.2]]) rfl ((Qwx x1.1 x1.2 y5 hy5) _ rfl) (Q1d fun _=>rfl) rfl (Nat.le_of_ble_eq_true rfl) (Nat.le_of_ble_eq_true rfl) (Qagw x1 y5.1 0 o6 ho))) (Qa5 ?_))
 ·exact Le.tz 1 0 rfl rfl rfl
 have h:=hk;refine Qar (t:=Qs1) h ?_;exact .refl _
def Qg1 (x1:(List Qab)×Int) (l4:(List (Qab×Int))) (h0_0:Int):Option (Int) :=
 match l4 with
 | [] =>
  some h0_0
 | x2::r3 =>
  Qg1 x1 r3 (if x2.2>h0_0 then x2.2 else h0_0)
 partial_fixpoint
theorem Qahk:∀ (x1:(List Qab)×Int),(∀ (l4:(List (Qab×Int))) (h0_0:Int) (o6:Int),Qg1 x1 l4 h0_0=some o6→RL 1 0 Tryz.prog 14 (rgP Qox) (rgA Qox) (rgB Qox) (Qi9 x1 h0_0).env (JP1 (0,0) 14 o6 .normal (Qs3 x1)) (l4.map Qcn) (Qi9 x1 h0_0).s):=by
 intro x1;refine Qg1.partial_correctness x1 _ ?_;intro Qg1' iQg1 l4 h0_0 o6 h;cases l4 with
 | nil =>
  refine Qafa ?_;exact JP1.a h (Le.tz 1 0 rfl rfl rfl)
 | cons x2 r3 =>
  refine Q6u (Qaq mixed tbOk (lv:=Qs2) _ _ _ ?_);refine And.intro rfl (Qaq mixed tbOk (lv:=Qs2) _ _ _ ?_);exact Exists.intro (Qi9 x1 (if x2.2>h0_0 then x2.2 else h0_0)).s (And.intro (Le.tz 1 0 rfl rfl rfl) (And.intro rfl (And.intro rfl ((iQg1 r3 (if x2.2>h0_0 then x2.2 else h0_0) _ h)))))
def Qs7 (p0:(List Qab)):Option (Int) :=
 Qk6 p0 1>>=fun x1 =>
 Qf9 x1.1 x1.2>>=fun y5 =>
 (Qg1 x1 y5.1 0)>>=fun o6 =>
 some o6
theorem Qabo:∀ (p0:(List Qab)) (o:Int),Qs7 p0=some o→PCall Tryz.prog 70 [.sl false (p0.map Qaa)] (Qvs o):=by
 intro p0 o h;unfold Qs7 at h;refine PCall.ofB mixed tbOk Qs2 Tryz.func70 rfl (by kernel_rfl) (Nat.le_of_ble_eq_true rfl) ?_;refine Qam [.sl false (p0.map Qaa),iV 1] Qpp h (fun x1 hy=>(Qvw p0 1 x1 hy)) (fun x1 hy h=>?_);refine Qaj h (fun y5 hy5 h=>?_);refine Qaj h (fun o6 ho hk=>?_);refine Exists.intro (JP1 _ _ o6 .normal (Qs3 x1)) (And.intro (Qhn (τ := Qi9 x1 0) ?_ (Q6o (g:=125) (cap:=[.ep [.sl false (x1.1.map Qaa)],.ep [iV x1.2]]) rfl ((Qwx x1.1 x1.2 y5 hy5) _ rfl) (Q1d fun _=>rfl) rfl (Nat.le_of_ble_eq_true rfl) (Nat.le_of_ble_eq_true rfl) (Qahk x1 y5.1 0 o6 ho))) (Qa5 ?_))
 ·exact Le.tz 1 0 rfl rfl rfl
 have h:=hk;refine Qar (t:=Qvs) h ?_;exact .refl _
def Qce (p0:(List UInt8)) (p1:(List UInt8)):Option (Bool) :=
 ( if(decide ((p0.length:Int) ≥ (p1.length:Int))) then
   cutL p0 (wr ((p0.length:Int)-(p1.length:Int))) (p0.length:Int)>>=fun x2 =>
   some (x2==p1)
  else
   some false:Option (Bool))>>=fun o1 =>
 some o1
theorem Qje:∀ (p0:(List UInt8)) (p1:(List UInt8)) (o:Bool),Qce p0 p1=some o→PCall Tryz.prog 129 [sV p0,sV p1] (Qcz o):=by
 intro p0 p1 o h;unfold Qce at h;refine PCall.ofB mixed tbOk Qi6 Tryz.func129 rfl (by kernel_rfl) (Nat.le_of_ble_eq_true rfl) ?_;refine Qaj h (fun o1 ho hk=>?_);refine Exists.intro (JP1 _ _ o1 .normal (Qia )) (And.intro ?_ (Qa5 ?_))
 ·have h:=ho;refine vrfl ?_;refine vrfl ?_;refine Qac h (fun hb h=>?_) (fun hb h=>?_)
  ·refine vrfl ?_;refine vrfl ?_;refine Qi2 (some (wr ((p0.length:Int)-(p1.length:Int)))) none h (fun x2 hi h=>?_);refine JP1.a h ?_;exact Le.tz 0 0 rfl rfl rfl
  ·refine JP1.a h ?_;exact Le.tz 0 0 rfl rfl rfl
 ·have h:=hk;refine Qar (t:=Qcz) h ?_;exact .refl _
def Qco (p0:(List UInt8)) (p1:(List UInt8)):Option (Bool) :=
 Qce p0 p1>>=fun x1 =>
 some x1
theorem Qe2:∀ (p0:(List UInt8)) (p1:(List UInt8)) (o:Bool),Qco p0 p1=some o→PCall Tryz.prog 98 [sV p0,sV p1] (Qc7 o):=by
 intro p0 p1 o h;unfold Qco at h;refine PCall.ofB mixed tbOk Qui Tryz.func98 rfl (by kernel_rfl) (Nat.le_of_ble_eq_true rfl) ?_;refine Qam [sV p0,sV p1] Qcz h (fun x1 hy=>(Qje p0 p1 x1 hy)) (fun x1 hy h=>?_);refine Qar (t:=Qc7) h ?_;exact .refl _
def Qc2 (p0:(List UInt8)) (p1:(List UInt8)):Option (Int) :=
 need (p0.length<4294967281)>>=fun _ =>
 some (Lib.index p0 p1)
theorem Ql2:∀ (p0:(List UInt8)) (p1:(List UInt8)) (o:Int),Qc2 p0 p1=some o→PCall Tryz.prog 167 [sV p0,sV p1] (Qge o):=by
 intro p0 p1 o h;unfold Qc2 at h;obtain⟨h1,h⟩:=Qaaw h;cases h;exact Qall _ _ h1
def Qmh (p0:(List UInt8)) (p1:(List UInt8)):Option (Int) :=
 Qc2 p0 p1>>=fun x1 =>
 some x1
theorem Qzn:∀ (p0:(List UInt8)) (p1:(List UInt8)) (o:Int),Qmh p0 p1=some o→PCall Tryz.prog 153 [sV p0,sV p1] (Qnc o):=by
 intro p0 p1 o h;unfold Qmh at h;refine PCall.ofB mixed tbOk Qzm Tryz.func153 rfl (by kernel_rfl) (Nat.le_of_ble_eq_true rfl) ?_;refine Qam [sV p0,sV p1] Qge h (fun x1 hy=>(Ql2 p0 p1 x1 hy)) (fun x1 hy h=>?_);refine Qar (t:=Qnc) h ?_;exact .refl _
def Qf1 (p0:(List UInt8)) (p1:(List UInt8)):Option (Bool) :=
 Qmh p0 p1>>=fun x1 =>
 some (decide (x1 ≥ 0))
theorem Qvx:∀ (p0:(List UInt8)) (p1:(List UInt8)) (o:Bool),Qf1 p0 p1=some o→PCall Tryz.prog 127 [sV p0,sV p1] (Qi8 o):=by
 intro p0 p1 o h;unfold Qf1 at h;refine PCall.ofB mixed tbOk Qvr Tryz.func127 rfl (by kernel_rfl) (Nat.le_of_ble_eq_true rfl) ?_;refine Qam [sV p0,sV p1] Qnc h (fun x1 hy=>(Qzn p0 p1 x1 hy)) (fun x1 hy h=>?_);refine Qar (t:=Qi8) h ?_;exact .refl _
def Qpu (p0:Int):Option (Bool) :=
 ( if(decide (p0 ≥ 48)) then
   some (decide (p0≤57))
  else
   some false:Option (Bool))>>=fun o1 =>
 some o1
theorem Qy4:∀ (p0:Int) (o:Bool),Qpu p0=some o→PCall Tryz.prog 124 [nV .u8 p0] (Qqi o):=by
 intro p0 o h;unfold Qpu at h;refine PCall.ofB mixed tbOk Qaa7 Tryz.func124 rfl (by kernel_rfl) (Nat.le_of_ble_eq_true rfl) ?_;refine Qaj h (fun o1 ho hk=>?_);refine Exists.intro (JP1 _ _ o1 .normal (Q3u )) (And.intro ?_ (Qa5 ?_))
 ·have h:=ho;refine Qac h (fun hb h=>?_) (fun hb h=>?_)
  ·refine JP1.a h ?_;exact Le.tz 0 0 rfl rfl rfl
  ·refine JP1.a h ?_;exact Le.tz 0 0 rfl rfl rfl
 ·have h:=hk;refine Qar (t:=Qqi) h ?_;exact .refl _
def Qpv (p0:Int):Option (Bool) :=
 ( if(decide (p0 ≥ 97)) then
   if(decide (p0≤122)) then
    some true
   else
    Qpu p0>>=fun x2 =>
    if x2 then
     some true
    else
     some (p0==95)
  else
   Qpu p0>>=fun x3 =>
   if x3 then
    some true
   else
    some (p0==95):Option (Bool))>>=fun o1 =>
 some o1
theorem Q8b:∀ (p0:Int) (o:Bool),Qpv p0=some o→PCall Tryz.prog 95 [nV .u8 p0] (Qs0 o):=by
 intro p0 o h;unfold Qpv at h;refine PCall.ofB mixed tbOk Q7x Tryz.func95 rfl (by kernel_rfl) (Nat.le_of_ble_eq_true rfl) ?_;refine Qaj h (fun o1 ho hk=>?_);refine Exists.intro (JP1 _ _ o1 .normal (Q1s )) (And.intro ?_ (Qa5 ?_))
 ·have h:=ho;refine Qac h (fun hb h=>?_) (fun hb h=>?_)
  ·refine Qac h (fun hb h=>?_) (fun hb h=>?_)
   ·refine bT ?_;refine JP1.a h ?_;exact Le.tz 0 0 rfl rfl rfl
   ·refine Qam [nV .u8 p0] Qqi h (fun x2 hy=>(Qy4 p0 x2 hy)) (fun x2 hy h=>?_);refine Qac h (fun hb h=>?_) (fun hb h=>?_)
    ·refine JP1.a h ?_;exact Le.tz 0 0 rfl rfl rfl
    ·refine JP1.a h ?_;exact Le.tz 0 0 rfl rfl rfl
  ·refine bF ?_;refine Qam [nV .u8 p0] Qqi h (fun x3 hy=>(Qy4 p0 x3 hy)) (fun x3 hy h=>?_);refine Qac h (fun hb h=>?_) (fun hb h=>?_)
   ·refine JP1.a h ?_;exact Le.tz 0 0 rfl rfl rfl
   ·refine JP1.a h ?_;exact Le.tz 0 0 rfl rfl rfl
 ·have h:=hk;refine Qar (t:=Qs0) h ?_;exact .refl _
def Qif (p0:(List UInt8)) (v6:Int):Option (Unit⊕Unit) :=
 if(decide (v6<(p0.length:Int))) then
  idx p0 v6>>=fun x4 =>
  Qpv (x4.toNat:Int)>>=fun x5 =>
  if(!x5) then
   some (.inr ())
  else
   Qif p0 (wr (v6+1))
 else
  some (.inl ())
 partial_fixpoint
theorem Qajl:∀ (p0:(List UInt8)),(∀ (v6:Int) (o1:Unit⊕Unit),Qif p0 v6=some o1→TL (0,0) Tryz.prog 27 Q7v (JP2 (0,0) 27 o1 (.exit 0) (Qvb p0) .ret (Qvc p0)) (Qow p0 v6)):=by
 intro p0;refine Qif.partial_correctness p0 _ ?_;intro Qif' iQif v6 o1 h;refine TL.round (Qaq mixed tbOk (lv:=Q1r) _ _ _ ?_);refine Qac h (fun hb h=>?_) (fun hb h=>?_)
 ·refine Qdg h (fun x4 hi h=>?_);refine Qam [nV .u8 (x4.toNat:Int)] Qs0 h (fun x5 hy=>(Q8b (x4.toNat:Int) x5 hy)) (fun x5 hy h=>?_);refine Qac h (fun hb h=>?_) (fun hb h=>?_)
  ·exact JP2.b h (Le.tz 0 0 rfl rfl rfl)
  ·refine TL.le (τ := Qow p0 (wr (v6+1))) ?_ ((iQif (wr (v6+1)) _ h));exact Le.tz 0 0 rfl rfl rfl
 ·exact JP2.a h (Le.tz 0 0 rfl rfl rfl)
def Qqn (p0:(List UInt8)):Option (Bool) :=
 (Qif p0 0)>>=fun o1 =>
 match o1 with
 | .inl y2 =>
  ( if(!(p0==[])) then
    if(decide ((p0.length:Int)≤32)) then
     idx p0 0>>=fun x7 =>
     some (decide ((x7.toNat:Int) ≥ 97))
    else
     some false
   else
    some false:Option (Bool))>>=fun o6 =>
  some o6
 | .inr y3 =>
  some false
theorem Qvy:∀ (p0:(List UInt8)) (o:Bool),Qqn p0=some o→PCall Tryz.prog 69 [sV p0] (Qmp o):=by
 intro p0 o h;unfold Qqn at h;refine PCall.ofB mixed tbOk Q1r Tryz.func69 rfl (by kernel_rfl) (Nat.le_of_ble_eq_true rfl) ?_;refine vrfl ?_;refine Qaj h (fun o1 ho hk=>?_);refine Exists.intro (JP2 _ _ o1 (.exit 0) (Qvb p0) .ret (Qvc p0)) (And.intro (Qhn (τ := Qow p0 0) ?_ (TL.loop (Qajl p0 0 o1 ho))) (Qfx (fun y2 hy=>?_) (fun y3 hy=>?_)))
 ·exact Le.tz 0 0 rfl rfl rfl
 ·have h:=(by rw[hy] at hk; exact hk);refine Qaj h (fun o6 ho hk=>?_);refine Exists.intro (JP1 _ _ o6 .normal (Q7w )) (And.intro ?_ (Qa5 ?_))
  ·have h:=ho;refine Qac h (fun hb h=>?_) (fun hb h=>?_)
   ·refine vrfl ?_;refine Qac h (fun hb h=>?_) (fun hb h=>?_)
    ·refine Qdg h (fun x7 hi h=>?_);refine JP1.a h ?_;exact Le.tz 0 0 rfl rfl rfl
    ·refine JP1.a h ?_;exact Le.tz 0 0 rfl rfl rfl
   ·refine bF ?_;refine JP1.a h ?_;exact Le.tz 0 0 rfl rfl rfl
  ·have h:=hk;refine Qar (t:=Qmp) h ?_;exact .refl _
 ·have h:=(by rw[hy] at hk; exact hk);refine Qar (t:=Qmp) h ?_;exact .refl _
def Qjf (p0:(List UInt8)):Option (Bool) :=
 ( if(p0==[105,102]) then
   some (p0==[105,102])
  else
   if(p0==[101,108,115,101]) then
    some (p0==[101,108,115,101])
   else
    if(p0==[101,110,100]) then
     some (p0==[101,110,100])
    else
     if(p0==[101,97,99,104]) then
      some (p0==[101,97,99,104])
     else
      if(p0==[105,110]) then
       some (p0==[105,110])
      else
       if(p0==[108,101,116]) then
        some (p0==[108,101,116])
       else
        if(p0==[117,115,101]) then
         some (p0==[117,115,101])
        else
         if(p0==[116,114,117,101]) then
          some (p0==[116,114,117,101])
         else
          if(p0==[102,97,108,115,101]) then
           some (p0==[102,97,108,115,101])
          else
           some (p0==[115,101,99,114,101,116]):Option (Bool))>>=fun o1 =>
 if o1 then
  some false
 else
  Qqn p0>>=fun x2 =>
  some x2
theorem Qlh:∀ (p0:(List UInt8)) (o:Bool),Qjf p0=some o→PCall Tryz.prog 37 [sV p0] (Qgp o):=by
 intro p0 o h;unfold Qjf at h;refine PCall.ofB mixed tbOk Qaa9 Tryz.func37 rfl (by kernel_rfl) (Nat.le_of_ble_eq_true rfl) ?_;refine Qaj h (fun o1 ho hk=>?_);refine Exists.intro (JP1 _ _ o1 .normal (Q3v p0)) (And.intro ?_ (Qa5 ?_))
 ·have h:=ho;refine Qac h (fun hb h=>?_) (fun hb h=>?_)
  ·refine JP1.a h ?_;exact Le.tz 0 0 rfl rfl rfl
  ·refine Qac h (fun hb h=>?_) (fun hb h=>?_)
   ·refine JP1.a h ?_;exact Le.tz 0 0 rfl rfl rfl
   ·refine Qac h (fun hb h=>?_) (fun hb h=>?_)
    ·refine JP1.a h ?_;exact Le.tz 0 0 rfl rfl rfl
    ·refine Qac h (fun hb h=>?_) (fun hb h=>?_)
     ·refine JP1.a h ?_;exact Le.tz 0 0 rfl rfl rfl
     ·refine Qac h (fun hb h=>?_) (fun hb h=>?_)
      ·refine JP1.a h ?_;exact Le.tz 0 0 rfl rfl rfl
      ·refine Qac h (fun hb h=>?_) (fun hb h=>?_)
       ·refine JP1.a h ?_;exact Le.tz 0 0 rfl rfl rfl
       ·refine Qac h (fun hb h=>?_) (fun hb h=>?_)
        ·refine JP1.a h ?_;exact Le.tz 0 0 rfl rfl rfl
        ·refine Qac h (fun hb h=>?_) (fun hb h=>?_)
         ·refine JP1.a h ?_;exact Le.tz 0 0 rfl rfl rfl
         ·refine Qac h (fun hb h=>?_) (fun hb h=>?_)
          ·refine JP1.a h ?_;exact Le.tz 0 0 rfl rfl rfl
          ·refine JP1.a h ?_;exact Le.tz 0 0 rfl rfl rfl
 ·have h:=hk;refine Qac h (fun hb h=>?_) (fun hb h=>?_)
  ·refine Qar (t:=Qgp) h ?_;exact .refl _
  ·refine Qam [sV p0] Qmp h (fun x2 hy=>(Qvy p0 x2 hy)) (fun x2 hy h=>?_);refine Qar (t:=Qgp) h ?_;exact .refl _
def Qdh (p0:(List UInt8)) (v4:(List Int)) (v18:Int):Option ((List Int)) :=
 if(decide (v18<(p0.length:Int))) then
  idx p0 v18>>=fun x5 =>
  if((x5.toNat:Int)==10) then
   appL 1 v4 (s2b [92,110])>>=fun x6 =>
   Qdh p0 x6 (wr (v18+1))
  else
   if((x5.toNat:Int)==9) then
    appL 1 v4 (s2b [92,116])>>=fun x7 =>
    Qdh p0 x7 (wr (v18+1))
   else
    ( if((x5.toNat:Int)==34) then
      some ((x5.toNat:Int)==34)
     else
      some ((x5.toNat:Int)==92):Option (Bool))>>=fun o8 =>
    if o8 then
     appL 1 v4 [92,(x5.toNat:Int)]>>=fun x9 =>
     Qdh p0 x9 (wr (v18+1))
    else
     appL 1 v4 [(x5.toNat:Int)]>>=fun x10 =>
     Qdh p0 x10 (wr (v18+1))
 else
  some v4
 partial_fixpoint
theorem Qahl:∀ (p0:(List UInt8)),(∀ (v4:(List Int)) (v18:Int) (o4:(List Int)),Qdh p0 v4 v18=some o4→TL (0,0) Tryz.prog 49 Q3t (JP1 (0,0) 49 o4 (.exit 0) (Qsz p0)) (Qe3 p0 v4 v18)):=by
 intro p0;refine Qdh.partial_correctness p0 _ ?_;intro Qdh' iQdh v4 v18 o4 h;refine TL.round (Qaq mixed tbOk (lv:=Qyy) _ _ _ ?_);refine Qac h (fun hb h=>?_) (fun hb h=>?_)
 ·refine Qdg h (fun x5 hi h=>?_);refine Qac h (fun hb h=>?_) (fun hb h=>?_)
  ·refine Qae9 (a:=v4) (b:=[92,110]) h rfl (fun x6 hi h=>?_);refine TL.le (τ := Qe3 p0 x6 (wr (v18+1))) ?_ ((iQdh x6 (wr (v18+1)) _ h));exact Le.tz 0 1 rfl rfl rfl
  ·refine Qac h (fun hb h=>?_) (fun hb h=>?_)
   ·refine Qae9 (a:=v4) (b:=[92,116]) h rfl (fun x7 hi h=>?_);refine TL.le (τ := Qe3 p0 x7 (wr (v18+1))) ?_ ((iQdh x7 (wr (v18+1)) _ h));exact Le.tz 0 1 rfl rfl rfl
   ·refine Qaj h (fun o8 ho hk=>?_);refine Exists.intro (JP1 _ _ o8 .normal (Q3s p0 v4 v18 x5)) (And.intro ?_ (Qa5 ?_))
    ·have h:=ho;refine Qac h (fun hb h=>?_) (fun hb h=>?_)
     ·refine JP1.a h ?_;exact Le.tz 0 1 rfl rfl rfl
     ·refine JP1.a h ?_;exact Le.tz 0 1 rfl rfl rfl
    ·have h:=hk;refine Qac h (fun hb h=>?_) (fun hb h=>?_)
     ·refine Qlv (a:=v4) (b:=[92,(x5.toNat:Int)]) (c:=(cNum .u8)) h (.refl _) (fun _=>rfl) rfl (fun x9 hi h=>?_);refine TL.le (τ := Qe3 p0 x9 (wr (v18+1))) ?_ ((iQdh x9 (wr (v18+1)) _ h));exact Le.tz 0 1 rfl rfl rfl
     ·refine Qlv (a:=v4) (b:=[(x5.toNat:Int)]) (c:=(cNum .u8)) h (.refl _) (fun _=>rfl) rfl (fun x10 hi h=>?_);refine TL.le (τ := Qe3 p0 x10 (wr (v18+1))) ?_ ((iQdh x10 (wr (v18+1)) _ h));exact Le.tz 0 1 rfl rfl rfl
 ·exact JP1.a h (Le.tz 0 1 rfl rfl rfl)
def Qcf (p0:(List UInt8)) (p1:Int):Option (Int) :=
 some (Lib.indexByte p0 p1.toNat.toUInt8)
theorem Qjg:∀ (p0:(List UInt8)) (p1:Int) (o:Int),Qcf p0 p1=some o→PCall Tryz.prog 174 [sV p0,nV .u8 p1] (Qey o):=by
 intro p0 p1 o h;unfold Qcf at h;cases h;exact Qaax _ _
def Qhk (p0:(List UInt8)) (p1:Int):Option (Int) :=
 Qcf p0 p1>>=fun x1 =>
 some x1
theorem Quk:∀ (p0:(List UInt8)) (p1:Int) (o:Int),Qhk p0 p1=some o→PCall Tryz.prog 169 [sV p0,nV .u8 p1] (Qib o):=by
 intro p0 p1 o h;unfold Qhk at h;refine PCall.ofB mixed tbOk Quj Tryz.func169 rfl (by kernel_rfl) (Nat.le_of_ble_eq_true rfl) ?_;refine Qam [sV p0,nV .u8 p1] Qey h (fun x1 hy=>(Qjg p0 p1 x1 hy)) (fun x1 hy h=>?_);refine Qar (t:=Qib) h ?_;exact .refl _
def Qli (x1:(List UInt8)) (l4:(List (Int×Int))):Option (Unit⊕Unit) :=
 match l4 with
 | [] =>
  some (.inl ())
 | x2::r3 =>
  ( if(x2.1==65533) then
    some (x2.2==1)
   else
    some false:Option (Bool))>>=fun o9 =>
  if o9 then
   some (.inr ())
  else
   Qli x1 r3
 partial_fixpoint
theorem Qalr:∀ (x1:(List UInt8)),(∀ (l4:(List (Int×Int))) (o6:Unit⊕Unit),Qli x1 l4=some o6→RL 1 0 Tryz.prog 15 (rgP Qvt) (rgA Qvt) (rgB Qvt) (Qn5 x1).env (JP2 (0,0) 15 o6 .normal (Qyz x1) .ret (Qy0 x1)) (l4.map Qkk) (Qn5 x1).s):=by
 intro x1;refine Qli.partial_correctness x1 _ ?_;intro Qli' iQli l4 o6 h;cases l4 with
 | nil =>
  refine Qafa ?_;exact JP2.a h (Le.tz 1 0 rfl rfl rfl)
 | cons x2 r3 =>
  refine Q6u (Qaq mixed tbOk (lv:=Q1z) _ _ _ ?_);refine And.intro rfl (Qaq mixed tbOk (lv:=Q1z) _ _ _ ?_);refine Qaj h (fun o9 ho hk=>?_);refine Exists.intro (JP1 _ _ o9 .normal (Qadu x1 x2)) (And.intro ?_ (Qa5 ?_))
  ·have h:=ho;refine Qac h (fun hb h=>?_) (fun hb h=>?_)
   ·refine JP1.a h ?_;exact Le.tz 1 0 rfl rfl rfl
   ·refine JP1.a h ?_;exact Le.tz 1 0 rfl rfl rfl
  ·have h:=hk;refine Qac h (fun hb h=>?_) (fun hb h=>?_)
   ·exact Exists.intro (⟨[[.p (bV false)]],[]⟩:S) (And.intro (Le.tow 1 0 rfl .nil (.refl _) rfl) (And.intro rfl (And.intro rfl (JP2.b h (Le.tz 1 0 rfl rfl rfl)))))
   ·exact Exists.intro (Qn5 x1 ).s (And.intro (Le.tz 1 0 rfl rfl rfl) (And.intro rfl (And.intro rfl ((iQli r3 _ h)))))
def Q8c (p0:(List UInt8)):Option ((List UInt8)) :=
 some p0
theorem Qagy:∀ (p0:(List UInt8)) (o:(List UInt8)),Q8c p0=some o→PCall Tryz.prog 178 [sV p0] (Q10 o):=by
 intro p0 o h;unfold Q8c at h;refine PCall.ofM mixed tbOk Qagt Tryz.func178 rfl (by kernel_rfl) (Nat.le_of_ble_eq_true rfl) ?_;refine Qar (t:=Q10) h ?_;exact .refl _
def Q5n (p0:Int):Option (Bool) :=
 ( if(decide (p0 ≥ 0)) then
   if(decide (p0≤1114111)) then
    if(decide (p0<55296)) then
     some true
    else
     some (decide (p0>57343))
   else
    some false
  else
   some false:Option (Bool))>>=fun o1 =>
 some o1
theorem Qajm:∀ (p0:Int) (o:Bool),Q5n p0=some o→PCall Tryz.prog 188 [nV .i32 p0] (Q75 o):=by
 intro p0 o h;unfold Q5n at h;refine PCall.ofB mixed tbOk Qajb Tryz.func188 rfl (by kernel_rfl) (Nat.le_of_ble_eq_true rfl) ?_;refine Qaj h (fun o1 ho hk=>?_);refine Exists.intro (JP1 _ _ o1 .normal (Qadw )) (And.intro ?_ (Qa5 ?_))
 ·have h:=ho;refine Qac h (fun hb h=>?_) (fun hb h=>?_)
  ·refine Qac h (fun hb h=>?_) (fun hb h=>?_)
   ·refine Qac h (fun hb h=>?_) (fun hb h=>?_)
    ·refine JP1.a h ?_;exact Le.tz 0 0 rfl rfl rfl
    ·refine JP1.a h ?_;exact Le.tz 0 0 rfl rfl rfl
   ·refine JP1.a h ?_;exact Le.tz 0 0 rfl rfl rfl
  ·refine bF ?_;refine JP1.a h ?_;exact Le.tz 0 0 rfl rfl rfl
 ·have h:=hk;refine Qar (t:=Q75) h ?_;exact .refl _
def Qig (p0:(List UInt8)) (p2:Int) (v1:Int) (v14:Int):Option (Int⊕Unit) :=
 if(decide (v14<p2)) then
  idx p0 v14>>=fun x4 =>
  if((bits .and .u8 (x4.toNat:Int) 192) != 128) then
   some (.inr ())
  else
   idx p0 v14>>=fun x5 =>
   Qig p0 p2 (bits .or .i32 (IntKind.i32.wrap (v1*2 ^ (min (6:Int).toNat (IntKind.i32.bits)))) (IntKind.i32.wrap (bits .and .u8 (x5.toNat:Int) 63))) (wr (v14+1))
 else
  some (.inl v1)
 partial_fixpoint
theorem Qajn:∀ (p0:(List UInt8)) (p2:Int),(∀ (v1:Int) (v14:Int) (o1:Int⊕Unit),Qig p0 p2 v1 v14=some o1→TL (0,0) Tryz.prog 32 Q76 (JP2 (0,0) 32 o1 (.exit 0) (Qvd p0 p2) .ret (Qve p0 p2)) (Qoy p0 p2 v1 v14)):=by
 intro p0 p2;refine Qig.partial_correctness p0 p2 _ ?_;intro Qig' iQig v1 v14 o1 h;refine TL.round (Qaq mixed tbOk (lv:=Q11) _ _ _ ?_);refine Qac h (fun hb h=>?_) (fun hb h=>?_)
 ·refine Qdg h (fun x4 hi h=>?_);refine Qac h (fun hb h=>?_) (fun hb h=>?_)
  ·exact JP2.b h (Le.tz 0 0 rfl rfl rfl)
  ·refine And.intro (by decide) ?_;refine Qdg h (fun x5 hi h=>?_);refine vrfl ?_;refine TL.le (τ := Qoy p0 p2 (bits .or .i32 (IntKind.i32.wrap (v1*2 ^ (min (6:Int).toNat (IntKind.i32.bits)))) (IntKind.i32.wrap (bits .and .u8 (x5.toNat:Int) 63))) (wr (v14+1))) ?_ ((iQig (bits .or .i32 (IntKind.i32.wrap (v1*2 ^ (min (6:Int).toNat (IntKind.i32.bits)))) (IntKind.i32.wrap (bits .and .u8 (x5.toNat:Int) 63))) (wr (v14+1)) _ h));exact Le.tz 0 0 rfl rfl rfl
 ·exact JP2.a h (Le.tz 0 0 rfl rfl rfl)
def Qt5 (p0:(List UInt8)) (p1:Int) (p2:Int):Option (Int×Bool) :=
 if(decide ((p0.length:Int)<p2)) then
  some (0,false)
 else
  (Qig p0 p2 p1 0)>>=fun o1 =>
  match o1 with
  | .inl y2 =>
   some (y2,true)
  | .inr y3 =>
   some (0,false)
theorem Qadx:∀ (p0:(List UInt8)) (p1:Int) (p2:Int) (o:Int×Bool),Qt5 p0 p1 p2=some o→PCall Tryz.prog 187 [sV p0,nV .i32 p1,iV p2] (Qpq o):=by
 intro p0 p1 p2 o h;unfold Qt5 at h;refine PCall.ofB mixed tbOk Q11 Tryz.func187 rfl (by kernel_rfl) (Nat.le_of_ble_eq_true rfl) ?_;refine vrfl ?_;refine Qac h (fun hb h=>?_) (fun hb h=>?_)
 ·refine Qar (t:=Qpq) h ?_;exact .refl _
 ·refine Qaj h (fun o1 ho hk=>?_);refine Exists.intro (JP2 _ _ o1 (.exit 0) (Qvd p0 p2) .ret (Qve p0 p2)) (And.intro (Qhn (τ := Qoy p0 p2 p1 0) ?_ (TL.loop (Qajn p0 p2 p1 0 o1 ho))) (Qfx (fun y2 hy=>?_) (fun y3 hy=>?_)))
  ·exact Le.tz 0 0 rfl rfl rfl
  ·have h:=(by rw[hy] at hk; exact hk);refine Qar (t:=Qpq) h ?_;exact .refl _
  ·have h:=(by rw[hy] at hk; exact hk);refine Qar (t:=Qpq) h ?_;exact .refl _
def Qwy (p0:(List UInt8)) (p1:Int):Option (Int×Int) :=
 ( if(decide (p1<0)) then
   some true
  else
   some (decide (p1 ≥ (p0.length:Int))):Option (Bool))>>=fun o1 =>
 if o1 then
  some (0,0)
 else
  idx p0 p1>>=fun x2 =>
  ( if(decide ((x2.toNat:Int)<128)) then
    some (.inr (IntKind.i32.wrap (x2.toNat:Int)))
   else
    ( if(decide ((x2.toNat:Int) ≥ 192)) then
      some (decide ((x2.toNat:Int)<224))
     else
      some false:Option (Bool))>>=fun o6 =>
    if o6 then
     some (.inl ((IntKind.i32.wrap (bits .and .u8 (x2.toNat:Int) 31)),128,1))
    else
     ( if(decide ((x2.toNat:Int) ≥ 224)) then
       some (decide ((x2.toNat:Int)<240))
      else
       some false:Option (Bool))>>=fun o7 =>
     if o7 then
      some (.inl ((IntKind.i32.wrap (bits .and .u8 (x2.toNat:Int) 15)),2048,2))
     else
      ( if(decide ((x2.toNat:Int) ≥ 240)) then
        some (decide ((x2.toNat:Int)<248))
       else
        some false:Option (Bool))>>=fun o8 =>
      if o8 then
       some (.inl ((IntKind.i32.wrap (bits .and .u8 (x2.toNat:Int) 7)),65536,3))
      else
       some (.inr 65533):Option ((Int×Int×Int)⊕Int))>>=fun o3 =>
  match o3 with
  | .inl y4 =>
   cutL p0 (wr (p1+1)) (p0.length:Int)>>=fun x9 =>
   Qt5 x9 y4.1 y4.2.2>>=fun x10 =>
   ( if(!x10.2) then
     some true
    else
     if(decide (x10.1<y4.2.1)) then
      some true
     else
      Q5n x10.1>>=fun x12 =>
      some (!x12):Option (Bool))>>=fun o11 =>
   if o11 then
    some (65533,1)
   else
    some (x10.1,(wr (y4.2.2+1)))
  | .inr y5 =>
   some (y5,1)
theorem Qady:∀ (p0:(List UInt8)) (p1:Int) (o:Int×Int),Qwy p0 p1=some o→PCall Tryz.prog 186 [sV p0,iV p1] (Qmq o):=by
 intro p0 p1 o h;unfold Qwy at h;refine PCall.ofB mixed tbOk Qadv Tryz.func186 rfl (by kernel_rfl) (Nat.le_of_ble_eq_true rfl) ?_;refine Qaj h (fun o1 ho hk=>?_);refine Exists.intro (JP1 _ _ o1 .normal (Q7y p0 p1)) (And.intro ?_ (Qa5 ?_))
 ·have h:=ho;refine Qac h (fun hb h=>?_) (fun hb h=>?_)
  ·refine JP1.a h ?_;exact Le.tz 0 0 rfl rfl rfl
  ·refine vrfl ?_;refine JP1.a h ?_;exact Le.tz 0 0 rfl rfl rfl
 ·have h:=hk;refine Qac h (fun hb h=>?_) (fun hb h=>?_)
  ·refine Qar (t:=Qmq) h ?_;exact .refl _
  ·refine Qdg h (fun x2 hi h=>?_);refine Qaj h (fun o3 ho hk=>?_);refine Exists.intro (JP2 _ _ o3 .normal (Q7z p0 p1) .ret (Q70 p0 p1)) (And.intro ?_ (Qfx (fun y4 hy=>?_) (fun y5 hy=>?_)))
   ·have h:=ho;refine Qac h (fun hb h=>?_) (fun hb h=>?_)
    ·refine vrfl ?_;refine JP2.b h ?_;exact Le.tz 0 0 rfl rfl rfl
    ·refine Qaj h (fun o6 ho hk=>?_);refine Exists.intro (JP1 _ _ o6 .normal (Q71 p0 p1 x2)) (And.intro ?_ (Qa5 ?_))
     ·have h:=ho;refine Qac h (fun hb h=>?_) (fun hb h=>?_)
      ·refine JP1.a h ?_;exact Le.tz 0 0 rfl rfl rfl
      ·refine JP1.a h ?_;exact Le.tz 0 0 rfl rfl rfl
     ·have h:=hk;refine Qac h (fun hb h=>?_) (fun hb h=>?_)
      ·refine vrfl ?_;refine JP2.a h ?_;exact Le.tz 0 0 rfl rfl rfl
      ·refine Qaj h (fun o7 ho hk=>?_);refine Exists.intro (JP1 _ _ o7 .normal (Q72 p0 p1 x2)) (And.intro ?_ (Qa5 ?_))
       ·have h:=ho;refine Qac h (fun hb h=>?_) (fun hb h=>?_)
        ·refine JP1.a h ?_;exact Le.tz 0 0 rfl rfl rfl
        ·refine JP1.a h ?_;exact Le.tz 0 0 rfl rfl rfl
       ·have h:=hk;refine Qac h (fun hb h=>?_) (fun hb h=>?_)
        ·refine vrfl ?_;refine JP2.a h ?_;exact Le.tz 0 0 rfl rfl rfl
        ·refine Qaj h (fun o8 ho hk=>?_);refine Exists.intro (JP1 _ _ o8 .normal (Q73 p0 p1 x2)) (And.intro ?_ (Qa5 ?_))
         ·have h:=ho;refine Qac h (fun hb h=>?_) (fun hb h=>?_)
          ·refine JP1.a h ?_;exact Le.tz 0 0 rfl rfl rfl
          ·refine JP1.a h ?_;exact Le.tz 0 0 rfl rfl rfl
         ·have h:=hk;refine Qac h (fun hb h=>?_) (fun hb h=>?_)
          ·refine vrfl ?_;refine JP2.a h ?_;exact Le.tz 0 0 rfl rfl rfl
          ·refine JP2.b h ?_;exact Le.tz 0 0 rfl rfl rfl
   ·have h:=(by rw[hy] at hk; exact hk);refine Qi2 (some (wr (p1+1))) none h (fun x9 hi h=>?_);refine Qam [sV x9,nV .i32 y4.1,iV y4.2.2] Qpq h (fun x10 hy=>(Qadx x9 y4.1 y4.2.2 x10 hy)) (fun x10 hy h=>?_);refine Qaj h (fun o11 ho hk=>?_);refine Exists.intro (JP1 _ _ o11 .normal (Q74 y4 x10)) (And.intro ?_ (Qa5 ?_))
    ·have h:=ho;refine Qac h (fun hb h=>?_) (fun hb h=>?_)
     ·refine bT ?_;refine JP1.a h ?_;exact Le.tz 0 0 rfl rfl rfl
     ·refine Qac h (fun hb h=>?_) (fun hb h=>?_)
      ·refine JP1.a h ?_;exact Le.tz 0 0 rfl rfl rfl
      ·refine Qam [nV .i32 x10.1] Q75 h (fun x12 hy=>(Qajm x10.1 x12 hy)) (fun x12 hy h=>?_);refine JP1.a h ?_;exact Le.tz 0 0 rfl rfl rfl
    ·have h:=hk;refine Qac h (fun hb h=>?_) (fun hb h=>?_)
     ·refine Qar (t:=Qmq) h ?_;exact .refl _
     ·refine Qar (t:=Qmq) h ?_;exact .refl _
   ·have h:=(by rw[hy] at hk; exact hk);refine Qar (t:=Qmq) h ?_;exact .refl _
def Qfc (p0:(List UInt8)) (v3:Int):Option ((List (Int×Int))×(Unit)) :=
 if(decide (v3<(p0.length:Int))) then
  Qwy p0 v3>>=fun x3 =>
  ( Qfc p0 (wr (v3+x3.2)))>>=fun q=>some ((x3.1,x3.2)::q.1,q.2)
 else
  some ([],())
 partial_fixpoint
theorem Qahm:∀ (p0:(List UInt8)),(∀ (v3:Int) (o2:(List (Int×Int))×(Unit)),Qfc p0 v3=some o2→∀ (gxs gp gpost gq1:List (List V)),gxs=gp++(o2.1.map Qkk++gpost)→gxs=gq1++gpost→TL (0,1) Tryz.prog 24 Q39 (Qs (0,1) 24 gxs (JP1 (0,1) 24 o2.2 (.exit 0) (Qs4 p0 gxs gq1))) (Qnf p0 v3 gxs gp)):=by
 intro p0;refine Qfc.partial_correctness p0 _ ?_;intro Qfc' iQfc v3 o2 h;intro gxs gp gpost gq1 hx hq;refine TL.round (Qaq mixed tbOk (lv:=Qy1) _ _ _ ?_);refine vrfl ?_;refine Qac h (fun hb h=>?_) (fun hb h=>?_)
 ·refine Qam [sV p0,iV v3] Qmq h (fun x3 hy=>(Qady p0 v3 x3 hy)) (fun x3 hy h=>?_);refine Qaiz (c:=Qkk) h hx (.refl _) (by exact rfl) (by exact rfl) (fun _ h hx=>?_) ?_
  ·refine bF ?_;refine TL.le (τ := Qnf p0 (wr (v3+x3.2)) gxs (gp++[Qkk (x3.1,x3.2)])) ?_ ((iQfc (wr (v3+x3.2)) _ h) _ _ _ _ hx hq);exact Le.tz 0 1 rfl rfl rfl
  ·refine bT ?_;exact .inr ⟨rfl,_,(Le.env0 _).trans (Le.tow 0 1 rfl .nil (.refl _) rfl),rfl,rfl,rfl⟩
 ·exact .inl (JP1.a (sndI h) (Le.tz 0 1 rfl rfl (Qali h hx hq rfl)))
def Qwz (p0:(List UInt8)):Option ((List (Int×Int))×Unit) :=
 ( Qfc p0 0)>>=fun o2=>(
  some ([],()))>>=fun q=>some (o2.1++q.1,q.2)
theorem Qabp:∀ (p0:(List UInt8)) (o:(List (Int×Int))×Unit),Qwz p0=some o→∀ gxs:List (List V),gxs=o.1.map Qkk→IterOK Tryz.prog 185 [.ep [sV p0]] gxs:=by
 intro p0 o h;unfold Qwz at h;intro gxs hg;have hx:gxs=[]++(o.1.map Qkk++[]):=by simp[hg]
 refine IterOK.ofB mixed tbOk Qy1 Tryz.func185 rfl (by kernel_rfl) (Nat.le_of_ble_eq_true rfl) rfl ?_;refine Q0d h hx (fun o2 lgq1 gq1 ho hk hxa hjgq1=>?_);refine Exists.intro (Qs _ _ gxs (JP1 _ _ o2.2 (.exit 0) (Qs4 p0 gxs gq1))) (And.intro (Qhn (τ := Qnf p0 0 gxs ([]:List (List V))) ?_ (TL.loop ((Qahm p0 0 o2 ho) _ _ _ _ hxa hjgq1))) (Qalj (Qa5 ?_) ?_))
 ·exact Le.tz 0 1 rfl rfl rfl
 ·have h:=hk;have hx:=hjgq1;exact Qaiy h hx (.inl rfl) rfl
 ·exact fun s1 h1 h2 hs=>Qafb (.inr rfl) hs
def Qabq (p0:(List UInt8)):Option (Bool) :=
 Q8c p0>>=fun x1 =>
 Qwz x1>>=fun y5 =>
 (Qli x1 y5.1)>>=fun o6 =>
 match o6 with
 | .inl y7 =>
  some true
 | .inr y8 =>
  some false
theorem Qajo:∀ (p0:(List UInt8)) (o:Bool),Qabq p0=some o→PCall Tryz.prog 168 [sV p0] (Q0g o):=by
 intro p0 o h;unfold Qabq at h;refine PCall.ofB mixed tbOk Q1z Tryz.func168 rfl (by kernel_rfl) (Nat.le_of_ble_eq_true rfl) ?_;refine Qam [sV p0] Q10 h (fun x1 hy=>(Qagy p0 x1 hy)) (fun x1 hy h=>?_);refine Qaj h (fun y5 hy5 h=>?_);refine Qaj h (fun o6 ho hk=>?_);refine Exists.intro (JP2 _ _ o6 .normal (Qyz x1) .ret (Qy0 x1)) (And.intro (Qhn (τ := Qn5 x1) ?_ (Q6o (g:=185) (cap:=[.ep [sV x1]]) rfl ((Qabp x1 y5 hy5) _ rfl) (Q1d fun _=>rfl) rfl (Nat.le_of_ble_eq_true rfl) (Nat.le_of_ble_eq_true rfl) (Qalr x1 y5.1 o6 ho))) (Qfx (fun y7 hy=>?_) (fun y8 hy=>?_)))
 ·exact Le.tz 1 0 rfl rfl rfl
 ·have h:=(by rw[hy] at hk; exact hk);refine Qar (t:=Q0g) h ?_;exact .refl _
 ·have h:=(by rw[hy] at hk; exact hk);refine Qar (t:=Q0g) h ?_;exact .refl _
def Qlj (p0:(List UInt8)):Option ((List UInt8)×Bool) :=
 ( Qabq p0>>=fun x2 =>
  if(!x2) then
   some true
  else
   Qhk p0 13>>=fun x3 =>
   some (decide (x3 ≥ 0)):Option (Bool))>>=fun o1 =>
 if o1 then
  some ([],false)
 else
  (Qdh p0 [34] 0)>>=fun o4 =>
  appL 1 o4 [34]>>=fun x11 =>
  b2s x11>>=fun x12 =>
  some (x12,true)
theorem Qabr:∀ (p0:(List UInt8)) (o:(List UInt8)×Bool),Qlj p0=some o→PCall Tryz.prog 154 [sV p0] (Qqh o):=by
 intro p0 o h;unfold Qlj at h;refine PCall.ofB mixed tbOk Qyy Tryz.func154 rfl (by kernel_rfl) (Nat.le_of_ble_eq_true rfl) ?_;refine Qaj h (fun o1 ho hk=>?_);refine Exists.intro (JP1 _ _ o1 .normal (Q3r p0)) (And.intro ?_ (Qa5 ?_))
 ·have h:=ho;refine Qam [sV p0] Q0g h (fun x2 hy=>(Qajo p0 x2 hy)) (fun x2 hy h=>?_);refine Qac h (fun hb h=>?_) (fun hb h=>?_)
  ·refine JP1.a h ?_;exact Le.tz 0 0 rfl rfl rfl
  ·refine Qam [sV p0,nV .u8 13] Qib h (fun x3 hy=>(Quk p0 13 x3 hy)) (fun x3 hy h=>?_);refine JP1.a h ?_;exact Le.tz 0 0 rfl rfl rfl
 ·have h:=hk;refine Qac h (fun hb h=>?_) (fun hb h=>?_)
  ·refine Qar (t:=Qqh) h ?_;exact .refl _
  ·refine vrfl ?_;refine Qaj h (fun o4 ho hk=>?_);refine Exists.intro (JP1 _ _ o4 (.exit 0) (Qsz p0)) (And.intro (Qhn (τ := Qe3 p0 [34] 0) ?_ (TL.loop (Qahl p0 [34] 0 o4 ho))) (Qa5 ?_))
   ·exact Le.trans (τ := ⟨[(0,.p (sV p0)),(4,.p (.sl true ([34].map (cNum .u8)))),(17,.p (iV (p0.length:Int))),(18,.p (iV 0))],⟨[],[]⟩⟩) (Le.tz 0 0 rfl rfl rfl) ((Le.ownW 4 5 1 rfl (Q1d fun _=>rfl)).trans (Le.tz 0 1 rfl rfl rfl))
   have h:=hk;refine Qlv (a:=o4) (b:=[34]) (c:=(cNum .u8)) h (.refl _) (fun _=>rfl) rfl (fun x11 hi h=>?_);refine Qaav (l:=x11) h (fun x12 hi h=>?_);refine Qar (t:=Qqh) h ?_;exact .refl _
def Qiv (p0:Qab):Option (Qdr) :=
 some (Qdr.mk (!(p0.Name==[])) (!(p0.Text==[])) (p0.N != 0) (decide ((p0.Then.length:Int)>0)) (decide ((p0.Else.length:Int)>0)) (p0.L.length:Int))
theorem Qs8:∀ (p0:Qab) (o:Qdr),Qiv p0=some o→PCall Tryz.prog 126 [.agg [iV p0.Kind,sV p0.Name,sV p0.Text,iV p0.N,.sl false (p0.L.map Qaa),.sl false (p0.Then.map Qaa),.sl false (p0.Else.map Qaa)]] (Qk5 o):=by
 intro p0 o h;unfold Qiv at h;refine PCall.ofB mixed tbOk Q1y Tryz.func126 rfl (by kernel_rfl) (Nat.le_of_ble_eq_true rfl) ?_;refine view (Qax _ _) rfl ?_;refine view (Qax _ _) rfl ?_;refine view (Qax _ _) rfl ?_;refine Qar (t:=Qk5) h ?_;exact .refl _
mutual
def Qa8 (p0:(List Qab)):Option (Bool) :=
 Qbm p0>>=fun x1 =>
 some (decide (x1 ≥ 0))
 partial_fixpoint
def Qbm (p0:(List Qab)):Option (Int) :=
 (Qay p0 0)>>=fun o1 =>
 match o1 with
 | .inl y2 =>
  some (-1)
 | .inr y3 =>
  some y3
 partial_fixpoint
def Qay (p0:(List Qab)) (v8:Int):Option (Unit⊕Int) :=
 if(decide (v8<(p0.length:Int))) then
  idx p0 v8>>=fun x4 =>
  Qvz x4>>=fun x5 =>
  if x5 then
   some (.inr v8)
  else
   Qay p0 (wr (v8+1))
 else
  some (.inl ())
 partial_fixpoint
def Qvz (p0:Qab):Option (Bool) :=
 Qf2 p0>>=fun x1 =>
 some (!x1)
 partial_fixpoint
def Qf2 (p0:Qab):Option (Bool) :=
 Qiv p0>>=fun x1 =>
 if(p0.Kind==1) then
  Qlj p0.Text>>=fun x2 =>
  ( if x2.2 then
    some ((x1.name_==false)&&((x1.text_==x1.text_)&&((x1.num_==false)&&((x1.then_==false)&&((x1.other_==false)&&((x1.l_==0)&&true))))))
   else
    some false:Option (Bool))>>=fun o3 =>
  some o3
 else
  if(p0.Kind==2) then
   some ((x1.name_==false)&&((x1.text_==false)&&((x1.num_==x1.num_)&&((x1.then_==false)&&((x1.other_==false)&&((x1.l_==0)&&true))))))
  else
   if(p0.Kind==3) then
    ( if((bits .andNot .i64 p0.N 1)==0) then
      some ((x1.name_==false)&&((x1.text_==false)&&((x1.num_==x1.num_)&&((x1.then_==false)&&((x1.other_==false)&&((x1.l_==0)&&true))))))
     else
      some false:Option (Bool))>>=fun o4 =>
    some o4
   else
    if(p0.Kind==4) then
     ( Qjf p0.Name>>=fun x6 =>
      if x6 then
       some ((x1.name_==true)&&((x1.text_==false)&&((x1.num_==false)&&((x1.then_==false)&&((x1.other_==false)&&((x1.l_==0)&&true))))))
      else
       some false:Option (Bool))>>=fun o5 =>
     some o5
    else
     if(p0.Kind==7) then
      ( Qqn p0.Name>>=fun x8 =>
       if x8 then
        some ((x1.name_==true)&&((x1.text_==false)&&((x1.num_==false)&&((x1.then_==false)&&((x1.other_==false)&&((x1.l_==0)&&true))))))
       else
        some false:Option (Bool))>>=fun o7 =>
      some o7
     else
      if(p0.Kind==5) then
       ( Qqn p0.Name>>=fun x10 =>
        if x10 then
         if((x1.name_==true)&&((x1.text_==false)&&((x1.num_==false)&&((x1.then_==false)&&((x1.other_==false)&&((x1.l_==1)&&true)))))) then
          idx p0.L 0>>=fun x11 =>
          Qf2 x11>>=fun x12 =>
          some x12
         else
          some false
        else
         some false:Option (Bool))>>=fun o9 =>
       some o9
      else
       if(p0.Kind==6) then
        ( Qjf p0.Name>>=fun x14 =>
         if x14 then
          if((x1.name_==true)&&((x1.text_==false)&&((x1.num_==false)&&((x1.then_==false)&&((x1.other_==false)&&((x1.l_==(if 3<x1.l_ then 3 else x1.l_))&&true)))))) then
           Qa8 p0.L>>=fun x15 =>
           some (!x15)
          else
           some false
         else
          some false:Option (Bool))>>=fun o13 =>
        some o13
       else
        some false
 partial_fixpoint
end
theorem Qdv:(∀ (p0:(List Qab)) (o:Bool),Qa8 p0=some o→CallOK Tryz.prog 56 [.p (.sl false (p0.map Qaa)),.fn (.func 155) [] []] ⟨[],[]⟩ (Qb3 o) ⟨[],[]⟩)∧(∀ (p0:(List Qab)) (o:Int),Qbm p0=some o→CallOK Tryz.prog 83 [.p (.sl false (p0.map Qaa)),.fn (.func 155) [] []] ⟨[],[]⟩ (Qbl o) ⟨[],[]⟩)∧(∀ (p0:(List Qab)) (v8:Int) (o1:Unit⊕Int),Qay p0 v8=some o1→TL (0,0) Tryz.prog 19 Qd4 (JP2 (0,0) 19 o1 (.exit 0) (Qb0 p0) .ret (Qb1 p0)) (Qbg p0 v8))∧(∀ (p0:Qab) (o:Bool),Qvz p0=some o→PCall Tryz.prog 155 [.agg [iV p0.Kind,sV p0.Name,sV p0.Text,iV p0.N,.sl false (p0.L.map Qaa),.sl false (p0.Then.map Qaa),.sl false (p0.Else.map Qaa)]] (Qqk o))∧(∀ (p0:Qab) (o:Bool),Qf2 p0=some o→PCall Tryz.prog 128 [.agg [iV p0.Kind,sV p0.Name,sV p0.Text,iV p0.N,.sl false (p0.L.map Qaa),.sl false (p0.Then.map Qaa),.sl false (p0.Else.map Qaa)]] (Qc8 o)):=by
 refine Qa8.mutual_partial_correctness _ _ _ _ _ ?_ ?_ ?_ ?_ ?_
 ·intro Qbm' iQbm p0 o h;refine CallOK.ofB mixed tbOk Qd0 Tryz.func56 rfl (by kernel_rfl) (Nat.le_of_ble_eq_true rfl) rfl rfl rfl ?_;refine Qap _ _ h (fun x1 hy=>((iQbm p0 x1 hy).fr [] [] rfl rfl rfl)) (fun x1 hy h=>?_);refine Exists.intro _ (And.intro (Le.refl _ _ _) ?_);exact Qbb (t:=Qb3) (ss:=fun o=>⟨[],[]⟩) h ⟨[],rfl,.refl _,.refl _,rfl⟩
 ·intro Qay' iQay p0 o h;refine CallOK.ofB mixed tbOk Qca Tryz.func83 rfl (by kernel_rfl) (Nat.le_of_ble_eq_true rfl) rfl rfl rfl ?_;refine view (Qax _ _) rfl ?_;refine Qaj h (fun o1 ho hk=>?_);refine Exists.intro (JP2 _ _ o1 (.exit 0) (Qb0 p0) .ret (Qb1 p0)) (And.intro (Qhn (τ := Qbg p0 0) ?_ (TL.loop (iQay p0 0 o1 ho))) (Qfx (fun y2 hy=>?_) (fun y3 hy=>?_)))
  ·exact Le.tz 0 0 rfl rfl rfl
  ·have h:=(by rw[hy] at hk; exact hk);refine Exists.intro _ (And.intro (Le.refl _ _ _) ?_);exact Qbb (t:=Qbl) (ss:=fun o=>⟨[],[]⟩) h ⟨[],rfl,.refl _,.refl _,rfl⟩
  ·have h:=(by rw[hy] at hk; exact hk);refine Exists.intro _ (And.intro (Le.refl _ _ _) ?_);exact Qbb (t:=Qbl) (ss:=fun o=>⟨[],[]⟩) h ⟨[],rfl,.refl _,.refl _,rfl⟩
 ·intro Qay' Qvz' iQay iQvz p0 v8 o1 h;refine TL.round (Qaq mixed tbOk (lv:=Qca) _ _ _ ?_);refine Qac h (fun hb h=>?_) (fun hb h=>?_)
  ·refine Qa7 (l:=p0) (c:=Qaa) (c' := Qa2) h Qan (fun _=>rfl) (by decide) (fun x4 hi h=>?_);refine Qam [.agg [iV x4.Kind,sV x4.Name,sV x4.Text,iV x4.N,.sl false (x4.L.map Qaa),.sl false (x4.Then.map Qaa),.sl false (x4.Else.map Qaa)]] Qqk h (fun x5 hy=>(iQvz x4 x5 hy)) (fun x5 hy h=>?_);refine Qac h (fun hb h=>?_) (fun hb h=>?_)
   ·exact JP2.b h (Le.tz 0 0 rfl rfl rfl)
   ·refine TL.le (τ := Qbg p0 (wr (v8+1))) ?_ ((iQay p0 (wr (v8+1)) _ h));exact Le.tz 0 0 rfl rfl rfl
  ·exact JP2.a h (Le.tz 0 0 rfl rfl rfl)
 ·intro Qf2' iQf2 p0 o h;refine PCall.ofB mixed tbOk Q32 Tryz.func155 rfl (by kernel_rfl) (Nat.le_of_ble_eq_true rfl) ?_;refine Qam [.agg [iV p0.Kind,sV p0.Name,sV p0.Text,iV p0.N,.sl false (p0.L.map Qaa),.sl false (p0.Then.map Qaa),.sl false (p0.Else.map Qaa)]] Qc8 h (fun x1 hy=>(iQf2 p0 x1 hy)) (fun x1 hy h=>?_);refine Qar (t:=Qqk) h ?_;exact .refl _
 ·intro Qa8' Qf2' iQa8 iQf2 p0 o h;refine PCall.ofB mixed tbOk Qaba Tryz.func128 rfl (by kernel_rfl) (Nat.le_of_ble_eq_true rfl) ?_;refine Qam [.agg [iV p0.Kind,sV p0.Name,sV p0.Text,iV p0.N,.sl false (p0.L.map Qaa),.sl false (p0.Then.map Qaa),.sl false (p0.Else.map Qaa)]] Qk5 h (fun x1 hy=>(Qs8 p0 x1 hy)) (fun x1 hy h=>?_);refine Qac h (fun hb h=>?_) (fun hb h=>?_)
  ·refine Qam [sV p0.Text] Qqh h (fun x2 hy=>(Qabr p0.Text x2 hy)) (fun x2 hy h=>?_);refine Qaj h (fun o3 ho hk=>?_);refine Exists.intro (JP1 _ _ o3 .normal (Q3w p0 x1)) (And.intro ?_ (Qa5 ?_))
   ·have h:=ho;refine Qac h (fun hb h=>?_) (fun hb h=>?_)
    ·refine And.intro rfl ?_;refine JP1.a h ?_;exact Le.tz 3 0 rfl rfl rfl
    ·refine JP1.a h ?_;exact Le.tz 3 0 rfl rfl rfl
   ·have h:=hk;refine Qar (t:=Qc8) h ?_;exact .refl _
  ·refine Qac h (fun hb h=>?_) (fun hb h=>?_)
   ·refine And.intro rfl ?_;refine Qar (t:=Qc8) h ?_;exact .refl _
   ·refine Qac h (fun hb h=>?_) (fun hb h=>?_)
    ·refine Qaj h (fun o4 ho hk=>?_);refine Exists.intro (JP1 _ _ o4 .normal (Q3x p0 x1)) (And.intro ?_ (Qa5 ?_))
     ·have h:=ho;refine Qac h (fun hb h=>?_) (fun hb h=>?_)
      ·refine And.intro rfl ?_;refine JP1.a h ?_;exact Le.tz 3 0 rfl rfl rfl
      ·refine JP1.a h ?_;exact Le.tz 3 0 rfl rfl rfl
     ·have h:=hk;refine Qar (t:=Qc8) h ?_;exact .refl _
    ·refine Qac h (fun hb h=>?_) (fun hb h=>?_)
     ·refine Qaj h (fun o5 ho hk=>?_);refine Exists.intro (JP1 _ _ o5 .normal (Q3y p0 x1)) (And.intro ?_ (Qa5 ?_))
      ·have h:=ho;refine Qam [sV p0.Name] Qgp h (fun x6 hy=>(Qlh p0.Name x6 hy)) (fun x6 hy h=>?_);refine Qac h (fun hb h=>?_) (fun hb h=>?_)
       ·refine And.intro rfl ?_;refine JP1.a h ?_;exact Le.tz 3 0 rfl rfl rfl
       ·refine JP1.a h ?_;exact Le.tz 3 0 rfl rfl rfl
      ·have h:=hk;refine Qar (t:=Qc8) h ?_;exact .refl _
     ·refine Qac h (fun hb h=>?_) (fun hb h=>?_)
      ·refine Qaj h (fun o7 ho hk=>?_);refine Exists.intro (JP1 _ _ o7 .normal (Q3z p0 x1)) (And.intro ?_ (Qa5 ?_))
       ·have h:=ho;refine Qam [sV p0.Name] Qmp h (fun x8 hy=>(Qvy p0.Name x8 hy)) (fun x8 hy h=>?_);refine Qac h (fun hb h=>?_) (fun hb h=>?_)
        ·refine And.intro rfl ?_;refine JP1.a h ?_;exact Le.tz 3 0 rfl rfl rfl
        ·refine JP1.a h ?_;exact Le.tz 3 0 rfl rfl rfl
       ·have h:=hk;refine Qar (t:=Qc8) h ?_;exact .refl _
      ·refine Qac h (fun hb h=>?_) (fun hb h=>?_)
       ·refine Qaj h (fun o9 ho hk=>?_);refine Exists.intro (JP1 _ _ o9 .normal (Q30 p0 x1)) (And.intro ?_ (Qa5 ?_))
        ·have h:=ho;refine Qam [sV p0.Name] Qmp h (fun x10 hy=>(Qvy p0.Name x10 hy)) (fun x10 hy h=>?_);refine Qac h (fun hb h=>?_) (fun hb h=>?_)
         ·refine And.intro rfl ?_;refine Qac h (fun hb h=>?_) (fun hb h=>?_)
          ·refine Qa7 (l:=p0.L) (c:=Qaa) (c' := Qa2) h Qan (fun _=>rfl) (by decide) (fun x11 hi h=>?_);refine Qam [.agg [iV x11.Kind,sV x11.Name,sV x11.Text,iV x11.N,.sl false (x11.L.map Qaa),.sl false (x11.Then.map Qaa),.sl false (x11.Else.map Qaa)]] Qc8 h (fun x12 hy=>(iQf2 x11 x12 hy)) (fun x12 hy h=>?_);refine JP1.a h ?_;exact Le.tz 3 0 rfl rfl rfl
          ·refine JP1.a h ?_;exact Le.tz 3 0 rfl rfl rfl
         ·refine bF ?_;refine JP1.a h ?_;exact Le.tz 3 0 rfl rfl rfl
        ·have h:=hk;refine Qar (t:=Qc8) h ?_;exact .refl _
       ·refine Qac h (fun hb h=>?_) (fun hb h=>?_)
        ·refine Qaj h (fun o13 ho hk=>?_);refine Exists.intro (JP1 _ _ o13 .normal (Q31 p0 x1)) (And.intro ?_ (Qa5 ?_))
         ·have h:=ho;refine Qam [sV p0.Name] Qgp h (fun x14 hy=>(Qlh p0.Name x14 hy)) (fun x14 hy h=>?_);refine Qac h (fun hb h=>?_) (fun hb h=>?_)
          ·refine And.intro rfl ?_;refine Qac h (fun hb h=>?_) (fun hb h=>?_)
           ·refine Qap _ _ h (fun x15 hy=>((iQa8 p0.L x15 hy).fr [] [] rfl rfl rfl)) (fun x15 hy h=>?_);refine JP1.a h ?_;exact Le.tz 3 0 rfl rfl rfl
           ·refine JP1.a h ?_;exact Le.tz 3 0 rfl rfl rfl
          ·refine bF ?_;refine JP1.a h ?_;exact Le.tz 3 0 rfl rfl rfl
         ·have h:=hk;refine Qar (t:=Qc8) h ?_;exact .refl _
        ·refine Qar (t:=Qc8) h ?_;exact .refl _
theorem Qabs:∀ (p0:Qab) (o:Bool),Qf2 p0=some o→PCall Tryz.prog 128 [.agg [iV p0.Kind,sV p0.Name,sV p0.Text,iV p0.N,.sl false (p0.L.map Qaa),.sl false (p0.Then.map Qaa),.sl false (p0.Else.map Qaa)]] (Qc8 o):=fun p0=>Qdv.2.2.2.2 p0
mutual
def Qiw (p0:(List Qab)) (p1:Bool):Option (Bool) :=
 (Qhl p0 p1 0)>>=fun o1 =>
 match o1 with
 | .inl y2 =>
  some true
 | .inr y3 =>
  some false
 partial_fixpoint
def Qhl (p0:(List Qab)) (p1:Bool) (v10:Int):Option (Unit⊕Unit) :=
 if(decide (v10<(p0.length:Int))) then
  idx p0 v10>>=fun x4 =>
  Qs9 x4>>=fun x5 =>
  if(!x5) then
   some (.inr ())
  else
   ( if(x4.Kind==8) then
     if(!(v10==(wr ((p0.length:Int)-1)))) then
      idx p0 (wr (v10+1))>>=fun x7 =>
      if(x7.Kind==8) then
       some true
      else
       if(v10==(wr ((p0.length:Int)-1))) then
        if(!p1) then
         Qco x4.Text [123]>>=fun x8 =>
         some x8
        else
         some false
       else
        Qco x4.Text [123]>>=fun x9 =>
        some x9
     else
      if(v10==(wr ((p0.length:Int)-1))) then
       if(!p1) then
        Qco x4.Text [123]>>=fun x10 =>
        some x10
       else
        some false
      else
       Qco x4.Text [123]>>=fun x11 =>
       some x11
    else
     some false:Option (Bool))>>=fun o6 =>
   if o6 then
    some (.inr ())
   else
    Qhl p0 p1 (wr (v10+1))
 else
  some (.inl ())
 partial_fixpoint
def Qs9 (p0:Qab):Option (Bool) :=
 Qiv p0>>=fun x1 =>
 ( if(p0.Kind==8) then
   ( if((x1.name_==false)&&((x1.text_==true)&&((x1.num_==false)&&((x1.then_==false)&&((x1.other_==false)&&((x1.l_==0)&&true)))))) then
     Qf1 p0.Text [123,123]>>=fun x6 =>
     some (!x6)
    else
     some false:Option (Bool))>>=fun o5 =>
   some (.inr o5)
  else
   if(p0.Kind==9) then
    some (.inl (false,false,false))
   else
    if(p0.Kind==10) then
     some (.inl (false,x1.then_,x1.other_))
    else
     ( if(p0.Kind==11) then
       some (p0.Kind==11)
      else
       some (p0.Kind==12):Option (Bool))>>=fun o7 =>
     if o7 then
      Qjf p0.Name>>=fun x8 =>
      some (.inl (x8,x1.then_,false))
     else
      if(p0.Kind==13) then
       Qjf p0.Name>>=fun x9 =>
       some (.inl (x9,false,false))
      else
       some (.inr false):Option ((Bool×Bool×Bool)⊕Bool))>>=fun o2 =>
 match o2 with
 | .inl y3 =>
  ( if(p0.Kind==11) then
    some true
   else
    if(p0.Kind==12) then
     some true
    else
     some (p0.Kind==13):Option (Bool))>>=fun o10 =>
  ( if(y3.1==o10) then
    if((x1.name_==y3.1)&&((x1.text_==false)&&((x1.num_==false)&&((x1.then_==y3.2.1)&&((x1.other_==y3.2.2)&&((x1.l_==1)&&true)))))) then
     idx p0.L 0>>=fun x12 =>
     Qf2 x12>>=fun x13 =>
     if x13 then
      Qiw p0.Then false>>=fun x14 =>
      if x14 then
       Qiw p0.Else false>>=fun x15 =>
       some x15
      else
       some false
     else
      some false
    else
     some false
   else
    some false:Option (Bool))>>=fun o11 =>
  some o11
 | .inr y4 =>
  some y4
 partial_fixpoint
end
theorem Q4b:(∀ (p0:(List Qab)) (p1:Bool) (o:Bool),Qiw p0 p1=some o→PCall Tryz.prog 72 [.sl false (p0.map Qaa),bV p1] (Qgq o))∧(∀ (p0:(List Qab)) (p1:Bool) (v10:Int) (o1:Unit⊕Unit),Qhl p0 p1 v10=some o1→TL (0,0) Tryz.prog 52 Q1x (JP2 (0,0) 52 o1 (.exit 0) (Qra p0 p1) .ret (Qrb p0 p1)) (Ql1 p0 p1 v10))∧(∀ (p0:Qab) (o:Bool),Qs9 p0=some o→PCall Tryz.prog 97 [.agg [iV p0.Kind,sV p0.Name,sV p0.Text,iV p0.N,.sl false (p0.L.map Qaa),.sl false (p0.Then.map Qaa),.sl false (p0.Else.map Qaa)]] (Qql o)):=by
 refine Qiw.mutual_partial_correctness _ _ _ ?_ ?_ ?_
 ·intro Qhl' iQhl p0 p1 o h;refine PCall.ofB mixed tbOk Qwv Tryz.func72 rfl (by kernel_rfl) (Nat.le_of_ble_eq_true rfl) ?_;refine view (Qax _ _) rfl ?_;refine Qaj h (fun o1 ho hk=>?_);refine Exists.intro (JP2 _ _ o1 (.exit 0) (Qra p0 p1) .ret (Qrb p0 p1)) (And.intro (Qhn (τ := Ql1 p0 p1 0) ?_ (TL.loop (iQhl p0 p1 0 o1 ho))) (Qfx (fun y2 hy=>?_) (fun y3 hy=>?_)))
  ·exact Le.tz 0 0 rfl rfl rfl
  ·have h:=(by rw[hy] at hk; exact hk);refine Qar (t:=Qgq) h ?_;exact .refl _
  ·have h:=(by rw[hy] at hk; exact hk);refine Qar (t:=Qgq) h ?_;exact .refl _
 ·intro Qhl' Qs9' iQhl iQs9 p0 p1 v10 o1 h;refine TL.round (Qaq mixed tbOk (lv:=Qwv) _ _ _ ?_);refine Qac h (fun hb h=>?_) (fun hb h=>?_)
  ·refine Qa7 (l:=p0) (c:=Qaa) (c' := Qa2) h Qan (fun _=>rfl) (by decide) (fun x4 hi h=>?_);refine Qam [.agg [iV x4.Kind,sV x4.Name,sV x4.Text,iV x4.N,.sl false (x4.L.map Qaa),.sl false (x4.Then.map Qaa),.sl false (x4.Else.map Qaa)]] Qql h (fun x5 hy=>(iQs9 x4 x5 hy)) (fun x5 hy h=>?_);refine Qac h (fun hb h=>?_) (fun hb h=>?_)
   ·exact JP2.b h (Le.tz 0 0 rfl rfl rfl)
   ·refine view (Qax _ _) rfl ?_;refine Qaj h (fun o6 ho hk=>?_);refine Exists.intro (JP1 _ _ o6 .normal (Q1w p0 p1 v10 x4)) (And.intro ?_ (Qa5 ?_))
    ·have h:=ho;refine Qac h (fun hb h=>?_) (fun hb h=>?_)
     ·refine Qac h (fun hb h=>?_) (fun hb h=>?_)
      ·refine Qa7 (l:=p0) (c:=Qaa) (c' := Qa2) h Qan (fun _=>rfl) (by decide) (fun x7 hi h=>?_);refine Qac h (fun hb h=>?_) (fun hb h=>?_)
       ·refine JP1.a h ?_;exact Le.tz 1 0 rfl rfl rfl
       ·refine Qac h (fun hb h=>?_) (fun hb h=>?_)
        ·refine Qac h (fun hb h=>?_) (fun hb h=>?_)
         ·refine Qam [sV x4.Text,sV [123]] Qc7 h (fun x8 hy=>(Qe2 x4.Text [123] x8 hy)) (fun x8 hy h=>?_);refine JP1.a h ?_;exact Le.tz 1 0 rfl rfl rfl
         ·refine JP1.a h ?_;exact Le.tz 1 0 rfl rfl rfl
        ·refine bT ?_;refine Qam [sV x4.Text,sV [123]] Qc7 h (fun x9 hy=>(Qe2 x4.Text [123] x9 hy)) (fun x9 hy h=>?_);refine JP1.a h ?_;exact Le.tz 1 0 rfl rfl rfl
      ·refine bF ?_;refine Qac h (fun hb h=>?_) (fun hb h=>?_)
       ·refine Qac h (fun hb h=>?_) (fun hb h=>?_)
        ·refine Qam [sV x4.Text,sV [123]] Qc7 h (fun x10 hy=>(Qe2 x4.Text [123] x10 hy)) (fun x10 hy h=>?_);refine JP1.a h ?_;exact Le.tz 1 0 rfl rfl rfl
        ·refine JP1.a h ?_;exact Le.tz 1 0 rfl rfl rfl
       ·refine bT ?_;refine Qam [sV x4.Text,sV [123]] Qc7 h (fun x11 hy=>(Qe2 x4.Text [123] x11 hy)) (fun x11 hy h=>?_);refine JP1.a h ?_;exact Le.tz 1 0 rfl rfl rfl
     ·refine JP1.a h ?_;exact Le.tz 1 0 rfl rfl rfl
    ·have h:=hk;refine Qac h (fun hb h=>?_) (fun hb h=>?_)
     ·exact JP2.b h (Le.tz 0 0 rfl rfl rfl)
     ·refine TL.le (τ := Ql1 p0 p1 (wr (v10+1))) ?_ ((iQhl p0 p1 (wr (v10+1)) _ h));exact Le.tz 0 0 rfl rfl rfl
  ·exact JP2.a h (Le.tz 0 0 rfl rfl rfl)
 ·intro Qiw' iQiw p0 o h;refine PCall.ofB mixed tbOk Qabb Tryz.func97 rfl (by kernel_rfl) (Nat.le_of_ble_eq_true rfl) ?_;refine Qam [.agg [iV p0.Kind,sV p0.Name,sV p0.Text,iV p0.N,.sl false (p0.L.map Qaa),.sl false (p0.Then.map Qaa),.sl false (p0.Else.map Qaa)]] Qk5 h (fun x1 hy=>(Qs8 p0 x1 hy)) (fun x1 hy h=>?_);refine Qaj h (fun o2 ho hk=>?_);refine Exists.intro (JP2 _ _ o2 .normal (Q33 p0 x1) .ret (Q34 p0 x1)) (And.intro ?_ (Qfx (fun y3 hy=>?_) (fun y4 hy=>?_)))
  ·have h:=ho;refine Qac h (fun hb h=>?_) (fun hb h=>?_)
   ·refine Qaj h (fun o5 ho hk=>?_);refine Exists.intro (JP1 _ _ o5 .normal (Q35 p0 x1)) (And.intro ?_ (Qa5 ?_))
    ·have h:=ho;refine And.intro rfl ?_;refine Qac h (fun hb h=>?_) (fun hb h=>?_)
     ·refine Qam [sV p0.Text,sV [123,123]] Qi8 h (fun x6 hy=>(Qvx p0.Text [123,123] x6 hy)) (fun x6 hy h=>?_);refine JP1.a h ?_;exact Le.tz 3 0 rfl rfl rfl
     ·refine JP1.a h ?_;exact Le.tz 3 0 rfl rfl rfl
    ·have h:=hk;refine JP2.b h ?_;exact Le.tz 3 0 rfl rfl rfl
   ·refine Qac h (fun hb h=>?_) (fun hb h=>?_)
    ·refine JP2.a h ?_;exact Le.tz 3 0 rfl rfl rfl
    ·refine Qac h (fun hb h=>?_) (fun hb h=>?_)
     ·refine And.intro (by decide +kernel) (And.intro rfl ?_);refine JP2.a h ?_;exact Le.tz 3 0 rfl rfl rfl
     ·refine Qaj h (fun o7 ho hk=>?_);refine Exists.intro (JP1 _ _ o7 .normal (Q36 p0 x1)) (And.intro ?_ (Qa5 ?_))
      ·have h:=ho;refine Qac h (fun hb h=>?_) (fun hb h=>?_)
       ·refine JP1.a h ?_;exact Le.tz 3 0 rfl rfl rfl
       ·refine JP1.a h ?_;exact Le.tz 3 0 rfl rfl rfl
      ·have h:=hk;refine Qac h (fun hb h=>?_) (fun hb h=>?_)
       ·refine And.intro (by decide +kernel) (And.intro rfl ?_);refine Qdm [sV p0.Name] Qgp h (fun x8 hy=>(Qlh p0.Name x8 hy)) (fun x8 hy h=>?_);refine JP2.a h ?_;exact Le.tz 3 0 rfl rfl rfl
       ·refine Qac h (fun hb h=>?_) (fun hb h=>?_)
        ·refine Qam [sV p0.Name] Qgp h (fun x9 hy=>(Qlh p0.Name x9 hy)) (fun x9 hy h=>?_);refine JP2.a h ?_;exact Le.tz 3 0 rfl rfl rfl
        ·refine JP2.b h ?_;exact Le.tz 3 0 rfl rfl rfl
  ·have h:=(by rw[hy] at hk; exact hk);refine Qaj h (fun o10 ho hk=>?_);refine Exists.intro (JP1 _ _ o10 .normal (Q37 p0 x1 y3)) (And.intro ?_ (Qa5 ?_))
   ·have h:=ho;refine Qac h (fun hb h=>?_) (fun hb h=>?_)
    ·refine bT ?_;refine JP1.a h ?_;exact Le.tz 3 0 rfl rfl rfl
    ·refine Qac h (fun hb h=>?_) (fun hb h=>?_)
     ·refine JP1.a h ?_;exact Le.tz 3 0 rfl rfl rfl
     ·refine JP1.a h ?_;exact Le.tz 3 0 rfl rfl rfl
   ·have h:=hk;refine Qaj h (fun o11 ho hk=>?_);refine Exists.intro (JP1 _ _ o11 .normal (Q38 p0 x1 y3)) (And.intro ?_ (Qa5 ?_))
    ·have h:=ho;refine Qac h (fun hb h=>?_) (fun hb h=>?_)
     ·refine And.intro rfl ?_;refine Qac h (fun hb h=>?_) (fun hb h=>?_)
      ·refine Qa7 (l:=p0.L) (c:=Qaa) (c' := Qa2) h Qan (fun _=>rfl) (by decide) (fun x12 hi h=>?_);refine Qam [.agg [iV x12.Kind,sV x12.Name,sV x12.Text,iV x12.N,.sl false (x12.L.map Qaa),.sl false (x12.Then.map Qaa),.sl false (x12.Else.map Qaa)]] Qc8 h (fun x13 hy=>(Qabs x12 x13 hy)) (fun x13 hy h=>?_);refine Qac h (fun hb h=>?_) (fun hb h=>?_)
       ·refine Qam [.sl false (p0.Then.map Qaa),bV false] Qgq h (fun x14 hy=>(iQiw p0.Then false x14 hy)) (fun x14 hy h=>?_);refine Qac h (fun hb h=>?_) (fun hb h=>?_)
        ·refine Qam [.sl false (p0.Else.map Qaa),bV false] Qgq h (fun x15 hy=>(iQiw p0.Else false x15 hy)) (fun x15 hy h=>?_);refine JP1.a h ?_;exact Le.tz 3 0 rfl rfl rfl
        ·refine JP1.a h ?_;exact Le.tz 3 0 rfl rfl rfl
       ·refine bF ?_;refine JP1.a h ?_;exact Le.tz 3 0 rfl rfl rfl
      ·refine bF ?_;refine bF ?_;refine JP1.a h ?_;exact Le.tz 3 0 rfl rfl rfl
     ·refine bF ?_;refine bF ?_;refine bF ?_;refine JP1.a h ?_;exact Le.tz 3 0 rfl rfl rfl
    ·have h:=hk;refine Qar (t:=Qql) h ?_;exact .refl _
  ·have h:=(by rw[hy] at hk; exact hk);refine Qar (t:=Qql) h ?_;exact .refl _
theorem Q8d:∀ (p0:(List Qab)) (p1:Bool) (o:Bool),Qiw p0 p1=some o→PCall Tryz.prog 72 [.sl false (p0.map Qaa),bV p1] (Qgq o):=fun p0 p1=>Q4b.1 p0 p1
def Q16 (p0:(List Qab)):Option (Bool) :=
 ( Qs7 p0>>=fun x2 =>
  if(decide (x2≤12)) then
   Qpt p0>>=fun x3 =>
   if(decide (x3≤1024)) then
    Qiw p0 true>>=fun x4 =>
    some x4
   else
    some false
  else
   some false:Option (Bool))>>=fun o1 =>
 some o1
theorem Qagz:∀ (p0:(List Qab)) (o:Bool),Q16 p0=some o→PCall Tryz.prog 38 [.sl false (p0.map Qaa)] (Q1t o):=by
 intro p0 o h;unfold Q16 at h;refine PCall.ofB mixed tbOk Qags Tryz.func38 rfl (by kernel_rfl) (Nat.le_of_ble_eq_true rfl) ?_;refine Qaj h (fun o1 ho hk=>?_);refine Exists.intro (JP1 _ _ o1 .normal (Qaa8 )) (And.intro ?_ (Qa5 ?_))
 ·have h:=ho;refine Qam [.sl false (p0.map Qaa)] Qvs h (fun x2 hy=>(Qabo p0 x2 hy)) (fun x2 hy h=>?_);refine Qac h (fun hb h=>?_) (fun hb h=>?_)
  ·refine Qam [.sl false (p0.map Qaa)] Qs1 h (fun x3 hy=>(Q8a p0 x3 hy)) (fun x3 hy h=>?_);refine Qac h (fun hb h=>?_) (fun hb h=>?_)
   ·refine Qam [.sl false (p0.map Qaa),bV true] Qgq h (fun x4 hy=>(Q8d p0 true x4 hy)) (fun x4 hy h=>?_);refine JP1.a h ?_;exact Le.tz 0 0 rfl rfl rfl
   ·refine JP1.a h ?_;exact Le.tz 0 0 rfl rfl rfl
  ·refine bF ?_;refine JP1.a h ?_;exact Le.tz 0 0 rfl rfl rfl
 ·have h:=hk;refine Qar (t:=Q1t) h ?_;exact .refl _
def Qet (p0:(List Qae)) (v22:Int):Option (Unit⊕((List UInt8)×Int)) :=
 if(decide (v22<(p0.length:Int))) then
  idx p0 v22>>=fun x4 =>
  ( Qjf x4.Name>>=fun x6 =>
   if(!x6) then
    some true
   else
    Q16 x4.L>>=fun x7 =>
    some (!x7):Option (Bool))>>=fun o5 =>
  if o5 then
   some (.inr (x4.Name,7))
  else
   cutL p0 0 v22>>=fun x8 =>
   Qhj x8 x4.Name>>=fun x9 =>
   if x9.2 then
    some (.inr (x4.Name,9))
   else
    Qet p0 (wr (v22+1))
 else
  some (.inl ())
 partial_fixpoint
theorem Qafg:∀ (p0:(List Qae)),(∀ (v22:Int) (o1:Unit⊕((List UInt8)×Int)),Qet p0 v22=some o1→TL (0,0) Tryz.prog 102 Qzh (JP2 (0,0) 102 o1 (.exit 0) (Qpg p0) .ret (Qph p0)) (Qke p0 v22)):=by
 intro p0;refine Qet.partial_correctness p0 _ ?_;intro Qet' iQet v22 o1 h;refine TL.round (Qaq mixed tbOk (lv:=Qhw) _ _ _ ?_);refine Qac h (fun hb h=>?_) (fun hb h=>?_)
 ·refine Qa7 (l:=p0) (c:=Qaf) (c' := Qaf) h (fun _=>rfl) (fun _=>rfl) (by decide) (fun x4 hi h=>?_);refine Qaj h (fun o5 ho hk=>?_);refine Exists.intro (JP1 _ _ o5 .normal (Qzg p0 v22 x4)) (And.intro ?_ (Qa5 ?_))
  ·have h:=ho;refine Qam [sV x4.Name] Qgp h (fun x6 hy=>(Qlh x4.Name x6 hy)) (fun x6 hy h=>?_);refine Qac h (fun hb h=>?_) (fun hb h=>?_)
   ·refine JP1.a h ?_;exact Le.tz 1 0 rfl rfl rfl
   ·refine Qam [.sl false (x4.L.map Qaa)] Q1t h (fun x7 hy=>(Qagz x4.L x7 hy)) (fun x7 hy h=>?_);refine JP1.a h ?_;exact Le.tz 1 0 rfl rfl rfl
  ·have h:=hk;refine Qac h (fun hb h=>?_) (fun hb h=>?_)
   ·exact JP2.b h (Le.tz 0 0 rfl rfl rfl)
   ·refine And.intro (by decide +kernel) (And.intro rfl ?_);refine Qae8 (c:=Qaf) none (some v22) h (fun _=>rfl) (fun x8 hi h=>?_);refine Qdm [.sl false (x8.map Qaf),sV x4.Name] Qfa h (fun x9 hy=>(Qjd x8 x4.Name x9 hy)) (fun x9 hy h=>?_);refine Qac h (fun hb h=>?_) (fun hb h=>?_)
    ·exact JP2.b h (Le.tz 0 0 rfl rfl rfl)
    ·refine TL.le (τ := Qke p0 (wr (v22+1))) ?_ ((iQet (wr (v22+1)) _ h));exact Le.tz 0 0 rfl rfl rfl
 ·exact JP2.a h (Le.tz 0 0 rfl rfl rfl)
def Qeu (p0:(List Qae)) (x10:(List ((List UInt8)×(List (List UInt8))))) (v56:Int) (x14:Qae) (v66:Int):Option (Unit⊕Unit) :=
 if(decide (v66<(((mget (fun a b=>a==b) x14.Name x10).getD []).length:Int))) then
  idx ((mget (fun a b=>a==b) x14.Name x10).getD []) v66>>=fun x18 =>
  if(!((mget (fun a b=>a==b) x18 x10).isSome)) then
   some (.inr ())
  else
   Qeu p0 x10 v56 x14 (wr (v66+1))
 else
  some (.inl ())
 partial_fixpoint
theorem Qafh:∀ (p0:(List Qae)) (x10:(List ((List UInt8)×(List (List UInt8))))) (v56:Int) (x14:Qae),(∀ (v66:Int) (o15:Unit⊕Unit),Qeu p0 x10 v56 x14 v66=some o15→TL (0,0) Tryz.prog 102 Qzi (JP2 (0,0) 102 o15 (.exit 4) (Qpi p0 x10 v56 x14) .ret (Qpj p0 x10 v56 x14)) (Qkf p0 x10 v56 x14 v66)):=by
 intro p0 x10 v56 x14;refine Qeu.partial_correctness p0 x10 v56 x14 _ ?_;intro Qeu' iQeu v66 o15 h;refine TL.round (Qaq mixed tbOk (lv:=Qhw) _ _ _ ?_);refine Qac h (fun hb h=>?_) (fun hb h=>?_)
 ·refine Qa7 (l:=((mget (fun a b=>a==b) x14.Name x10).getD [])) (c:=cStr) (c' := cStr) h (fun _=>rfl) (fun _=>rfl) (by decide) (fun x18 hi h=>?_);refine Qr8 (l:=x10) (k:=x18) (fun a b=>a==b) (ck:=sV) (ca:=(fun x =>.sl false (x.map cStr))) (z0:=[]) (by exact rfl) (by exact rfl) (by exact rfl) (by exact fun _ _=>rfl) (by exact rfl) (by exact .not) ?_;refine Qac h (fun hb h=>?_) (fun hb h=>?_)
  ·exact JP2.b h (Le.tz 3 0 rfl rfl rfl)
  ·refine TL.le (τ := Qkf p0 x10 v56 x14 (wr (v66+1))) ?_ ((iQeu (wr (v66+1)) _ h));exact Le.tz 3 0 rfl rfl rfl
 ·exact JP2.a h (Le.tz 3 0 rfl rfl rfl)
def Qev (p0:(List Qae)) (x10:(List ((List UInt8)×(List (List UInt8))))) (v56:Int):Option (Unit⊕(List UInt8)) :=
 if(decide (v56<(p0.length:Int))) then
  idx p0 v56>>=fun x14 =>
  (Qeu p0 x10 v56 x14 0)>>=fun o15 =>
  match o15 with
  | .inl y16 =>
   Qev p0 x10 (wr (v56+1))
  | .inr y17 =>
   some (.inr x14.Name)
 else
  some (.inl ())
 partial_fixpoint
theorem Qafi:∀ (p0:(List Qae)) (x10:(List ((List UInt8)×(List (List UInt8))))),(∀ (v56:Int) (o11:Unit⊕(List UInt8)),Qev p0 x10 v56=some o11→TL (0,0) Tryz.prog 102 Qzj (JP2 (0,0) 102 o11 (.exit 2) (Qpk p0 x10) .ret (Qpl p0 x10)) (Qkg p0 x10 v56)):=by
 intro p0 x10;refine Qev.partial_correctness p0 x10 _ ?_;intro Qev' iQev v56 o11 h;refine TL.round (Qaq mixed tbOk (lv:=Qhw) _ _ _ ?_);refine Qac h (fun hb h=>?_) (fun hb h=>?_)
 ·refine Qa7 (l:=p0) (c:=Qaf) (c' := Qaf) h (fun _=>rfl) (fun _=>rfl) (by decide) (fun x14 hi h=>?_);refine Qr8 (l:=x10) (k:=x14.Name) (fun a b=>a==b) (ck:=sV) (ca:=(fun x =>.sl false (x.map cStr))) (z0:=[]) (by exact rfl) (by exact rfl) (by exact rfl) (by exact fun _ _=>rfl) (by exact rfl) (by exact .not) ?_;refine view (Qax _ _) rfl ?_;refine Qaj h (fun o15 ho hk=>?_);refine Exists.intro (JP2 _ _ o15 (.exit 4) (Qpi p0 x10 v56 x14) .ret (Qpj p0 x10 v56 x14)) (And.intro (Qhn (τ := Qkf p0 x10 v56 x14 0) ?_ (TL.loop (Qafh p0 x10 v56 x14 0 o15 ho))) (Qfx (fun y16 hy=>?_) (fun y17 hy=>?_)))
  ·exact Le.tz 3 0 rfl rfl rfl
  ·have h:=(by rw[hy] at hk; exact hk);refine TL.le (τ := Qkg p0 x10 (wr (v56+1))) ?_ ((iQev (wr (v56+1)) _ h));exact Le.tz 2 0 rfl rfl rfl
  ·have h:=(by rw[hy] at hk; exact hk);exact JP2.b h (Le.tz 2 0 rfl rfl rfl)
 ·exact JP2.a h (Le.tz 2 0 rfl rfl rfl)
def Qcm (h0_0:(List ((List UInt8)×(List (List UInt8))))) (x1:(List (List UInt8))) (v17:Int) (h2_0:(List ((List UInt8)×Int))):Option (((List ((List UInt8)×Int)))) :=
 if(decide (v17<(x1.length:Int))) then
  idx x1 v17>>=fun x3 =>
  Qcm h0_0 x1 (wr (v17+1)) (mset (fun a b=>a==b) x3 1 h2_0)
 else
  some h2_0
 partial_fixpoint
theorem Q8e:∀ (h0_0:(List ((List UInt8)×(List (List UInt8))))) (x1:(List (List UInt8))),(∀ (v17:Int) (h2_0:(List ((List UInt8)×Int))) (o2:((List ((List UInt8)×Int)))),Qcm h0_0 x1 v17 h2_0=some o2→TL (1,0) Tryz.prog 56 Qsw (JP1 (1,0) 56 o2 (.exit 0) (Qjz h0_0 x1)) (Qgb h0_0 x1 v17 h2_0)):=by
 intro h0_0 x1;refine Qcm.partial_correctness h0_0 x1 _ ?_;intro Qcm' iQcm v17 h2_0 o2 h;refine TL.round (Qaq mixed tbOk (lv:=Qff) _ _ _ ?_);refine Qac h (fun hb h=>?_) (fun hb h=>?_)
 ·refine Q1e (l:=x1) (c:=cStr) (c' := cStr) h rfl (fun _=>rfl) (fun _=>rfl) (by decide) (fun x3 hi h=>?_);refine And.intro rfl (And.intro (Nat.le_of_ble_eq_true rfl) ?_);refine Qaa0 (l:=h2_0) (k:=x3) (x:=1) (fun a b=>a==b) (ck:=sV) (ca:=iV) (by exact rfl) (by exact rfl) (by exact rfl) (by exact .refl _) (by exact fun _ _=>rfl) ?_;refine TL.le (τ := Qgb h0_0 x1 (wr (v17+1)) (mset (fun a b=>a==b) x3 1 h2_0)) ?_ ((iQcm (wr (v17+1)) (mset (fun a b=>a==b) x3 1 h2_0) _ h));exact Le.tz 3 1 rfl rfl rfl
 ·exact JP1.a h (Le.tz 3 1 rfl rfl rfl)
def Qb4 (h0_0:(List ((List UInt8)×(List (List UInt8))))) (v9:Int) (x5:(List UInt8)) (v6_:(List (List UInt8))) (v38:Int) (h2_0_:(List ((List UInt8)×Int))):Option (((List (List UInt8))×(List ((List UInt8)×Int)))) :=
 if(decide (v38<(((mget (fun a b=>a==b) x5 h0_0).getD []).length:Int))) then
  idx ((mget (fun a b=>a==b) x5 h0_0).getD []) v38>>=fun x7 =>
  if(((mget (fun a b=>a==b) x7 h2_0_).getD 0)==0) then
   appL 16 v6_ [x7]>>=fun x8 =>
   Qb4 h0_0 v9 x5 x8 (wr (v38+1)) (mset (fun a b=>a==b) x7 1 h2_0_)
  else
   Qb4 h0_0 v9 x5 v6_ (wr (v38+1)) h2_0_
 else
  some (v6_,h2_0_)
 partial_fixpoint
theorem Q8f:∀ (h0_0:(List ((List UInt8)×(List (List UInt8))))) (v9:Int) (x5:(List UInt8)),(∀ (v6_:(List (List UInt8))) (v38:Int) (h2_0_:(List ((List UInt8)×Int))) (o6:((List (List UInt8))×(List ((List UInt8)×Int)))),Qb4 h0_0 v9 x5 v6_ v38 h2_0_=some o6→TL (1,0) Tryz.prog 56 Qsx (JP1 (1,0) 56 o6 (.exit 4) (Qj0 h0_0 v9 x5)) (Qee h0_0 v9 x5 v6_ v38 h2_0_)):=by
 intro h0_0 v9 x5;refine Qb4.partial_correctness h0_0 v9 x5 _ ?_;intro Qb4' iQb4 v6_ v38 h2_0_ o6 h;refine TL.round (Qaq mixed tbOk (lv:=Qff) _ _ _ ?_);refine Qac h (fun hb h=>?_) (fun hb h=>?_)
 ·refine Qa7 (l:=((mget (fun a b=>a==b) x5 h0_0).getD [])) (c:=cStr) (c' := cStr) h (fun _=>rfl) (fun _=>rfl) (by decide) (fun x7 hi h=>?_);refine Qr8 (l:=h2_0_) (k:=x7) (fun a b=>a==b) (ck:=sV) (ca:=iV) (z0:=0) (by exact rfl) (by exact rfl) (by exact rfl) (by exact fun _ _=>rfl) (by exact rfl) (by exact .refl _) ?_;refine Qac h (fun hb h=>?_) (fun hb h=>?_)
  ·refine Qaa0 (l:=h2_0_) (k:=x7) (x:=1) (fun a b=>a==b) (ck:=sV) (ca:=iV) (by exact rfl) (by exact rfl) (by exact rfl) (by exact .refl _) (by exact fun _ _=>rfl) ?_;refine Qvn (a:=v6_) (b:=[x7]) (c:=cStr) h (.refl _) (fun _=>rfl) rfl (fun x8 hi h=>?_);refine TL.le (τ := Qee h0_0 v9 x5 x8 (wr (v38+1)) (mset (fun a b=>a==b) x7 1 h2_0_)) ?_ ((iQb4 x8 (wr (v38+1)) (mset (fun a b=>a==b) x7 1 h2_0_) _ h));exact Le.trans (τ := ⟨[(2,.ptr 1 0),(5,.mh 2),(6,.x 0 2 (.sl 9 1 (x8.map cStr))),(9,.p (iV v9)),(36,.p (.sl false (((mget (fun a b=>a==b) x5 h0_0).getD []).map cStr))),(37,.p (iV (((mget (fun a b=>a==b) x5 h0_0).getD []).length:Int))),(38,.p (iV (wr (v38+1))))],⟨[[mpD sV (fun x =>.sl false (x.map cStr)) h0_0],[.mh 0],[mpD sV iV (mset (fun a b=>a==b) x7 1 h2_0_)]],[2]⟩⟩) (Le.tz 3 1 rfl rfl rfl) ((Le.ver (.s 6) 0 2 1 rfl rfl rfl rfl).trans (Le.tz 3 1 rfl rfl rfl))
  ·refine TL.le (τ := Qee h0_0 v9 x5 v6_ (wr (v38+1)) h2_0_) ?_ ((iQb4 v6_ (wr (v38+1)) h2_0_ _ h));exact Le.tz 3 1 rfl rfl rfl
 ·exact JP1.a h (Le.tz 3 1 rfl rfl rfl)
def Qb5 (h0_0:(List ((List UInt8)×(List (List UInt8))))) (v6:(List (List UInt8))) (v9:Int) (h2_0:(List ((List UInt8)×Int))):Option (((List (List UInt8))×(List ((List UInt8)×Int)))) :=
 if(decide (v9<(v6.length:Int))) then
  idx v6 v9>>=fun x5 =>
  (Qb4 h0_0 v9 x5 v6 0 h2_0)>>=fun o6 =>
  Qb5 h0_0 o6.1 (wr (v9+1)) o6.2
 else
  some (v6,h2_0)
 partial_fixpoint
theorem Q8g:∀ (h0_0:(List ((List UInt8)×(List (List UInt8))))),(∀ (v6:(List (List UInt8))) (v9:Int) (h2_0:(List ((List UInt8)×Int))) (o4:((List (List UInt8))×(List ((List UInt8)×Int)))),Qb5 h0_0 v6 v9 h2_0=some o4→TL (1,0) Tryz.prog 56 Qsy (JP1 (1,0) 56 o4 (.exit 2) (Qj1 h0_0)) (Qgc h0_0 v6 v9 h2_0)):=by
 intro h0_0;refine Qb5.partial_correctness h0_0 _ ?_;intro Qb5' iQb5 v6 v9 h2_0 o4 h;refine TL.round (Qaq mixed tbOk (lv:=Qff) _ _ _ ?_);refine And.intro rfl (Exists.intro _ (And.intro (List.length_map _) ?_));refine Qac h (fun hb h=>?_) (fun hb h=>?_)
 ·refine And.intro (by decide +kernel) (And.intro rfl ?_);refine And.intro rfl ?_;refine Q1e (l:=v6) (c:=cStr) (c' := cStr) h rfl (fun _=>rfl) (fun _=>rfl) (by decide) (fun x5 hi h=>?_);refine And.intro rfl ?_;refine And.intro rfl (And.intro (Nat.le_of_ble_eq_true rfl) ?_);refine And.intro rfl ?_;refine Qr8 (l:=h0_0) (k:=x5) (fun a b=>a==b) (ck:=sV) (ca:=(fun x =>.sl false (x.map cStr))) (z0:=[]) (by exact rfl) (by exact rfl) (by exact rfl) (by exact fun _ _=>rfl) (by exact rfl) (by exact .not) ?_;refine view (Qax _ _) rfl ?_;refine Qaj h (fun o6 ho hk=>?_);refine Exists.intro (JP1 _ _ o6 (.exit 4) (Qj0 h0_0 v9 x5)) (And.intro (Qhn (τ := Qee h0_0 v9 x5 v6 0 h2_0) ?_ (TL.loop (Q8f h0_0 v9 x5 v6 0 h2_0 o6 ho))) (Qa5 ?_))
  ·exact Le.tz 3 1 rfl rfl rfl
  have h:=hk;refine TL.le (τ := Qgc h0_0 o6.1 (wr (v9+1)) o6.2) ?_ ((iQb5 o6.1 (wr (v9+1)) o6.2 _ h));exact Le.tz 3 1 rfl rfl rfl
 ·exact JP1.a h (Le.tz 3 1 rfl rfl rfl)
def Qc3 (p0:(List (List UInt8))):Option ((List (List UInt8))) :=
 appL 16 [] p0
theorem Ql3:∀ (p0:(List (List UInt8))) (o:(List (List UInt8))),Qc3 p0=some o→CallOK Tryz.prog 75 [.p (.sl false (p0.map cStr))] ⟨[],[]⟩ (Qdu o) ⟨[],[1]⟩:=by
 intro p0 o h;unfold Qc3 at h;have h:(appL 16 ([]:List (List UInt8)) p0>>=fun r=>some r)=some o:=by rw[h]; rfl
 refine CallOK.ofB mixed tbOk Qly Tryz.func75 rfl (by kernel_rfl) (Nat.le_of_ble_eq_true rfl) rfl rfl rfl ?_;refine⟨rfl,rfl,rfl,fun b hb=>?_⟩;cases b with
 | true =>
  refine bT ?_;obtain rfl:=List.map_eq_nil_iff.1 (hb rfl);have h:some ([]:List (List UInt8))=some o:=h;refine Exists.intro _ (And.intro (Le.xnil (.s 2) 9 1 rfl) ?_);exact Qbb (t:=Qdu) (ss:=fun o=>⟨[],[1]⟩) h ⟨[0],rfl,.refl _,.refl _,rfl⟩
 | false =>
  refine bF ?_;refine Qafc (a:=([]:List (List UInt8))) (b:=p0) (c:=cStr) h (.refl _) (.refl _) (fun _=>rfl) (.inl rfl) (fun r hi h=>?_);refine Exists.intro _ (And.intro (Le.refl _ _ _) ?_);exact Qbb (t:=Qdu) (ss:=fun o=>⟨[],[1]⟩) h ⟨[0],rfl,.refl _,.refl _,rfl⟩
def Qf3 (p1:(List (List UInt8))) (h0_0:(List ((List UInt8)×(List (List UInt8))))):Option ((List (List UInt8))) :=
 Qc3 p1>>=fun x1 =>
 (Qcm h0_0 x1 0 [])>>=fun o2 =>
 (Qb5 h0_0 x1 0 o2)>>=fun o4 =>
 need (o4.1.length<4611686018427387904)>>=fun _ =>
 some (srtL o4.1)
theorem Qv0:∀ (p1:(List (List UInt8))) (h0_0:(List ((List UInt8)×(List (List UInt8))))) (o:(List (List UInt8))),Qf3 p1 h0_0=some o→CallOK Tryz.prog 42 [.agg [.mh 0],.p (.sl false (p1.map cStr))] ⟨[[mpD sV (fun x =>.sl false (x.map cStr)) h0_0]],[]⟩ (Qi5 o) ⟨[[mpD sV (fun x =>.sl false (x.map cStr)) h0_0]],[]⟩:=by
 intro p1 h0_0 o h;unfold Qf3 at h;refine CallOK.ofB mixed tbOk Qff Tryz.func42 rfl (by kernel_rfl) (Nat.le_of_ble_eq_true rfl) rfl rfl rfl ?_;refine And.intro rfl (Exists.intro false ?_);refine Qap _ _ h (fun x1 hy=>((Ql3 p1 x1 hy).fr [] [] rfl rfl rfl)) (fun x1 hy h=>?_);refine And.intro rfl (Exists.intro _ (And.intro (List.length_map _) ?_));refine Qaj h (fun o2 ho hk=>?_);refine Exists.intro (JP1 _ _ o2 (.exit 0) (Qjz h0_0 x1)) (And.intro (Qhn (τ := Qgb h0_0 x1 0 []) ?_ (TL.loop (Q8e h0_0 x1 0 [] o2 ho))) (Qa5 ?_))
 ·exact Le.tz 3 1 rfl rfl rfl
 have h:=hk;refine Qaj h (fun o4 ho hk=>?_);refine Exists.intro (JP1 _ _ o4 (.exit 2) (Qj1 h0_0)) (And.intro (Qhn (τ := Qgc h0_0 x1 0 o2) ?_ (TL.loop (Q8g h0_0 x1 0 o2 o4 ho))) (Qa5 ?_))
 ·exact Le.tz 3 1 rfl rfl rfl
 have h:=hk;refine Q0e h (fun hn0 h=>?_);refine Or.inl ?_;refine⟨rfl,rfl,_,false,o4.1,(srtL o4.1),_,rfl,rfl,Qamf  hn0 ,rfl,rfl,?_⟩;refine Exists.intro _ (And.intro (Le.trans (τ := ⟨[(4,.x 0 2 (.sl 9 1 ((srtL o4.1).map cStr)))],⟨[[mpD sV (fun x =>.sl false (x.map cStr)) h0_0]],[2]⟩⟩) (Le.tz 1 1 rfl rfl rfl) (Le.trans (τ := ⟨[(4,.x 0 2 (.sl 9 1 ((srtL o4.1).map cStr)))],⟨[[mpD sV (fun x =>.sl false (x.map cStr)) h0_0]],[2]⟩⟩) (Le.tz 1 1 rfl rfl rfl) ((Le.frzv (.s 4) 0 2 rfl rfl rfl rfl).trans (Le.refl _ _ _)))) ?_);refine Qbb (t:=Qi5) (ss:=fun o=>⟨[[mpD sV (fun x =>.sl false (x.map cStr)) h0_0]],[]⟩) h ?_;exact⟨[],rfl,.refl _,.refl _,rfl⟩
def Qbc (p0:(List (List UInt8))) (p1:(List UInt8)) (v8:Int):Option (Unit⊕Int) :=
 if(decide (v8<(p0.length:Int))) then
  idx p0 v8>>=fun x4 =>
  if(p1==x4) then
   some (.inr v8)
  else
   Qbc p0 p1 (wr (v8+1))
 else
  some (.inl ())
 partial_fixpoint
theorem Qw0:∀ (p0:(List (List UInt8))) (p1:(List UInt8)),(∀ (v8:Int) (o1:Unit⊕Int),Qbc p0 p1 v8=some o1→TL (0,0) Tryz.prog 19 Qkj (JP2 (0,0) 19 o1 (.exit 0) (Qez p0 p1) .ret (Qe0 p0 p1)) (Qc0 p0 p1 v8)):=by
 intro p0 p1;refine Qbc.partial_correctness p0 p1 _ ?_;intro Qbc' iQbc v8 o1 h;refine TL.round (Qaq mixed tbOk (lv:=Qfy) _ _ _ ?_);refine Qac h (fun hb h=>?_) (fun hb h=>?_)
 ·refine Qa7 (l:=p0) (c:=cStr) (c' := cStr) h (fun _=>rfl) (fun _=>rfl) (by decide) (fun x4 hi h=>?_);refine Qac h (fun hb h=>?_) (fun hb h=>?_)
  ·exact JP2.b h (Le.tz 0 0 rfl rfl rfl)
  ·refine TL.le (τ := Qc0 p0 p1 (wr (v8+1))) ?_ ((iQbc (wr (v8+1)) _ h));exact Le.tz 0 0 rfl rfl rfl
 ·exact JP2.a h (Le.tz 0 0 rfl rfl rfl)
def Qc4 (p0:(List (List UInt8))) (p1:(List UInt8)):Option (Int) :=
 (Qbc p0 p1 0)>>=fun o1 =>
 match o1 with
 | .inl y2 =>
  some (-1)
 | .inr y3 =>
  some y3
theorem Ql4:∀ (p0:(List (List UInt8))) (p1:(List UInt8)) (o:Int),Qc4 p0 p1=some o→PCall Tryz.prog 74 [.sl false (p0.map cStr),sV p1] (Qcp o):=by
 intro p0 p1 o h;unfold Qc4 at h;refine PCall.ofB mixed tbOk Qfy Tryz.func74 rfl (by kernel_rfl) (Nat.le_of_ble_eq_true rfl) ?_;refine view (Qax _ _) rfl ?_;refine Qaj h (fun o1 ho hk=>?_);refine Exists.intro (JP2 _ _ o1 (.exit 0) (Qez p0 p1) .ret (Qe0 p0 p1)) (And.intro (Qhn (τ := Qc0 p0 p1 0) ?_ (TL.loop (Qw0 p0 p1 0 o1 ho))) (Qfx (fun y2 hy=>?_) (fun y3 hy=>?_)))
 ·exact Le.tz 0 0 rfl rfl rfl
 ·have h:=(by rw[hy] at hk; exact hk);refine Qar (t:=Qcp) h ?_;exact .refl _
 ·have h:=(by rw[hy] at hk; exact hk);refine Qar (t:=Qcp) h ?_;exact .refl _
def Qbs (p0:(List (List UInt8))) (p1:(List UInt8)):Option (Bool) :=
 Qc4 p0 p1>>=fun x1 =>
 some (decide (x1 ≥ 0))
theorem Qjx:∀ (p0:(List (List UInt8))) (p1:(List UInt8)) (o:Bool),Qbs p0 p1=some o→PCall Tryz.prog 41 [.sl false (p0.map cStr),sV p1] (Qc6 o):=by
 intro p0 p1 o h;unfold Qbs at h;refine PCall.ofB mixed tbOk Qjw Tryz.func41 rfl (by kernel_rfl) (Nat.le_of_ble_eq_true rfl) ?_;refine Qam [.sl false (p0.map cStr),sV p1] Qcp h (fun x1 hy=>(Ql4 p0 p1 x1 hy)) (fun x1 hy h=>?_);refine Qar (t:=Qc6) h ?_;exact .refl _
def Qew (p0:(List Qae)) (x10:(List ((List UInt8)×(List (List UInt8))))) (v85:Int):Option (Unit⊕(List UInt8)) :=
 if(decide (v85<(p0.length:Int))) then
  idx p0 v85>>=fun x22 =>
  Qf3 ((mget (fun a b=>a==b) x22.Name x10).getD []) x10>>=fun x23 =>
  Qbs x23 x22.Name>>=fun x24 =>
  if x24 then
   some (.inr x22.Name)
  else
   Qew p0 x10 (wr (v85+1))
 else
  some (.inl ())
 partial_fixpoint
theorem Qafj:∀ (p0:(List Qae)) (x10:(List ((List UInt8)×(List (List UInt8))))),(∀ (v85:Int) (o19:Unit⊕(List UInt8)),Qew p0 x10 v85=some o19→TL (0,0) Tryz.prog 102 Qzk (JP2 (0,0) 102 o19 (.exit 6) (Qpm p0 x10) .ret (Qpn p0 x10)) (Qkh p0 x10 v85)):=by
 intro p0 x10;refine Qew.partial_correctness p0 x10 _ ?_;intro Qew' iQew v85 o19 h;refine TL.round (Qaq mixed tbOk (lv:=Qhw) _ _ _ ?_);refine Qac h (fun hb h=>?_) (fun hb h=>?_)
 ·refine Qa7 (l:=p0) (c:=Qaf) (c' := Qaf) h (fun _=>rfl) (fun _=>rfl) (by decide) (fun x22 hi h=>?_);refine And.intro (by decide +kernel) (And.intro rfl ?_);refine And.intro rfl ?_;refine Qr8 (l:=x10) (k:=x22.Name) (fun a b=>a==b) (ck:=sV) (ca:=(fun x =>.sl false (x.map cStr))) (z0:=[]) (by exact rfl) (by exact rfl) (by exact rfl) (by exact fun _ _=>rfl) (by exact rfl) (by exact .not) ?_;refine Qqg (fun x23=>(Qi5 x23).ren [0] []) h (fun x23 hy=>(Qv0 ((mget (fun a b=>a==b) x22.Name x10).getD []) x10 x23 hy).fd rfl rfl [0] rfl rfl) (fun x23 hy h=>?_);refine Qdm [.sl false (x23.map cStr),sV x22.Name] Qc6 h (fun x24 hy=>(Qjx x23 x22.Name x24 hy)) (fun x24 hy h=>?_);refine Qac h (fun hb h=>?_) (fun hb h=>?_)
  ·exact JP2.b h (Le.tz 2 0 rfl rfl rfl)
  ·refine TL.le (τ := Qkh p0 x10 (wr (v85+1))) ?_ ((iQew (wr (v85+1)) _ h));exact Le.tz 2 0 rfl rfl rfl
 ·exact JP2.a h (Le.tz 2 0 rfl rfl rfl)
mutual
def Qdw (p0:(List Qab)) (h0_0:(List (List UInt8))):Option ((List (List UInt8))) :=
 (Qd7 p0 0 h0_0)>>=fun o1 =>
 some o1
 partial_fixpoint
def Qd7 (p0:(List Qab)) (v8:Int) (h0_0_:(List (List UInt8))):Option ((List (List UInt8))) :=
 if(decide (v8<(p0.length:Int))) then
  idx p0 v8>>=fun x2 =>
  ( if(x2.Kind==13) then
    appL 16 h0_0_ [x2.Name]>>=fun x4 =>
    some x4
   else
    some h0_0_:Option ((List (List UInt8))))>>=fun o3 =>
  Qdw x2.Then o3>>=fun x5 =>
  Qdw x2.Else x5>>=fun x6 =>
  Qd7 p0 (wr (v8+1)) x6
 else
  some h0_0_
 partial_fixpoint
end
theorem Qzo:(∀ (p0:(List Qab)) (h0_0:(List (List UInt8))) (o:(List (List UInt8))),Qdw p0 h0_0=some o→CallOK Tryz.prog 99 [.p (.sl false (p0.map Qaa)),.ptr 0 0,.ptr 1 0] ⟨[[.x 0 (h0_0.length+1) (.sl 9 1 (h0_0.map cStr))],[.fn (.func 99) [] [.ptr 0 0,.ptr 1 0]]],[(h0_0.length+1)]⟩ (Qov o) ⟨[[.x 0 (o.length+1) (.sl 9 1 (o.map cStr))],[.fn (.func 99) [] [.ptr 0 0,.ptr 1 0]]],[(o.length+1)]⟩)∧(∀ (p0:(List Qab)) (v8:Int) (h0_0_:(List (List UInt8))) (o1:(List (List UInt8))),Qd7 p0 v8 h0_0_=some o1→TL (2,1) Tryz.prog 29 Qya (JP1 (2,1) 29 o1 (.exit 0) (Qn3 p0)) (Qi4 p0 v8 h0_0_)):=by
 refine Qdw.mutual_partial_correctness _ _ ?_ ?_
 ·intro Qd7' iQd7 p0 h0_0 o h;refine CallOK.ofB mixed tbOk Qsv Tryz.func99 rfl (by kernel_rfl) (Nat.le_of_ble_eq_true rfl) rfl rfl rfl ?_;refine view (Qax _ _) rfl ?_;refine Qaj h (fun o1 ho hk=>?_);refine Exists.intro (JP1 _ _ o1 (.exit 0) (Qn3 p0)) (And.intro (Qhn (τ := Qi4 p0 0 h0_0) ?_ (TL.loop (iQd7 p0 0 h0_0 o1 ho))) (Qa5 ?_))
  ·exact Le.tz 2 1 rfl rfl rfl
  have h:=hk;refine Exists.intro _ (And.intro (Le.refl _ _ _) ?_);exact Qbb (t:=Qov) (ss:=fun o=>⟨[[.x 0 (o.length+1) (.sl 9 1 (o.map cStr))],[.fn (.func 99) [] [.ptr 0 0,.ptr 1 0]]],[(o.length+1)]⟩) h ⟨[0],rfl,.refl _,.refl _,rfl⟩
 ·intro Qdw' Qd7' iQdw iQd7 p0 v8 h0_0_ o1 h;refine TL.round (Qaq mixed tbOk (lv:=Qsv) _ _ _ ?_);refine Qac h (fun hb h=>?_) (fun hb h=>?_)
  ·refine Qa7 (l:=p0) (c:=Qaa) (c' := Qa2) h Qan (fun _=>rfl) (by decide) (fun x2 hi h=>?_);refine Qaj h (fun o3 ho hk=>?_);refine Exists.intro (JP1 _ _ o3 .normal (Qx9 p0 v8 x2)) (And.intro ?_ (Qa5 ?_))
   ·have h:=ho;refine Qac h (fun hb h=>?_) (fun hb h=>?_)
    ·refine Qalk (a:=h0_0_) (b:=[x2.Name]) (c:=cStr) h (.refl _) (fun _=>rfl) rfl rfl (Nat.zero_lt_succ _) (fun x4 hi h=>?_);refine JP1.a h ?_;exact Le.tz 3 1 rfl rfl rfl
    ·refine JP1.a h ?_;exact Le.tz 3 1 rfl rfl rfl
   ·have h:=hk;refine Qap _ _ h (fun x5 hy=>((iQdw x2.Then o3 x5 hy).fr [0,1] [0] rfl rfl rfl)) (fun x5 hy h=>?_);refine Qap _ _ h (fun x6 hy=>((iQdw x2.Else x5 x6 hy).fr [0,1] [0] rfl rfl rfl)) (fun x6 hy h=>?_);refine TL.le (τ := Qi4 p0 (wr (v8+1)) x6) ?_ ((iQd7 p0 (wr (v8+1)) x6 _ h));exact Le.tz 2 1 rfl rfl rfl
  ·exact JP1.a h (Le.tz 2 1 rfl rfl rfl)
theorem Q17:∀ (p0:(List Qab)) (h0_0:(List (List UInt8))) (o:(List (List UInt8))),Qdw p0 h0_0=some o→CallOK Tryz.prog 99 [.p (.sl false (p0.map Qaa)),.ptr 0 0,.ptr 1 0] ⟨[[.x 0 (h0_0.length+1) (.sl 9 1 (h0_0.map cStr))],[.fn (.func 99) [] [.ptr 0 0,.ptr 1 0]]],[(h0_0.length+1)]⟩ (Qov o) ⟨[[.x 0 (o.length+1) (.sl 9 1 (o.map cStr))],[.fn (.func 99) [] [.ptr 0 0,.ptr 1 0]]],[(o.length+1)]⟩:=fun p0 h0_0=>Qzo.1 p0 h0_0
def Qpw (p0:(List Qab)):Option ((List (List UInt8))) :=
 Qdw p0 []>>=fun x1 =>
 need (x1.length<4611686018427387904)>>=fun _ =>
 need ((srtL x1).length<4611686018427387904)>>=fun _ =>
 some (Lib.compact (srtL x1))
theorem Q8h:∀ (p0:(List Qab)) (o:(List (List UInt8))),Qpw p0=some o→CallOK Tryz.prog 73 [.p (.sl false (p0.map Qaa))] ⟨[],[]⟩ (Qsu o) ⟨[],[]⟩:=by
 intro p0 o h;unfold Qpw at h;refine CallOK.ofB mixed tbOk Q7u Tryz.func73 rfl (by kernel_rfl) (Nat.le_of_ble_eq_true rfl) rfl rfl rfl ?_;refine Exists.intro _ (And.intro (Le.xnil (.h 0 0) 9 1 rfl) ?_);refine Qap _ _ h (fun x1 hy=>((Q17 p0 [] x1 hy).fr [0,1] [0] rfl rfl rfl)) (fun x1 hy h=>?_);refine Q0e h (fun hn0 h=>?_);refine Or.inl ?_;refine⟨rfl,rfl,_,false,x1,(srtL x1),_,rfl,rfl,Qamf  hn0 ,rfl,rfl,?_⟩;refine Q0e h (fun hn0 h=>?_);refine Or.inl ?_;refine⟨rfl,rfl,_,true,(srtL x1),(Lib.compact (srtL x1)),_,rfl,rfl,Qai6  hn0 ,rfl,?_⟩;refine Exists.intro _ (And.intro (Le.trans (τ := ⟨[(2,.x 0 (((x1.length+1)+1)+1) (.sl 9 1 ((Lib.compact (srtL x1)).map cStr)))],⟨[],[(((x1.length+1)+1)+1)]⟩⟩) (Le.tz 0 1 rfl rfl rfl) (Le.trans (τ := ⟨[(2,.x 0 (((x1.length+1)+1)+1) (.sl 9 1 ((Lib.compact (srtL x1)).map cStr)))],⟨[],[(((x1.length+1)+1)+1)]⟩⟩) (Le.tz 0 1 rfl rfl rfl) ((Le.verh 2 0 (((x1.length+1)+1)+1) 1 rfl rfl rfl rfl).trans ((Le.frzv (.s 2) 0 1 rfl rfl rfl rfl).trans (Le.refl _ _ _))))) ?_);exact Qbb (t:=Qsu) (ss:=fun o=>⟨[],[]⟩) h ⟨[],rfl,.refl _,.refl _,rfl⟩
def Qdx (p0:(List Qae)) (v12:Int) (h1_0:(List ((List UInt8)×(List (List UInt8))))):Option (((List ((List UInt8)×(List (List UInt8)))))) :=
 if(decide (v12<(p0.length:Int))) then
  idx p0 v12>>=fun x2 =>
  if(!((mget (fun a b=>a==b) x2.Name h1_0).isSome)) then
   Qpw x2.L>>=fun x3 =>
   Qdx p0 (wr (v12+1)) (mset (fun a b=>a==b) x2.Name x3 h1_0)
  else
   Qdx p0 (wr (v12+1)) h1_0
 else
  some h1_0
 partial_fixpoint
theorem Qafk:∀ (p0:(List Qae)),(∀ (v12:Int) (h1_0:(List ((List UInt8)×(List (List UInt8))))) (o1:((List ((List UInt8)×(List (List UInt8)))))),Qdx p0 v12 h1_0=some o1→TL (0,0) Tryz.prog 35 Qzl (JP1 (0,0) 35 o1 (.exit 0) (Qpo p0)) (Qhh p0 v12 h1_0)):=by
 intro p0;refine Qdx.partial_correctness p0 _ ?_;intro Qdx' iQdx v12 h1_0 o1 h;refine TL.round (Qaq mixed tbOk (lv:=Qva) _ _ _ ?_);refine Qac h (fun hb h=>?_) (fun hb h=>?_)
 ·refine Qa7 (l:=p0) (c:=Qaf) (c' := Qaf) h (fun _=>rfl) (fun _=>rfl) (by decide) (fun x2 hi h=>?_);refine Qr8 (l:=h1_0) (k:=x2.Name) (fun a b=>a==b) (ck:=sV) (ca:=(fun x =>.sl false (x.map cStr))) (z0:=[]) (by exact rfl) (by exact rfl) (by exact rfl) (by exact fun _ _=>rfl) (by exact rfl) (by exact .not) ?_;refine Qac h (fun hb h=>?_) (fun hb h=>?_)
  ·refine And.intro (by decide +kernel) (And.intro (by decide +kernel) (And.intro rfl ?_));refine Qqg (fun x3=>(Qsu x3).ren [] []) h (fun x3 hy=>(Q8h x2.L x3 hy).fd rfl rfl [] rfl rfl) (fun x3 hy h=>?_);refine Qaa0 (l:=h1_0) (k:=x2.Name) (x:=x3) (fun a b=>a==b) (ck:=sV) (ca:=(fun x =>.sl false (x.map cStr))) (by exact rfl) (by exact rfl) (by exact rfl) (by exact .refl _) (by exact fun _ _=>rfl) ?_;refine TL.le (τ := Qhh p0 (wr (v12+1)) (mset (fun a b=>a==b) x2.Name x3 h1_0)) ?_ ((iQdx (wr (v12+1)) (mset (fun a b=>a==b) x2.Name x3 h1_0) _ h));exact Le.tz 3 0 rfl rfl rfl
  ·refine TL.le (τ := Qhh p0 (wr (v12+1)) h1_0) ?_ ((iQdx (wr (v12+1)) h1_0 _ h));exact Le.tz 3 0 rfl rfl rfl
 ·exact JP1.a h (Le.tz 3 0 rfl rfl rfl)
def Qnl (p0:(List Qae)):Option ((List ((List UInt8)×(List (List UInt8))))) :=
 (Qdx p0 0 [])>>=fun o1 =>
 some o1
theorem Q4c:∀ (p0:(List Qae)) (o:(List ((List UInt8)×(List (List UInt8))))),Qnl p0=some o→CallOK Tryz.prog 40 [.p (.sl false (p0.map Qaf))] ⟨[],[]⟩ (Qwu o) ⟨[[mpD sV (fun x =>.sl false (x.map cStr)) o]],[]⟩:=by
 intro p0 o h;unfold Qnl at h;refine CallOK.ofBN mixed tbOk Qva Tryz.func40 rfl (by kernel_rfl) (Nat.le_of_ble_eq_true rfl) rfl rfl (Nat.le_of_ble_eq_true rfl) ?_;refine And.intro rfl (Exists.intro false ?_);refine view (Qax _ _) rfl ?_;refine Qaj h (fun o1 ho hk=>?_);refine Exists.intro (JP1 _ _ o1 (.exit 0) (Qpo p0)) (And.intro (Qhn (τ := Qhh p0 0 []) ?_ (TL.loop (Qafk p0 0 [] o1 ho))) (Qa5 ?_))
 ·exact Le.tz 3 0 rfl rfl rfl
 have h:=hk;refine Exists.intro _ (And.intro (Le.refl _ _ _) ?_);refine Q1g (t:=Qwu) (ss:=fun o=>⟨[[mpD sV (fun x =>.sl false (x.map cStr)) o]],[]⟩) h ?_;exact⟨[1],[],rfl,rfl,.refl _,.refl _,rfl,rfl⟩
def Qkm (p0:(List Qae)):Option ((List UInt8)×Int) :=
 if(decide ((p0.length:Int)>16)) then
  some ([],5)
 else
  (Qet p0 0)>>=fun o1 =>
  match o1 with
  | .inl y2 =>
   Qnl p0>>=fun x10 =>
   (Qev p0 x10 0)>>=fun o11 =>
   match o11 with
   | .inl y12 =>
    (Qew p0 x10 0)>>=fun o19 =>
    match o19 with
    | .inl y20 =>
     some ([],0)
    | .inr y21 =>
     some (y21,10)
   | .inr y13 =>
    some (y13,4)
  | .inr y3 =>
   some (y3.1,y3.2)
theorem Qvf:∀ (p0:(List Qae)) (o:(List UInt8)×Int),Qkm p0=some o→PCall Tryz.prog 13 [.sl false (p0.map Qaf)] (Qej o):=by
 intro p0 o h;unfold Qkm at h;refine PCall.ofB mixed tbOk Qhw Tryz.func13 rfl (by kernel_rfl) (Nat.le_of_ble_eq_true rfl) ?_;refine view (Qax _ _) rfl ?_;refine Qac h (fun hb h=>?_) (fun hb h=>?_)
 ·refine Qar (t:=Qej) h ?_;exact .refl _
 ·refine view (Qax _ _) rfl ?_;refine Qaj h (fun o1 ho hk=>?_);refine Exists.intro (JP2 _ _ o1 (.exit 0) (Qpg p0) .ret (Qph p0)) (And.intro (Qhn (τ := Qke p0 0) ?_ (TL.loop (Qafg p0 0 o1 ho))) (Qfx (fun y2 hy=>?_) (fun y3 hy=>?_)))
  ·exact Le.tz 0 0 rfl rfl rfl
  ·have h:=(by rw[hy] at hk; exact hk);refine Qap _ _ h (fun x10 hy=>((Q4c p0 x10 hy).frN [] [] rfl rfl rfl)) (fun x10 hy h=>?_);refine view (Qax _ _) rfl ?_;refine Qaj h (fun o11 ho hk=>?_);refine Exists.intro (JP2 _ _ o11 (.exit 2) (Qpk p0 x10) .ret (Qpl p0 x10)) (And.intro (Qhn (τ := Qkg p0 x10 0) ?_ (TL.loop (Qafi p0 x10 0 o11 ho))) (Qfx (fun y12 hy=>?_) (fun y13 hy=>?_)))
   ·exact Le.tz 2 0 rfl rfl rfl
   ·have h:=(by rw[hy] at hk; exact hk);refine view (Qax _ _) rfl ?_;refine Qaj h (fun o19 ho hk=>?_);refine Exists.intro (JP2 _ _ o19 (.exit 6) (Qpm p0 x10) .ret (Qpn p0 x10)) (And.intro (Qhn (τ := Qkh p0 x10 0) ?_ (TL.loop (Qafj p0 x10 0 o19 ho))) (Qfx (fun y20 hy=>?_) (fun y21 hy=>?_)))
    ·exact Le.tz 2 0 rfl rfl rfl
    ·have h:=(by rw[hy] at hk; exact hk);refine Qar (t:=Qej) h ?_;exact .refl _
    ·have h:=(by rw[hy] at hk; exact hk);refine Qar (t:=Qej) h ?_;exact .refl _
   ·have h:=(by rw[hy] at hk; exact hk);refine Qar (t:=Qej) h ?_;exact .refl _
  ·have h:=(by rw[hy] at hk; exact hk);refine Qar (t:=Qej) h ?_;exact .refl _
mutual
def Qbh (p0:(List Qab)) (p1:Int) (p2:Int):Option ((List Qab)×Int) :=
 (Qcc p0 p1 p2 [] 0)>>=fun o1 =>
 some (o1.2,o1.1)
 partial_fixpoint
def Qcc (p0:(List Qab)) (p1:Int) (v2:Int) (v8:(List Qab)) (v9:Int):Option ((Int×(List Qab))) :=
 ( if(decide (v9<(p0.length:Int))) then
   if(decide (v2>0)) then
    some (decide (p1>0))
   else
    some false
  else
   some false:Option (Bool))>>=fun o2 =>
 if o2 then
  idx p0 v9>>=fun x3 =>
  cutL x3.Name 0 (if 40<(x3.Name.length:Int) then 40 else(x3.Name.length:Int))>>=fun x4 =>
  cutL x3.Text 0 (if 60<(x3.Text.length:Int) then 60 else(x3.Text.length:Int))>>=fun x5 =>
  Qbh x3.L (wr (p1-1)) (wr (v2-1))>>=fun x6 =>
  Qbh x3.Then (wr (p1-1)) x6.2>>=fun x7 =>
  Qbh x3.Else (wr (p1-1)) x7.2>>=fun x8 =>
  appL 120 v8 [(Qab.mk x3.Kind x4 x5 x3.N x6.1 x7.1 x8.1)]>>=fun x9 =>
  Qcc p0 p1 x8.2 x9 (wr (v9+1))
 else
  some (v2,v8)
 partial_fixpoint
end
theorem Qta:(∀ (p0:(List Qab)) (p1:Int) (p2:Int) (o:(List Qab)×Int),Qbh p0 p1 p2=some o→PCall Tryz.prog 22 [.sl false (p0.map Qaa),iV p1,iV p2] (Qcl o))∧(∀ (p0:(List Qab)) (p1:Int) (v2:Int) (v8:(List Qab)) (v9:Int) (o1:(Int×(List Qab))),Qcc p0 p1 v2 v8 v9=some o1→TL (0,0) Tryz.prog 88 Qrn (JP1 (0,0) 88 o1 (.exit 0) (Qi7 p0 p1)) (Qfg p0 p1 v2 v8 v9)):=by
 refine Qbh.mutual_partial_correctness _ _ ?_ ?_
 ·intro Qcc' iQcc p0 p1 p2 o h;refine PCall.ofB mixed tbOk Qmb Tryz.func22 rfl (by kernel_rfl) (Nat.le_of_ble_eq_true rfl) ?_;refine Qaj h (fun o1 ho hk=>?_);refine Exists.intro (JP1 _ _ o1 (.exit 0) (Qi7 p0 p1)) (And.intro (Qhn (τ := Qfg p0 p1 p2 [] 0) ?_ (TL.loop (iQcc p0 p1 p2 [] 0 o1 ho))) (Qa5 ?_))
  ·exact Le.trans (τ := ⟨[(0,.p (.sl false (p0.map Qaa))),(1,.p (iV p1)),(2,.p (iV p2)),(8,.p (.sl true [])),(9,.p (iV 0))],⟨[],[]⟩⟩) (Le.tz 0 0 rfl rfl rfl) ((Le.own 8 38 7 rfl Q1c).trans (Le.tz 0 1 rfl rfl rfl))
  have h:=hk;refine Qar (t:=Qcl) h ?_;exact .refl _
 ·intro Qbh' Qcc' iQbh iQcc p0 p1 v2 v8 v9 o1 h;refine TL.round (Qaq mixed tbOk (lv:=Qmb) _ _ _ ?_);refine Qaj h (fun o2 ho hk=>?_);refine Exists.intro (JP1 _ _ o2 .normal (Qrm p0 p1 v2 v8 v9)) (And.intro ?_ (Qa5 ?_))
  ·have h:=ho;refine view (Qax _ _) rfl ?_;refine Qac h (fun hb h=>?_) (fun hb h=>?_)
   ·refine Qac h (fun hb h=>?_) (fun hb h=>?_)
    ·refine JP1.a h ?_;exact Le.tz 0 1 rfl rfl rfl
    ·refine JP1.a h ?_;exact Le.tz 0 1 rfl rfl rfl
   ·refine bF ?_;refine JP1.a h ?_;exact Le.tz 0 1 rfl rfl rfl
  ·have h:=hk;refine Qac h (fun hb h=>?_) (fun hb h=>?_)
   ·refine Qa7 (l:=p0) (c:=Qaa) (c' := Qa2) h Qan (fun _=>rfl) (by decide) (fun x3 hi h=>?_);refine And.intro (by decide +kernel) (And.intro rfl ?_);refine vrfl ?_;refine Qi2 none (some (if 40<(x3.Name.length:Int) then 40 else(x3.Name.length:Int))) h (fun x4 hi h=>?_);refine vrfl ?_;refine Qi2 none (some (if 60<(x3.Text.length:Int) then 60 else(x3.Text.length:Int))) h (fun x5 hi h=>?_);refine Qam [.sl false (x3.L.map Qaa),iV (wr (p1-1)),iV (wr (v2-1))] Qcl h (fun x6 hy=>(iQbh x3.L (wr (p1-1)) (wr (v2-1)) x6 hy)) (fun x6 hy h=>?_);refine Qam [.sl false (x3.Then.map Qaa),iV (wr (p1-1)),iV x6.2] Qcl h (fun x7 hy=>(iQbh x3.Then (wr (p1-1)) x6.2 x7 hy)) (fun x7 hy h=>?_);refine Qam [.sl false (x3.Else.map Qaa),iV (wr (p1-1)),iV x7.2] Qcl h (fun x8 hy=>(iQbh x3.Else (wr (p1-1)) x7.2 x8 hy)) (fun x8 hy h=>?_);refine Qlv (a:=v8) (b:=[(Qab.mk x3.Kind x4 x5 x3.N x6.1 x7.1 x8.1)]) (c:=Qaa) h (.cons (.ceq (Qan _) (.refl _)) (.nil)) (fun x=>by rw[Qan]; rfl) rfl (fun x9 hi h=>?_);refine TL.le (τ := Qfg p0 p1 x8.2 x9 (wr (v9+1))) ?_ ((iQcc p0 p1 x8.2 x9 (wr (v9+1)) _ h));exact Le.tz 0 1 rfl rfl rfl
   ·exact JP1.a h (Le.tz 0 1 rfl rfl rfl)
theorem Qul:∀ (p0:(List Qab)) (p1:Int) (p2:Int) (o:(List Qab)×Int),Qbh p0 p1 p2=some o→PCall Tryz.prog 22 [.sl false (p0.map Qaa),iV p1,iV p2] (Qcl o):=fun p0 p1 p2=>Qta.1 p0 p1 p2
def Qcu (p0:(List Qae)) (p1:Int) (v5:(List Qae)) (v6:Int):Option ((List Qae)) :=
 ( if(decide (v6<(p0.length:Int))) then
   some (decide (v6<p1))
  else
   some false:Option (Bool))>>=fun o2 =>
 if o2 then
  idx p0 v6>>=fun x3 =>
  Qbh x3.L 14 40>>=fun x4 =>
  idx p0 v6>>=fun x5 =>
  idx p0 v6>>=fun x6 =>
  cutL x5.Name 0 (if 40<(x6.Name.length:Int) then 40 else(x6.Name.length:Int))>>=fun x7 =>
  appL 40 v5 [(Qae.mk x7 x4.1)]>>=fun x8 =>
  Qcu p0 p1 x8 (wr (v6+1))
 else
  some v5
 partial_fixpoint
theorem Q88:∀ (p0:(List Qae)) (p1:Int),(∀ (v5:(List Qae)) (v6:Int) (o1:(List Qae)),Qcu p0 p1 v5 v6=some o1→TL (0,0) Tryz.prog 49 Quh (JP1 (0,0) 49 o1 (.exit 0) (Qlf p0 p1)) (Qgo p0 p1 v5 v6)):=by
 intro p0 p1;refine Qcu.partial_correctness p0 p1 _ ?_;intro Qcu' iQcu v5 v6 o1 h;refine TL.round (Qaq mixed tbOk (lv:=Qn4) _ _ _ ?_);refine Qaj h (fun o2 ho hk=>?_);refine Exists.intro (JP1 _ _ o2 .normal (Qug p0 p1 v5 v6)) (And.intro ?_ (Qa5 ?_))
 ·have h:=ho;refine view (Qax _ _) rfl ?_;refine Qac h (fun hb h=>?_) (fun hb h=>?_)
  ·refine JP1.a h ?_;exact Le.tz 0 1 rfl rfl rfl
  ·refine JP1.a h ?_;exact Le.tz 0 1 rfl rfl rfl
 ·have h:=hk;refine Qac h (fun hb h=>?_) (fun hb h=>?_)
  ·refine Qa7 (l:=p0) (c:=Qaf) (c' := Qaf) h (fun _=>rfl) (fun _=>rfl) (by decide) (fun x3 hi h=>?_);refine Qam [.sl false (x3.L.map Qaa),iV 14,iV 40] Qcl h (fun x4 hy=>(Qul x3.L 14 40 x4 hy)) (fun x4 hy h=>?_);refine And.intro (by decide +kernel) (And.intro rfl ?_);refine Qa7 (l:=p0) (c:=Qaf) (c' := Qaf) h (fun _=>rfl) (fun _=>rfl) (by decide) (fun x5 hi h=>?_);refine Qa7 (l:=p0) (c:=Qaf) (c' := Qaf) h (fun _=>rfl) (fun _=>rfl) (by decide) (fun x6 hi h=>?_);refine vrfl ?_;refine Qi2 none (some (if 40<(x6.Name.length:Int) then 40 else(x6.Name.length:Int))) h (fun x7 hi h=>?_);refine Qlv (a:=v5) (b:=[(Qae.mk x7 x4.1)]) (c:=Qaf) h (.refl _) (fun _=>rfl) rfl (fun x8 hi h=>?_);refine TL.le (τ := Qgo p0 p1 x8 (wr (v6+1))) ?_ ((iQcu x8 (wr (v6+1)) _ h));exact Le.tz 0 1 rfl rfl rfl
  ·exact JP1.a h (Le.tz 0 1 rfl rfl rfl)
def Qg2 (p0:(List Qae)) (p1:Int):Option ((List Qae)) :=
 (Qcu p0 p1 [] 0)>>=fun o1 =>
 some o1
theorem Qw1:∀ (p0:(List Qae)) (p1:Int) (o:(List Qae)),Qg2 p0 p1=some o→PCall Tryz.prog 12 [.sl false (p0.map Qaf),iV p1] (Qki o):=by
 intro p0 p1 o h;unfold Qg2 at h;refine PCall.ofB mixed tbOk Qn4 Tryz.func12 rfl (by kernel_rfl) (Nat.le_of_ble_eq_true rfl) ?_;refine Qaj h (fun o1 ho hk=>?_);refine Exists.intro (JP1 _ _ o1 (.exit 0) (Qlf p0 p1)) (And.intro (Qhn (τ := Qgo p0 p1 [] 0) ?_ (TL.loop (Q88 p0 p1 [] 0 o1 ho))) (Qa5 ?_))
 ·exact Le.trans (τ := ⟨[(0,.p (.sl false (p0.map Qaf))),(1,.p (iV p1)),(5,.p (.sl true [])),(6,.p (iV 0))],⟨[],[]⟩⟩) (Le.tz 0 0 rfl rfl rfl) ((Le.own 5 56 2 rfl Q1c).trans (Le.tz 0 1 rfl rfl rfl))
 have h:=hk;refine Qar (t:=Qki) h ?_;exact .refl _
end Go.Proofs.YtfgegilhjlnohaaGreat
end
