/- A part of the proof. -/
import Derived.Test.YtfgegilhjlnohaaGreatMgInferMore8

noncomputable section
set_option linter.unusedVariables false
set_option linter.unusedSimpArgs false
set_option maxRecDepth 100000
set_option maxHeartbeats 4000000
namespace Go.Proofs.YtfgegilhjlnohaaGreat
open Go.RowKit
def Q1z (p0:(List (List UInt8))) (p1:(List UInt8)):Option (Bool) :=
 (Qna p0 p1 0)>>=fun o1 =>
 match o1 with
 | .inl y2 =>
  some false
 | .inr y3 =>
  some true
theorem Qab0:∀ (p0:(List (List UInt8))) (p1:(List UInt8)) (o:Bool),Q1z p0 p1=some o→PCall Tryz.prog 21 [.sl false (p0.map cStr),sV p1] (Qwf o):=by
 intro p0 p1 o h;unfold Q1z at h;refine PCall.ofB mixed tbOk Qabl Tryz.func21 rfl (by kernel_rfl) (Nat.le_of_ble_eq_true rfl) ?_;refine Qai h (fun o1 ho hk=>?_);refine Exists.intro (JP2 _ _ o1 (.exit 0) (Qyk p0 p1) .ret (Qyl p0 p1)) (And.intro (Qhe (τ := Qsc p0 p1 0) ?_ (TL.loop (Qam6 p0 p1 0 o1 ho))) (Qf3 (fun y2 hy=>?_) (fun y3 hy=>?_)))
 ·exact Le.tz 0 0 rfl rfl rfl
 ·have h:=(by rw[hy] at hk; exact hk);refine Qam (t:=Qwf) h ?_;exact .refl _
 ·have h:=(by rw[hy] at hk; exact hk);refine Qam (t:=Qwf) h ?_;exact .refl _
def Qh6 (p0:(List (List UInt8))) (p1:(List UInt8)) (v5:Int):Option (Int) :=
 ( if(decide (v5<(p0.length:Int))) then
   idx p0 v5>>=fun x4 =>
   some (Op.bytesLess x4 p1)
  else
   some false:Option (Bool))>>=fun o3 =>
 if o3 then
  Qh6 p0 p1 (wr (v5+1))
 else
  some v5
 partial_fixpoint
theorem Qakn:∀ (p0:(List (List UInt8))) (p1:(List UInt8)),(∀ (v5:Int) (o2:Int),Qh6 p0 p1 v5=some o2→TL (0,1) Tryz.prog 36 Q76 (JP1 (0,1) 36 o2 (.exit 0) (Qux p0 p1)) (Qog p0 p1 v5)):=by
 intro p0 p1;refine Qh6.partial_correctness p0 p1 _ ?_;intro Qh6' iQh6 v5 o2 h;refine TL.round (Qao mixed tbOk (lv:=Q1i) _ _ _ ?_);refine Qai h (fun o3 ho hk=>?_);refine Exists.intro (JP1 _ _ o3 .normal (Q75 p0 p1 v5)) (And.intro ?_ (Qay ?_))
 ·have h:=ho;refine view (Qat _ _) rfl ?_;refine Qad h (fun hb h=>?_) (fun hb h=>?_)
  ·refine Qa2 (l:=p0) (c:=cStr) (c' := cStr) h (fun _=>rfl) (fun _=>rfl) (by decide) (fun x4 hi h=>?_);exact JP1.a h (Le.tz 0 1 rfl rfl rfl)
  ·exact JP1.a h (Le.tz 0 1 rfl rfl rfl)
 ·have h:=hk;refine Qad h (fun hb h=>?_) (fun hb h=>?_)
  ·refine TL.le (τ := Qog p0 p1 (wr (v5+1))) ?_ ((iQh6 (wr (v5+1)) _ h));exact Le.tz 0 1 rfl rfl rfl
  ·exact JP1.a h (Le.tz 0 1 rfl rfl rfl)
def Qp3 (p0:(List (List UInt8))) (p1:(List UInt8)):Option ((List (List UInt8))) :=
 Q1z p0 p1>>=fun x1 =>
 if x1 then
  some p0
 else
  (Qh6 p0 p1 0)>>=fun o2 =>
  cutL p0 0 o2>>=fun x5 =>
  appL 16 [] x5>>=fun x6 =>
  appL 16 x6 [p1]>>=fun x7 =>
  cutL p0 o2 (p0.length:Int)>>=fun x8 =>
  appL 16 x7 x8>>=fun x9 =>
  need (((p0.map cStr).length)<((x9.map cStr).length))>>=fun _ =>
  some x9
theorem Qvh:∀ (p0:(List (List UInt8))) (p1:(List UInt8)) (o:(List (List UInt8))),Qp3 p0 p1=some o→CallOK Tryz.prog 55 [.own 0 9 1 (p0.map cStr),.p (sV p1)] ⟨[],[(p0.map cStr).length]⟩ (Qxw o) ⟨[],[(o.map cStr).length]⟩:=by
 intro p0 p1 o h;unfold Qp3 at h;refine CallOK.ofBN mixed tbOk Q1i Tryz.func55 rfl (by kernel_rfl) (Nat.le_of_ble_eq_true rfl) rfl rfl (Nat.le_of_ble_eq_true rfl) ?_;refine Qal [.sl false (p0.map cStr),sV p1] Qwf h (fun x1 hy=>(Qab0 p0 p1 x1 hy)) (fun x1 hy h=>?_);refine Qad h (fun hb h=>?_) (fun hb h=>?_)
 ·refine Exists.intro _ (And.intro (Le.refl _ _ _) ?_);exact Q09 (t:=Qxw) (ss:=fun o=>⟨[],[(o.map cStr).length]⟩) h ⟨[],[0],rfl,rfl,.refl _,.refl _,rfl,rfl⟩
 ·refine Qai h (fun o2 ho hk=>?_);refine Exists.intro (JP1 _ _ o2 (.exit 0) (Qux p0 p1)) (And.intro (Qhe (τ := Qog p0 p1 0) ?_ (TL.loop (Qakn p0 p1 0 o2 ho))) (Qay ?_))
  ·exact Le.tz 0 1 rfl rfl rfl
  have h:=hk;refine And.intro (by decide +kernel) (And.intro rfl ?_);refine Qaa9 (full:=false) (c:=cStr) none (some o2) h (fun _=>rfl) (fun x5 hi h=>?_);refine Qad8 (a:=([]:List (List UInt8))) (b:=x5) (c:=cStr) h (.refl _) (.refl _) (fun _=>rfl) (.inl rfl) (fun x6 hi h=>?_);refine Qix (a:=x6) (b:=[p1]) (c:=cStr) h (.refl _) (fun _=>rfl) rfl (fun x7 hi h=>?_);refine Qaa9 (full:=false) (c:=cStr) (some o2) none h (fun _=>rfl) (fun x8 hi h=>?_);refine Qix (a:=x7) (b:=x8) (c:=cStr) h (.refl _) (fun _=>rfl) rfl (fun x9 hi h=>?_);refine Qz4 h (fun hn h=>?_);refine Exists.intro _ (And.intro ((Le.into 4 0 0 1 _ _ rfl rfl rfl rfl rfl hn (by decide)).trans (Le.refl _ _ _)) ?_);exact Q09 (t:=Qxw) (ss:=fun o=>⟨[],[(o.map cStr).length]⟩) h ⟨[],[0],rfl,rfl,.refl _,.refl _,rfl,rfl⟩
def Qgg (p0:(List Qab)) (v4:Int) (x9:(List (List UInt8))) (x10:(List (List UInt8))) (v3_:(List (List UInt8))) (v6:Int):Option ((List (List UInt8))) :=
 if(decide (v6<(x10.length:Int))) then
  idx x10 v6>>=fun x12 =>
  Qp3 v3_ x12>>=fun x13 =>
  Qgg p0 v4 x9 x10 x13 (wr (v6+1))
 else
  some v3_
 partial_fixpoint
theorem Qako:∀ (p0:(List Qab)) (v4:Int) (x9:(List (List UInt8))) (x10:(List (List UInt8))),(∀ (v3_:(List (List UInt8))) (v6:Int) (o11:(List (List UInt8))),Qgg p0 v4 x9 x10 v3_ v6=some o11→TL (0,0) Tryz.prog 53 Q73 (JP1 (0,0) 53 o11 (.exit 2) (Quv p0 v4 x9 x10)) (Qoe p0 v4 x9 x10 v3_ v6)):=by
 intro p0 v4 x9 x10;refine Qgg.partial_correctness p0 v4 x9 x10 _ ?_;intro Qgg' iQgg v3_ v6 o11 h;refine TL.round (Qao mixed tbOk (lv:=Qvd) _ _ _ ?_);refine view (Qat _ _) rfl ?_;refine Qad h (fun hb h=>?_) (fun hb h=>?_)
 ·refine Qa2 (l:=x10) (c:=cStr) (c' := cStr) h (fun _=>rfl) (fun _=>rfl) (by decide) (fun x12 hi h=>?_);refine Or.inr ?_;refine Q68 _ _ h (fun x13 hy=>((Qvh v3_ x12 x13 hy).fr [] [0] rfl rfl rfl)) (fun x13 hy h=>?_);refine TL.le (τ := Qoe p0 v4 x9 x10 x13 (wr (v6+1))) ?_ ((iQgg x13 (wr (v6+1)) _ h));exact Le.tz 0 3 rfl rfl rfl
 ·exact JP1.a h (Le.tz 0 3 rfl rfl rfl)
mutual
def Qeq (p0:(List Qab)):Option ((List (List UInt8))) :=
 (Qgh p0 [] 0)>>=fun o1 =>
 some o1
 partial_fixpoint
def Qgh (p0:(List Qab)) (v3:(List (List UInt8))) (v4:Int):Option ((List (List UInt8))) :=
 if(decide (v4<(p0.length:Int))) then
  ( idx p0 v4>>=fun x3 =>
   if(x3.Kind==13) then
    idx p0 v4>>=fun x4 =>
    Qp3 v3 x4.Name>>=fun x5 =>
    some x5
   else
    some v3:Option ((List (List UInt8))))>>=fun o2 =>
  idx p0 v4>>=fun x6 =>
  Qeq x6.Then>>=fun x7 =>
  idx p0 v4>>=fun x8 =>
  Qeq x8.Else>>=fun x9 =>
  appL 16 x7 x9>>=fun x10 =>
  (Qgg p0 v4 x9 x10 o2 0)>>=fun o11 =>
  Qgh p0 o11 (wr (v4+1))
 else
  some v3
 partial_fixpoint
end
theorem Qab1:(∀ (p0:(List Qab)) (o:(List (List UInt8))),Qeq p0=some o→CallOK Tryz.prog 45 [.p (.sl false (p0.map Qaa))] ⟨[],[]⟩ (Qxv o) ⟨[],[(o.map cStr).length]⟩)∧(∀ (p0:(List Qab)) (v3:(List (List UInt8))) (v4:Int) (o1:(List (List UInt8))),Qgh p0 v3 v4=some o1→TL (0,0) Tryz.prog 53 Q74 (JP1 (0,0) 53 o1 (.exit 0) (Quw p0)) (Qof p0 v3 v4)):=by
 refine Qeq.mutual_partial_correctness _ _ ?_ ?_
 ·intro Qgh' iQgh p0 o h;refine CallOK.ofBN mixed tbOk Qvd Tryz.func45 rfl (by kernel_rfl) (Nat.le_of_ble_eq_true rfl) rfl rfl (Nat.le_of_ble_eq_true rfl) ?_;refine Qai h (fun o1 ho hk=>?_);refine Exists.intro (JP1 _ _ o1 (.exit 0) (Quw p0)) (And.intro (Qhe (τ := Qof p0 [] 0) ?_ (TL.loop (iQgh p0 [] 0 o1 ho))) (Qay ?_))
  ·exact Le.trans (τ := ⟨[(0,.p (.sl false (p0.map Qaa))),(3,.p (.sl true [])),(4,.p (iV 0))],⟨[],[]⟩⟩) (Le.tz 0 0 rfl rfl rfl) ((Le.own 3 9 1 rfl Qxs).trans (Le.tz 0 1 rfl rfl rfl))
  have h:=hk;refine Exists.intro _ (And.intro (Le.refl _ _ _) ?_);exact Q09 (t:=Qxv) (ss:=fun o=>⟨[],[(o.map cStr).length]⟩) h ⟨[],[0],rfl,rfl,.refl _,.refl _,rfl,rfl⟩
 ·intro Qeq' Qgh' iQeq iQgh p0 v3 v4 o1 h;refine TL.round (Qao mixed tbOk (lv:=Qvd) _ _ _ ?_);refine view (Qat _ _) rfl ?_;refine Qad h (fun hb h=>?_) (fun hb h=>?_)
  ·refine Qai h (fun o2 ho hk=>?_);refine Exists.intro (JP1 _ _ o2 .normal (Q72 p0 v4)) (And.intro ?_ (Qay ?_))
   ·have h:=ho;refine Qa2 (l:=p0) (c:=Qaa) (c' := Qa0) h Qaq (fun _=>rfl) (by decide) (fun x3 hi h=>?_);refine Qad h (fun hb h=>?_) (fun hb h=>?_)
    ·refine Qa2 (l:=p0) (c:=Qaa) (c' := Qa0) h Qaq (fun _=>rfl) (by decide) (fun x4 hi h=>?_);refine Or.inr ?_;refine Q68 _ _ h (fun x5 hy=>((Qvh v3 x4.Name x5 hy).fr [] [0] rfl rfl rfl)) (fun x5 hy h=>?_);exact JP1.a h (Le.tz 0 1 rfl rfl rfl)
    ·exact JP1.a h (Le.tz 0 1 rfl rfl rfl)
   ·have h:=hk;refine And.intro (by decide +kernel) (And.intro rfl ?_);refine Qa2 (l:=p0) (c:=Qaa) (c' := Qa0) h Qaq (fun _=>rfl) (by decide) (fun x6 hi h=>?_);refine Q66 _ _ h (fun x7 hy=>((iQeq x6.Then x7 hy).ft rfl [] rfl rfl rfl)) (fun x7 hy h=>?_);refine Qa2 (l:=p0) (c:=Qaa) (c' := Qa0) h Qaq (fun _=>rfl) (by decide) (fun x8 hi h=>?_);refine Q66 _ _ h (fun x9 hy=>((iQeq x8.Else x9 hy).ft rfl [] rfl rfl rfl)) (fun x9 hy h=>?_);refine Qix (a:=x7) (b:=x9) (c:=cStr) h (.refl _) (fun _=>rfl) rfl (fun x10 hi h=>?_);refine Qai h (fun o11 ho hk=>?_);refine Exists.intro (JP1 _ _ o11 (.exit 2) (Quv p0 v4 x9 x10)) (And.intro (Qhe (τ := Qoe p0 v4 x9 x10 o2 0) ?_ (TL.loop (Qako p0 v4 x9 x10 o2 0 o11 ho))) (Qay ?_))
    ·exact Le.tz 0 3 rfl rfl rfl
    have h:=hk;refine TL.le (τ := Qof p0 o11 (wr (v4+1))) ?_ ((iQgh p0 o11 (wr (v4+1)) _ h));exact Le.tz 0 1 rfl rfl rfl
  ·exact JP1.a h (Le.tz 0 1 rfl rfl rfl)
theorem Qvi:∀ (p0:(List Qab)) (o:(List (List UInt8))),Qeq p0=some o→CallOK Tryz.prog 45 [.p (.sl false (p0.map Qaa))] ⟨[],[]⟩ (Qxv o) ⟨[],[(o.map cStr).length]⟩:=fun p0=>Qab1.1 p0
def Qgi (p0:(List Qae)) (v7:Int):Option (Unit⊕(List UInt8)) :=
 if(decide (v7<(p0.length:Int))) then
  idx p0 v7>>=fun x17 =>
  Qeq x17.L>>=fun x18 =>
  (Qgf p0 v7 x18 0)>>=fun o19 =>
  match o19 with
  | .inl y20 =>
   Qgi p0 (wr (v7+1))
  | .inr y21 =>
   some (.inr y21)
 else
  some (.inl ())
 partial_fixpoint
theorem Qail:∀ (p0:(List Qae)),(∀ (v7:Int) (o14:Unit⊕(List UInt8)),Qgi p0 v7=some o14→TL (0,0) Tryz.prog 119 Q3o (JP2 (0,0) 119 o14 (.exit 2) (Qr8 p0) .ret (Qr9 p0)) (Qmx p0 v7)):=by
 intro p0;refine Qgi.partial_correctness p0 _ ?_;intro Qgi' iQgi v7 o14 h;refine TL.round (Qao mixed tbOk (lv:=Qkz) _ _ _ ?_);refine view (Qat _ _) rfl ?_;refine Qad h (fun hb h=>?_) (fun hb h=>?_)
 ·refine Qa2 (l:=p0) (c:=Qaf) (c' := Qaf) h (fun _=>rfl) (fun _=>rfl) (by decide) (fun x17 hi h=>?_);refine Qap _ _ h (fun x18 hy=>((Qvi x17.L x18 hy).fr [] [] rfl rfl rfl)) (fun x18 hy h=>?_);refine Qai h (fun o19 ho hk=>?_);refine Exists.intro (JP2 _ _ o19 (.exit 4) (Qr6 p0 v7 x18) .ret (Qr7 p0 v7 x18)) (And.intro (Qhe (τ := Qmw p0 v7 x18 0) ?_ (TL.loop (Qaik p0 v7 x18 0 o19 ho))) (Qf3 (fun y20 hy=>?_) (fun y21 hy=>?_)))
  ·exact Le.tz 0 1 rfl rfl rfl
  ·have h:=(by rw[hy] at hk; exact hk);refine TL.le (τ := Qmx p0 (wr (v7+1))) ?_ ((iQgi (wr (v7+1)) _ h));exact Le.tz 0 0 rfl rfl rfl
  ·have h:=(by rw[hy] at hk; exact hk);exact JP2.b h (Le.tz 0 0 rfl rfl rfl)
 ·exact JP2.a h (Le.tz 0 0 rfl rfl rfl)
def Qgj (p0:(List Qae)) (v7:(List (List UInt8))) (v8:Int) (v10:Int) (x7:(List (List UInt8))) (v7__:(List (List UInt8))) (v14:Int):Option ((List (List UInt8))) :=
 if(decide (v14<(x7.length:Int))) then
  idx x7 v14>>=fun x9 =>
  Qp3 v7__ x9>>=fun x10 =>
  Qgj p0 v7 v8 v10 x7 x10 (wr (v14+1))
 else
  some v7__
 partial_fixpoint
theorem Qaim:∀ (p0:(List Qae)) (v7:(List (List UInt8))) (v8:Int) (v10:Int) (x7:(List (List UInt8))),(∀ (v7__:(List (List UInt8))) (v14:Int) (o8:(List (List UInt8))),Qgj p0 v7 v8 v10 x7 v7__ v14=some o8→TL (0,0) Tryz.prog 60 Q3q (JP1 (0,0) 60 o8 (.exit 4) (Qsd p0 v7 v8 v10 x7)) (Qmz p0 v7 v8 v10 x7 v7__ v14)):=by
 intro p0 v7 v8 v10 x7;refine Qgj.partial_correctness p0 v7 v8 v10 x7 _ ?_;intro Qgj' iQgj v7__ v14 o8 h;refine TL.round (Qao mixed tbOk (lv:=Qnp) _ _ _ ?_);refine view (Qat _ _) rfl ?_;refine Qad h (fun hb h=>?_) (fun hb h=>?_)
 ·refine Qa2 (l:=x7) (c:=cStr) (c' := cStr) h (fun _=>rfl) (fun _=>rfl) (by decide) (fun x9 hi h=>?_);refine Or.inr ?_;refine Q68 _ _ h (fun x10 hy=>((Qvh v7__ x9 x10 hy).fr [] [0] rfl rfl rfl)) (fun x10 hy h=>?_);refine TL.le (τ := Qmz p0 v7 v8 v10 x7 x10 (wr (v14+1))) ?_ ((iQgj x10 (wr (v14+1)) _ h));exact Le.tz 0 2 rfl rfl rfl
 ·exact JP1.a h (Le.tz 0 2 rfl rfl rfl)
def Qgk (p0:(List Qae)) (v7:(List (List UInt8))) (v8:Int) (v7_:(List (List UInt8))) (v10:Int):Option ((List (List UInt8))) :=
 if(decide (v10<(v7.length:Int))) then
  idx v7 v10>>=fun x5 =>
  Qhx p0 x5>>=fun x6 =>
  Qeq x6.1>>=fun x7 =>
  (Qgj p0 v7 v8 v10 x7 v7_ 0)>>=fun o8 =>
  Qgk p0 v7 v8 o8 (wr (v10+1))
 else
  some v7_
 partial_fixpoint
theorem Qain:∀ (p0:(List Qae)) (v7:(List (List UInt8))) (v8:Int),(∀ (v7_:(List (List UInt8))) (v10:Int) (o4:(List (List UInt8))),Qgk p0 v7 v8 v7_ v10=some o4→TL (0,0) Tryz.prog 60 Q3r (JP1 (0,0) 60 o4 (.exit 2) (Qse p0 v7 v8)) (Qm0 p0 v7 v8 v7_ v10)):=by
 intro p0 v7 v8;refine Qgk.partial_correctness p0 v7 v8 _ ?_;intro Qgk' iQgk v7_ v10 o4 h;refine TL.round (Qao mixed tbOk (lv:=Qnp) _ _ _ ?_);refine view (Qat _ _) rfl ?_;refine Qad h (fun hb h=>?_) (fun hb h=>?_)
 ·refine Qa2 (l:=v7) (c:=cStr) (c' := cStr) h (fun _=>rfl) (fun _=>rfl) (by decide) (fun x5 hi h=>?_);refine Qal [.sl false (p0.map Qaf),sV x5] Qg4 h (fun x6 hy=>(Qkf p0 x5 x6 hy)) (fun x6 hy h=>?_);refine Qap _ _ h (fun x7 hy=>((Qvi x6.1 x7 hy).fr [] [] rfl rfl rfl)) (fun x7 hy h=>?_);refine Qai h (fun o8 ho hk=>?_);refine Exists.intro (JP1 _ _ o8 (.exit 4) (Qsd p0 v7 v8 v10 x7)) (And.intro (Qhe (τ := Qmz p0 v7 v8 v10 x7 v7_ 0) ?_ (TL.loop (Qaim p0 v7 v8 v10 x7 v7_ 0 o8 ho))) (Qay ?_))
  ·exact Le.tz 0 2 rfl rfl rfl
  have h:=hk;refine TL.le (τ := Qm0 p0 v7 v8 o8 (wr (v10+1))) ?_ ((iQgk o8 (wr (v10+1)) _ h));exact Le.tz 0 1 rfl rfl rfl
 ·exact JP1.a h (Le.tz 0 1 rfl rfl rfl)
def Qgl (p0:(List Qae)) (v7:(List (List UInt8))) (v8:Int):Option ((List (List UInt8))) :=
 if(decide (v8<(p0.length:Int))) then
  (Qgk p0 v7 v8 v7 0)>>=fun o4 =>
  Qgl p0 o4 (wr (v8+1))
 else
  some v7
 partial_fixpoint
theorem Qaio:∀ (p0:(List Qae)),(∀ (v7:(List (List UInt8))) (v8:Int) (o3:(List (List UInt8))),Qgl p0 v7 v8=some o3→TL (0,0) Tryz.prog 60 Q3s (JP1 (0,0) 60 o3 (.exit 0) (Qsf p0)) (Qm1 p0 v7 v8)):=by
 intro p0;refine Qgl.partial_correctness p0 _ ?_;intro Qgl' iQgl v7 v8 o3 h;refine TL.round (Qao mixed tbOk (lv:=Qnp) _ _ _ ?_);refine view (Qat _ _) rfl ?_;refine Qad h (fun hb h=>?_) (fun hb h=>?_)
 ·refine Qai h (fun o4 ho hk=>?_);refine Exists.intro (JP1 _ _ o4 (.exit 2) (Qse p0 v7 v8)) (And.intro (Qhe (τ := Qm0 p0 v7 v8 v7 0) ?_ (TL.loop (Qain p0 v7 v8 v7 0 o4 ho))) (Qay ?_))
  ·exact Le.tow 0 1 rfl (.cons rfl (.refl _) (.cons rfl (.refl _) (.cons rfl (.refl _) (.cons rfl (.drop rfl (.refl _)) (.cons rfl (.refl _) (.nil)))))) (.refl _) rfl
  have h:=hk;refine TL.le (τ := Qm1 p0 o4 (wr (v8+1))) ?_ ((iQgl o4 (wr (v8+1)) _ h));exact Le.tz 0 1 rfl rfl rfl
 ·exact JP1.a h (Le.tz 0 1 rfl rfl rfl)
def Qss (p0:(List Qae)) (p1:(List UInt8)):Option ((List (List UInt8))) :=
 Qhx p0 p1>>=fun x1 =>
 Qeq x1.1>>=fun x2 =>
 (Qgl p0 x2 0)>>=fun o3 =>
 some o3
theorem Qab2:∀ (p0:(List Qae)) (p1:(List UInt8)) (o:(List (List UInt8))),Qss p0 p1=some o→CallOK Tryz.prog 46 [.p (.sl false (p0.map Qaf)),.p (sV p1)] ⟨[],[]⟩ (Q1h o) ⟨[],[(o.map cStr).length]⟩:=by
 intro p0 p1 o h;unfold Qss at h;refine CallOK.ofBN mixed tbOk Qnp Tryz.func46 rfl (by kernel_rfl) (Nat.le_of_ble_eq_true rfl) rfl rfl (Nat.le_of_ble_eq_true rfl) ?_;refine Qal [.sl false (p0.map Qaf),sV p1] Qg4 h (fun x1 hy=>(Qkf p0 p1 x1 hy)) (fun x1 hy h=>?_);refine Qap _ _ h (fun x2 hy=>((Qvi x1.1 x2 hy).fr [] [] rfl rfl rfl)) (fun x2 hy h=>?_);refine Qai h (fun o3 ho hk=>?_);refine Exists.intro (JP1 _ _ o3 (.exit 0) (Qsf p0)) (And.intro (Qhe (τ := Qm1 p0 x2 0) ?_ (TL.loop (Qaio p0 x2 0 o3 ho))) (Qay ?_))
 ·exact Le.tz 0 1 rfl rfl rfl
 have h:=hk;refine Exists.intro _ (And.intro (Le.refl _ _ _) ?_);exact Q09 (t:=Q1h) (ss:=fun o=>⟨[],[(o.map cStr).length]⟩) h ⟨[],[0],rfl,rfl,.refl _,.refl _,rfl,rfl⟩
def Qgm (p0:(List Qae)) (v12:Int):Option (Unit⊕(List UInt8)) :=
 if(decide (v12<(p0.length:Int))) then
  idx p0 v12>>=fun x28 =>
  Qss p0 x28.Name>>=fun x29 =>
  idx p0 v12>>=fun x30 =>
  Q1z x29 x30.Name>>=fun x31 =>
  if x31 then
   idx p0 v12>>=fun x32 =>
   some (.inr x32.Name)
  else
   Qgm p0 (wr (v12+1))
 else
  some (.inl ())
 partial_fixpoint
theorem Qaip:∀ (p0:(List Qae)),(∀ (v12:Int) (o25:Unit⊕(List UInt8)),Qgm p0 v12=some o25→TL (0,0) Tryz.prog 119 Q3p (JP2 (0,0) 119 o25 (.exit 6) (Qsa p0) .ret (Qsb p0)) (Qmy p0 v12)):=by
 intro p0;refine Qgm.partial_correctness p0 _ ?_;intro Qgm' iQgm v12 o25 h;refine TL.round (Qao mixed tbOk (lv:=Qkz) _ _ _ ?_);refine view (Qat _ _) rfl ?_;refine Qad h (fun hb h=>?_) (fun hb h=>?_)
 ·refine And.intro (by decide +kernel) (And.intro rfl ?_);refine Qa2 (l:=p0) (c:=Qaf) (c' := Qaf) h (fun _=>rfl) (fun _=>rfl) (by decide) (fun x28 hi h=>?_);refine Q66 _ _ h (fun x29 hy=>((Qab2 p0 x28.Name x29 hy).ft rfl [] rfl rfl rfl)) (fun x29 hy h=>?_);refine Qa2 (l:=p0) (c:=Qaf) (c' := Qaf) h (fun _=>rfl) (fun _=>rfl) (by decide) (fun x30 hi h=>?_);refine Qco [.sl false (x29.map cStr),sV x30.Name] Qwf h (fun x31 hy=>(Qab0 x29 x30.Name x31 hy)) (fun x31 hy h=>?_);refine Qad h (fun hb h=>?_) (fun hb h=>?_)
  ·refine Qa2 (l:=p0) (c:=Qaf) (c' := Qaf) h (fun _=>rfl) (fun _=>rfl) (by decide) (fun x32 hi h=>?_);exact JP2.b h (Le.tz 0 0 rfl rfl rfl)
  ·refine TL.le (τ := Qmy p0 (wr (v12+1))) ?_ ((iQgm (wr (v12+1)) _ h));exact Le.tz 0 0 rfl rfl rfl
 ·exact JP2.a h (Le.tz 0 0 rfl rfl rfl)
def Qo7 (p0:(List Qae)):Option ((List UInt8)×Int) :=
 if(decide ((p0.length:Int)>16)) then
  some ([],5)
 else
  (Qge p0 0)>>=fun o1 =>
  match o1 with
  | .inl y2 =>
   (Qgi p0 0)>>=fun o14 =>
   match o14 with
   | .inl y15 =>
    (Qgm p0 0)>>=fun o25 =>
    match o25 with
    | .inl y26 =>
     some ([],0)
    | .inr y27 =>
     some (y27,10)
   | .inr y16 =>
    some (y16,4)
  | .inr y3 =>
   some (y3.1,y3.2)
theorem Qab3:∀ (p0:(List Qae)) (o:(List UInt8)×Int),Qo7 p0=some o→PCall Tryz.prog 14 [.sl false (p0.map Qaf)] (Qh2 o):=by
 intro p0 o h;unfold Qo7 at h;refine PCall.ofB mixed tbOk Qkz Tryz.func14 rfl (by kernel_rfl) (Nat.le_of_ble_eq_true rfl) ?_;refine view (Qat _ _) rfl ?_;refine Qad h (fun hb h=>?_) (fun hb h=>?_)
 ·refine Qam (t:=Qh2) h ?_;exact .refl _
 ·refine Qai h (fun o1 ho hk=>?_);refine Exists.intro (JP2 _ _ o1 (.exit 0) (Qr4 p0) .ret (Qr5 p0)) (And.intro (Qhe (τ := Qmv p0 0) ?_ (TL.loop (Qaij p0 0 o1 ho))) (Qf3 (fun y2 hy=>?_) (fun y3 hy=>?_)))
  ·exact Le.tz 0 0 rfl rfl rfl
  ·have h:=(by rw[hy] at hk; exact hk);refine Qai h (fun o14 ho hk=>?_);refine Exists.intro (JP2 _ _ o14 (.exit 2) (Qr8 p0) .ret (Qr9 p0)) (And.intro (Qhe (τ := Qmx p0 0) ?_ (TL.loop (Qail p0 0 o14 ho))) (Qf3 (fun y15 hy=>?_) (fun y16 hy=>?_)))
   ·exact Le.tz 0 0 rfl rfl rfl
   ·have h:=(by rw[hy] at hk; exact hk);refine Qai h (fun o25 ho hk=>?_);refine Exists.intro (JP2 _ _ o25 (.exit 6) (Qsa p0) .ret (Qsb p0)) (And.intro (Qhe (τ := Qmy p0 0) ?_ (TL.loop (Qaip p0 0 o25 ho))) (Qf3 (fun y26 hy=>?_) (fun y27 hy=>?_)))
    ·exact Le.tz 0 0 rfl rfl rfl
    ·have h:=(by rw[hy] at hk; exact hk);refine Qam (t:=Qh2) h ?_;exact .refl _
    ·have h:=(by rw[hy] at hk; exact hk);refine Qam (t:=Qh2) h ?_;exact .refl _
   ·have h:=(by rw[hy] at hk; exact hk);refine Qam (t:=Qh2) h ?_;exact .refl _
  ·have h:=(by rw[hy] at hk; exact hk);refine Qam (t:=Qh2) h ?_;exact .refl _
def Qe8 (p0:(List Qae)) (p1:(List UInt8)) (v10:Int):Option (Unit⊕(List Qab)) :=
 if(decide (v10<(p0.length:Int))) then
  idx p0 v10>>=fun x4 =>
  if(x4.Name==p1) then
   some (.inr x4.L)
  else
   Qe8 p0 p1 (wr (v10+1))
 else
  some (.inl ())
 partial_fixpoint
theorem Qahw:∀ (p0:(List Qae)) (p1:(List UInt8)),(∀ (v10:Int) (o1:Unit⊕(List Qab)),Qe8 p0 p1 v10=some o1→TL (0,0) Tryz.prog 21 Q1j (JP2 (0,0) 21 o1 (.exit 0) (Qqn p0 p1) .ret (Qqo p0 p1)) (Qlj p0 p1 v10)):=by
 intro p0 p1;refine Qe8.partial_correctness p0 p1 _ ?_;intro Qe8' iQe8 v10 o1 h;refine TL.round (Qao mixed tbOk (lv:=Qwg) _ _ _ ?_);refine Qad h (fun hb h=>?_) (fun hb h=>?_)
 ·refine Qa2 (l:=p0) (c:=Qaf) (c' := Qaf) h (fun _=>rfl) (fun _=>rfl) (by decide) (fun x4 hi h=>?_);refine Qad h (fun hb h=>?_) (fun hb h=>?_)
  ·exact JP2.b h (Le.tz 0 0 rfl rfl rfl)
  ·refine TL.le (τ := Qlj p0 p1 (wr (v10+1))) ?_ ((iQe8 (wr (v10+1)) _ h));exact Le.tz 0 0 rfl rfl rfl
 ·exact JP2.a h (Le.tz 0 0 rfl rfl rfl)
def Qkg (p0:(List Qae)) (p1:(List UInt8)):Option ((List Qab)×Bool) :=
 (Qe8 p0 p1 0)>>=fun o1 =>
 match o1 with
 | .inl y2 =>
  some ([],false)
 | .inr y3 =>
  some (y3,true)
theorem Qp4:∀ (p0:(List Qae)) (p1:(List UInt8)) (o:(List Qab)×Bool),Qkg p0 p1=some o→PCall Tryz.prog 39 [.sl false (p0.map Qaf),sV p1] (Qin o):=by
 intro p0 p1 o h;unfold Qkg at h;refine PCall.ofB mixed tbOk Qwg Tryz.func39 rfl (by kernel_rfl) (Nat.le_of_ble_eq_true rfl) ?_;refine view (Qat _ _) rfl ?_;refine Qai h (fun o1 ho hk=>?_);refine Exists.intro (JP2 _ _ o1 (.exit 0) (Qqn p0 p1) .ret (Qqo p0 p1)) (And.intro (Qhe (τ := Qlj p0 p1 0) ?_ (TL.loop (Qahw p0 p1 0 o1 ho))) (Qf3 (fun y2 hy=>?_) (fun y3 hy=>?_)))
 ·exact Le.tz 0 0 rfl rfl rfl
 ·have h:=(by rw[hy] at hk; exact hk);refine Qam (t:=Qin) h ?_;exact .tup (xs:=[.sl true [],bV false]) (ys:=[.sl false [],bV false]) (.cons (.not) (.cons (.refl _) (.nil)))
 ·have h:=(by rw[hy] at hk; exact hk);refine Qam (t:=Qin) h ?_;exact .refl _
def Qe9 (x1:(List Qab)×Int) (l4:(List (Qab×Int))) (h0_0:Int):Option (Int) :=
 match l4 with
 | [] =>
  some h0_0
 | x2::r3 =>
  Qe9 x1 r3 (wr (h0_0+1))
 partial_fixpoint
theorem Qahx:∀ (x1:(List Qab)×Int),(∀ (l4:(List (Qab×Int))) (h0_0:Int) (o6:Int),Qe9 x1 l4 h0_0=some o6→RL 1 0 Tryz.prog 11 (rgP Qm3) (rgA Qm3) (rgB Qm3) (Qhu x1 h0_0).env (JP1 (0,0) 11 o6 .normal (Qqp x1)) (l4.map Qcl) (Qhu x1 h0_0).s):=by
 intro x1;refine Qe9.partial_correctness x1 _ ?_;intro Qe9' iQe9 l4 h0_0 o6 h;cases l4 with
 | nil =>
  refine Qaf6 ?_;exact JP1.a h (Le.tz 1 0 rfl rfl rfl)
 | cons x2 r3 =>
  refine Q67 (Qao mixed tbOk (lv:=Qp0) _ _ _ ?_);refine And.intro rfl (Qao mixed tbOk (lv:=Qp0) _ _ _ ?_);exact Exists.intro (Qhu x1 (wr (h0_0+1))).s (And.intro (Le.tz 1 0 rfl rfl rfl) (And.intro rfl (And.intro rfl ((iQe9 r3 (wr (h0_0+1)) _ h)))))
def Qku (p0:(List Qab)) (p1:Int):Option ((List Qab)×Int) :=
 some (p0,p1)
theorem Qvj:∀ (p0:(List Qab)) (p1:Int) (o:(List Qab)×Int),Qku p0 p1=some o→PCall Tryz.prog 96 [.sl false (p0.map Qaa),iV p1] (Qo4 o):=by
 intro p0 p1 o h;unfold Qku at h;refine PCall.ofM mixed tbOk Qael Tryz.func96 rfl (by kernel_rfl) (Nat.le_of_ble_eq_true rfl) ?_;refine Qam (t:=Qo4) h ?_;exact .refl _
def Qfa (p0:(List Qab)) (p1:Int) (v12:Int) (x3:Qab) (v28:Int) (x7:(List Qab)×Int) (l10:(List (Qab×Int))):Option ((List (Qab×Int))×(Unit)) :=
 match l10 with
 | [] =>
  some ([],())
 | x8::r9 =>
  ( Qfa p0 p1 v12 x3 v28 x7 r9 )>>=fun q=>some (((Qab.mk x8.1.Kind x8.1.Name x8.1.Text x8.1.N x8.1.L x8.1.Then x8.1.Else),x8.2)::q.1,q.2)
 partial_fixpoint
theorem Qahy:∀ (p0:(List Qab)) (p1:Int) (v12:Int) (x3:Qab) (v28:Int) (x7:(List Qab)×Int),(∀ (l10:(List (Qab×Int))) (o13:(List (Qab×Int))×(Unit)),Qfa p0 p1 v12 x3 v28 x7 l10=some o13→∀ (gxs gp gpost gq12:List (List V)),gxs=gp++(o13.1.map Qcl++gpost)→gxs=gq12++gpost→RL 2 1 Tryz.prog 44 (rgP Qm4) (rgA Qm4) (rgB Qm4) (Qhv p0 p1 v12 x3 v28 x7 gxs gp).env (Qs (0,1) 44 gxs (JP1 (0,1) 44 o13.2 .normal (Qqq p0 p1 v12 x3 v28 x7 gxs gq12))) (l10.map Qcl) (Qhv p0 p1 v12 x3 v28 x7 gxs gp).s):=by
 intro p0 p1 v12 x3 v28 x7;refine Qfa.partial_correctness p0 p1 v12 x3 v28 x7 _ ?_;intro Qfa' iQfa l10 o13 h;intro gxs gp gpost gq12 hx hq;cases l10 with
 | nil =>
  refine Qaf6 ?_;exact .inl (JP1.a (sndI h) (Le.tz 2 1 rfl rfl (Qamy h hx hq rfl)))
 | cons x8 r9 =>
  refine Q67 (Qao mixed tbOk (lv:=Qi5) _ _ _ ?_);refine And.intro rfl (Qao mixed tbOk (lv:=Qi5) _ _ _ ?_);refine Qaj4 (c:=Qcl) h hx (.refl _) (by exact rfl) (by exact rfl) (fun _ h hx=>?_) ?_
  ·refine bF ?_;exact Exists.intro (Qhv p0 p1 v12 x3 v28 x7  gxs (gp++[Qcl ((Qab.mk x8.1.Kind x8.1.Name x8.1.Text x8.1.N x8.1.L x8.1.Then x8.1.Else),x8.2)])).s (And.intro (Le.tz 2 1 rfl rfl rfl) (And.intro rfl (And.intro rfl ((iQfa r9 _ h) _ _ _ _ hx hq))))
  ·refine bT ?_;exact⟨_,(Le.env0 _).trans (Le.tow 2 1 rfl .nil (.refl _) rfl),rfl,rfl,.inr ⟨rfl,Qamx rfl⟩⟩
mutual
def Qfx (p0 : (List Qab)) (p1 : Int) : Option ((List (Qab × Int)) × Unit) :=
  ( Qfb p0 p1 0) >>= fun o2 => (
    some ([], ())) >>= fun q => some (o2.1 ++ q.1, q.2)
  partial_fixpoint
def Qfb (p0 : (List Qab)) (p1 : Int) (v12 : Int) : Option ((List (Qab × Int)) × (Unit)) :=
  if (decide (v12 < (p0.length : Int))) then
    idx p0 v12 >>= fun x3 =>
    ( ( Qcg p0 p1 v12 x3 0) >>= fun o5 => (
        Qfb p0 p1 (wr (v12 + 1))) >>= fun q => some (o5.1 ++ q.1, q.2)) >>= fun q => some ((x3, p1) :: q.1, q.2)
  else
    some ([], ())
  partial_fixpoint
def Qcg (p0 : (List Qab)) (p1 : Int) (v12 : Int) (x3 : Qab) (v28 : Int) : Option ((List (Qab × Int)) × (Unit)) :=
  if (decide (v28 < 3)) then
    idx ([x3.L, x3.Then, x3.Else] : List (List Qab)) v28 >>= fun x6 =>
    Qku x6 (wr (p1 + 1)) >>= fun x7 =>
    Qfx x7.1 x7.2 >>= fun y11 =>
    ( Qfa p0 p1 v12 x3 v28 x7 y11.1) >>= fun o13 => (
      Qcg p0 p1 v12 x3 (wr (v28 + 1))) >>= fun q => some (o13.1 ++ q.1, q.2)
  else
    some ([], ())
  partial_fixpoint
end
theorem Q4c:(∀ (p0:(List Qab)) (p1:Int) (o:(List (Qab×Int))×Unit),Qfx p0 p1=some o→∀ gxs:List (List V),gxs=o.1.map Qcl→IterOK Tryz.prog 125 [.ep [.sl false (p0.map Qaa)],.ep [iV p1]] gxs)∧(∀ (p0:(List Qab)) (p1:Int) (v12:Int) (o2:(List (Qab×Int))×(Unit)),Qfb p0 p1 v12=some o2→∀ (gxs gp gpost gq1:List (List V)),gxs=gp++(o2.1.map Qcl++gpost)→gxs=gq1++gpost→TL (0,1) Tryz.prog 44 Q1o (Qs (0,1) 44 gxs (JP1 (0,1) 44 o2.2 (.exit 0) (Qqs p0 p1 gxs gq1))) (Qlm p0 p1 v12 gxs gp))∧(∀ (p0:(List Qab)) (p1:Int) (v12:Int) (x3:Qab) (v28:Int) (o5:(List (Qab×Int))×(Unit)),Qcg p0 p1 v12 x3 v28=some o5→∀ (gxs gp gpost gq4:List (List V)),gxs=gp++(o5.1.map Qcl++gpost)→gxs=gq4++gpost→TL (0,1) Tryz.prog 44 Q1n (Qs (0,1) 44 gxs (JP1 (0,1) 44 o5.2 (.exit 2) (Qqr p0 p1 v12 x3 gxs gq4))) (Qll p0 p1 v12 x3 v28 gxs gp)):=by
 refine Qfx.mutual_partial_correctness _ _ _ ?_ ?_ ?_
 ·intro Qfb' iQfb p0 p1 o h;intro gxs hg;have hx:gxs=[]++(o.1.map Qcl++[]):=by simp[hg]
  refine IterOK.ofB mixed tbOk Qi5 Tryz.func125 rfl (by kernel_rfl) (Nat.le_of_ble_eq_true rfl) rfl ?_;refine view (Qat _ _) rfl ?_;refine Qz3 h hx (fun o2 lgq1 gq1 ho hk hxa hjgq1=>?_);refine Exists.intro (Qs _ _ gxs (JP1 _ _ o2.2 (.exit 0) (Qqs p0 p1 gxs gq1))) (And.intro (Qhe (τ := Qlm p0 p1 0 gxs ([]:List (List V))) ?_ (TL.loop ((iQfb p0 p1 0 o2 ho) _ _ _ _ hxa hjgq1))) (Qamz (Qay ?_) ?_))
  ·exact Le.tz 1 1 rfl rfl rfl
  ·have h:=hk;have hx:=hjgq1;exact Qaj3 h hx (.inl rfl) rfl
  ·exact fun s1 h1 h2 hs=>Qaf7 (.inr rfl) hs
 ·intro Qfb' Qcg' iQfb iQcg p0 p1 v12 o2 h;intro gxs gp gpost gq1 hx hq;refine TL.round (Qao mixed tbOk (lv:=Qi5) _ _ _ ?_);refine Qad h (fun hb h=>?_) (fun hb h=>?_)
  ·refine Qa2 (l:=p0) (c:=Qaa) (c' := Qa0) h Qaq (fun _=>rfl) (by decide) (fun x3 hi h=>?_);refine Qaj4 (c:=Qcl) h hx (.refl _) (by exact rfl) (by exact rfl) (fun _ h hx=>?_) ?_
   ·refine bF ?_;refine Qz3 h hx (fun o5 lgq4 gq4 ho hk hxa hjgq4=>?_);refine Exists.intro (Qs _ _ gxs (JP1 _ _ o5.2 (.exit 2) (Qqr p0 p1 v12 x3 gxs gq4))) (And.intro (Qhe (τ := Qll p0 p1 v12 x3 0 gxs (gp++[Qcl (x3,p1)])) ?_ (TL.loop ((iQcg p0 p1 v12 x3 0 o5 ho) _ _ _ _ hxa hjgq4))) (Qamz (Qay ?_) ?_))
    ·exact Le.tz 2 1 rfl rfl rfl
    ·have h:=hk;have hx:=hjgq4;refine TL.le (τ := Qlm p0 p1 (wr (v12+1)) gxs gq4) ?_ ((iQfb p0 p1 (wr (v12+1)) _ h) _ _ _ _ hx hq);exact Le.tz 1 1 rfl rfl rfl
    ·exact fun s1 h1 h2 hs =>.inr ⟨rfl,s1,.refl _ _ _,h1,h2,hs⟩
   ·refine bT ?_;exact .inr ⟨rfl,_,(Le.env0 _).trans (Le.tow 0 1 rfl .nil (.refl _) rfl),rfl,rfl,rfl⟩
  ·exact .inl (JP1.a (sndI h) (Le.tz 1 1 rfl rfl (Qamy h hx hq rfl)))
 ·intro Qfx' Qcg' iQfx iQcg p0 p1 v12 x3 v28 o5 h;intro gxs gp gpost gq4 hx hq;refine TL.round (Qao mixed tbOk (lv:=Qi5) _ _ _ ?_);refine Qad h (fun hb h=>?_) (fun hb h=>?_)
  ·refine Qao0 (l:=([x3.L,x3.Then,x3.Else]:List (List Qab))) (c:=fun x6 =>.sl false (x6.map Qaa)) h rfl rfl rfl rfl (fun x6 hi h=>?_);refine Qal [.sl false (x6.map Qaa),iV (wr (p1+1))] Qo4 h (fun x7 hy=>(Qvj x6 (wr (p1+1)) x7 hy)) (fun x7 hy h=>?_);refine Qai h (fun y11 hy11 h=>?_);refine Qz3 h hx (fun o13 lgq12 gq12 ho hk hxa hjgq12=>?_);refine Exists.intro (Qs _ _ gxs (JP1 _ _ o13.2 .normal (Qqq p0 p1 v12 x3 v28 x7 gxs gq12))) (And.intro (Qhe (τ := Qhv p0 p1 v12 x3 v28 x7 gxs gp) ?_ (Q61 (g:=125) (cap:=[.ep [.sl false (x7.1.map Qaa)],.ep [iV x7.2]]) rfl ((iQfx x7.1 x7.2 y11 hy11) _ rfl) (Q04 fun _=>rfl) rfl (Nat.le_of_ble_eq_true rfl) (Nat.le_of_ble_eq_true rfl) ((Qahy p0 p1 v12 x3 v28 x7 y11.1 o13 ho) _ _ _ _ hxa hjgq12))) (Qamz (Qay ?_) ?_))
   ·exact Le.tz 2 1 rfl rfl rfl
   ·have h:=hk;have hx:=hjgq12;refine TL.le (τ := Qll p0 p1 v12 x3 (wr (v28+1)) gxs gq12) ?_ ((iQcg p0 p1 v12 x3 (wr (v28+1)) _ h) _ _ _ _ hx hq);exact Le.tz 2 1 rfl rfl rfl
   ·exact fun s1 h1 h2 hs =>.inr ⟨rfl,s1,.refl _ _ _,h1,h2,hs⟩
  ·exact .inl (JP1.a (sndI h) (Le.tz 2 1 rfl rfl (Qamy h hx hq rfl)))
theorem Qwk:∀ (p0:(List Qab)) (p1:Int) (o:(List (Qab×Int))×Unit),Qfx p0 p1=some o→∀ gxs:List (List V),gxs=o.1.map Qcl→IterOK Tryz.prog 125 [.ep [.sl false (p0.map Qaa)],.ep [iV p1]] gxs:=fun p0 p1=>Q4c.1 p0 p1
def Qo8 (p0:(List Qab)):Option (Int) :=
 Qku p0 1>>=fun x1 =>
 Qfx x1.1 x1.2>>=fun y5 =>
 (Qe9 x1 y5.1 0)>>=fun o6 =>
 some o6
theorem Q8n:∀ (p0:(List Qab)) (o:Int),Qo8 p0=some o→PCall Tryz.prog 71 [.sl false (p0.map Qaa)] (Qsn o):=by
 intro p0 o h;unfold Qo8 at h;refine PCall.ofB mixed tbOk Qp0 Tryz.func71 rfl (by kernel_rfl) (Nat.le_of_ble_eq_true rfl) ?_;refine Qal [.sl false (p0.map Qaa),iV 1] Qo4 h (fun x1 hy=>(Qvj p0 1 x1 hy)) (fun x1 hy h=>?_);refine Qai h (fun y5 hy5 h=>?_);refine Qai h (fun o6 ho hk=>?_);refine Exists.intro (JP1 _ _ o6 .normal (Qqp x1)) (And.intro (Qhe (τ := Qhu x1 0) ?_ (Q61 (g:=125) (cap:=[.ep [.sl false (x1.1.map Qaa)],.ep [iV x1.2]]) rfl ((Qwk x1.1 x1.2 y5 hy5) _ rfl) (Q04 fun _=>rfl) rfl (Nat.le_of_ble_eq_true rfl) (Nat.le_of_ble_eq_true rfl) (Qahx x1 y5.1 0 o6 ho))) (Qay ?_))
 ·exact Le.tz 1 0 rfl rfl rfl
 have h:=hk;refine Qam (t:=Qsn) h ?_;exact .refl _
def Qgn (x1:(List Qab)×Int) (l4:(List (Qab×Int))) (h0_0:Int):Option (Int) :=
 match l4 with
 | [] =>
  some h0_0
 | x2::r3 =>
  Qgn x1 r3 (if x2.2>h0_0 then x2.2 else h0_0)
 partial_fixpoint
theorem Qaiq:∀ (x1:(List Qab)×Int),(∀ (l4:(List (Qab×Int))) (h0_0:Int) (o6:Int),Qgn x1 l4 h0_0=some o6→RL 1 0 Tryz.prog 14 (rgP Qoj) (rgA Qoj) (rgB Qoj) (Qi4 x1 h0_0).env (JP1 (0,0) 14 o6 .normal (Qsp x1)) (l4.map Qcl) (Qi4 x1 h0_0).s):=by
 intro x1;refine Qgn.partial_correctness x1 _ ?_;intro Qgn' iQgn l4 h0_0 o6 h;cases l4 with
 | nil =>
  refine Qaf6 ?_;exact JP1.a h (Le.tz 1 0 rfl rfl rfl)
 | cons x2 r3 =>
  refine Q67 (Qao mixed tbOk (lv:=Qso) _ _ _ ?_);refine And.intro rfl (Qao mixed tbOk (lv:=Qso) _ _ _ ?_);exact Exists.intro (Qi4 x1 (if x2.2>h0_0 then x2.2 else h0_0)).s (And.intro (Le.tz 1 0 rfl rfl rfl) (And.intro rfl (And.intro rfl ((iQgn r3 (if x2.2>h0_0 then x2.2 else h0_0) _ h)))))
def Qst (p0:(List Qab)):Option (Int) :=
 Qku p0 1>>=fun x1 =>
 Qfx x1.1 x1.2>>=fun y5 =>
 (Qgn x1 y5.1 0)>>=fun o6 =>
 some o6
theorem Qab4:∀ (p0:(List Qab)) (o:Int),Qst p0=some o→PCall Tryz.prog 70 [.sl false (p0.map Qaa)] (Qvf o):=by
 intro p0 o h;unfold Qst at h;refine PCall.ofB mixed tbOk Qso Tryz.func70 rfl (by kernel_rfl) (Nat.le_of_ble_eq_true rfl) ?_;refine Qal [.sl false (p0.map Qaa),iV 1] Qo4 h (fun x1 hy=>(Qvj p0 1 x1 hy)) (fun x1 hy h=>?_);refine Qai h (fun y5 hy5 h=>?_);refine Qai h (fun o6 ho hk=>?_);refine Exists.intro (JP1 _ _ o6 .normal (Qsp x1)) (And.intro (Qhe (τ := Qi4 x1 0) ?_ (Q61 (g:=125) (cap:=[.ep [.sl false (x1.1.map Qaa)],.ep [iV x1.2]]) rfl ((Qwk x1.1 x1.2 y5 hy5) _ rfl) (Q04 fun _=>rfl) rfl (Nat.le_of_ble_eq_true rfl) (Nat.le_of_ble_eq_true rfl) (Qaiq x1 y5.1 0 o6 ho))) (Qay ?_))
 ·exact Le.tz 1 0 rfl rfl rfl
 have h:=hk;refine Qam (t:=Qvf) h ?_;exact .refl _
def Qb8 (p0:(List UInt8)) (p1:(List UInt8)):Option (Bool) :=
 ( if(decide ((p0.length:Int) ≥ (p1.length:Int))) then
   cutL p0 (wr ((p0.length:Int)-(p1.length:Int))) (p0.length:Int)>>=fun x2 =>
   some (x2==p1)
  else
   some false:Option (Bool))>>=fun o1 =>
 some o1
theorem Qi7:∀ (p0:(List UInt8)) (p1:(List UInt8)) (o:Bool),Qb8 p0 p1=some o→PCall Tryz.prog 129 [sV p0,sV p1] (Qct o):=by
 intro p0 p1 o h;unfold Qb8 at h;refine PCall.ofB mixed tbOk Qi1 Tryz.func129 rfl (by kernel_rfl) (Nat.le_of_ble_eq_true rfl) ?_;refine Qai h (fun o1 ho hk=>?_);refine Exists.intro (JP1 _ _ o1 .normal (Qh3 )) (And.intro ?_ (Qay ?_))
 ·have h:=ho;refine vrfl ?_;refine vrfl ?_;refine Qad h (fun hb h=>?_) (fun hb h=>?_)
  ·refine vrfl ?_;refine vrfl ?_;refine Qiw (some (wr ((p0.length:Int)-(p1.length:Int)))) none h (fun x2 hi h=>?_);exact JP1.a h (Le.tz 0 0 rfl rfl rfl)
  ·exact JP1.a h (Le.tz 0 0 rfl rfl rfl)
 ·have h:=hk;refine Qam (t:=Qct) h ?_;exact .refl _
def Qcm (p0:(List UInt8)) (p1:(List UInt8)):Option (Bool) :=
 Qb8 p0 p1>>=fun x1 =>
 some x1
theorem Qer:∀ (p0:(List UInt8)) (p1:(List UInt8)) (o:Bool),Qcm p0 p1=some o→PCall Tryz.prog 98 [sV p0,sV p1] (Qc2 o):=by
 intro p0 p1 o h;unfold Qcm at h;refine PCall.ofB mixed tbOk Qt2 Tryz.func98 rfl (by kernel_rfl) (Nat.le_of_ble_eq_true rfl) ?_;refine Qal [sV p0,sV p1] Qct h (fun x1 hy=>(Qi7 p0 p1 x1 hy)) (fun x1 hy h=>?_);refine Qam (t:=Qc2) h ?_;exact .refl _
def Qcw (p0:(List UInt8)) (p1:(List UInt8)):Option (Int) :=
 need (p0.length<4294967281)>>=fun _ =>
 some (Lib.index p0 p1)
theorem Qlo:∀ (p0:(List UInt8)) (p1:(List UInt8)) (o:Int),Qcw p0 p1=some o→PCall Tryz.prog 167 [sV p0,sV p1] (Qf1 o):=by
 intro p0 p1 o h;unfold Qcw at h;obtain⟨h1,h⟩:=Qabc h;cases h;exact Qam1 _ _ h1
def Ql7 (p0:(List UInt8)) (p1:(List UInt8)):Option (Int) :=
 Qcw p0 p1>>=fun x1 =>
 some x1
theorem Qzd:∀ (p0:(List UInt8)) (p1:(List UInt8)) (o:Int),Ql7 p0 p1=some o→PCall Tryz.prog 153 [sV p0,sV p1] (Qm2 o):=by
 intro p0 p1 o h;unfold Ql7 at h;refine PCall.ofB mixed tbOk Qzc Tryz.func153 rfl (by kernel_rfl) (Nat.le_of_ble_eq_true rfl) ?_;refine Qal [sV p0,sV p1] Qf1 h (fun x1 hy=>(Qlo p0 p1 x1 hy)) (fun x1 hy h=>?_);refine Qam (t:=Qm2) h ?_;exact .refl _
def Qfr (p0:(List UInt8)) (p1:(List UInt8)):Option (Bool) :=
 Ql7 p0 p1>>=fun x1 =>
 some (decide (x1 ≥ 0))
theorem Qvk:∀ (p0:(List UInt8)) (p1:(List UInt8)) (o:Bool),Qfr p0 p1=some o→PCall Tryz.prog 127 [sV p0,sV p1] (Qi3 o):=by
 intro p0 p1 o h;unfold Qfr at h;refine PCall.ofB mixed tbOk Qve Tryz.func127 rfl (by kernel_rfl) (Nat.le_of_ble_eq_true rfl) ?_;refine Qal [sV p0,sV p1] Qm2 h (fun x1 hy=>(Qzd p0 p1 x1 hy)) (fun x1 hy h=>?_);refine Qam (t:=Qi3) h ?_;exact .refl _
def Qo9 (p0:Int):Option (Bool) :=
 ( if(decide (p0 ≥ 48)) then
   some (decide (p0≤57))
  else
   some false:Option (Bool))>>=fun o1 =>
 some o1
theorem Qyr:∀ (p0:Int) (o:Bool),Qo9 p0=some o→PCall Tryz.prog 124 [nV .u8 p0] (Qpz o):=by
 intro p0 o h;unfold Qo9 at h;refine PCall.ofB mixed tbOk Qabm Tryz.func124 rfl (by kernel_rfl) (Nat.le_of_ble_eq_true rfl) ?_;refine Qai h (fun o1 ho hk=>?_);refine Exists.intro (JP1 _ _ o1 .normal (Q3w )) (And.intro ?_ (Qay ?_))
 ·have h:=ho;refine Qad h (fun hb h=>?_) (fun hb h=>?_)
  ·exact JP1.a h (Le.tz 0 0 rfl rfl rfl)
  ·exact JP1.a h (Le.tz 0 0 rfl rfl rfl)
 ·have h:=hk;refine Qam (t:=Qpz) h ?_;exact .refl _
def Qpa (p0:Int):Option (Bool) :=
 ( if(decide (p0 ≥ 97)) then
   if(decide (p0≤122)) then
    some true
   else
    Qo9 p0>>=fun x2 =>
    if x2 then
     some true
    else
     some (p0==95)
  else
   Qo9 p0>>=fun x3 =>
   if x3 then
    some true
   else
    some (p0==95):Option (Bool))>>=fun o1 =>
 some o1
theorem Q8o:∀ (p0:Int) (o:Bool),Qpa p0=some o→PCall Tryz.prog 95 [nV .u8 p0] (Qsm o):=by
 intro p0 o h;unfold Qpa at h;refine PCall.ofB mixed tbOk Q8a Tryz.func95 rfl (by kernel_rfl) (Nat.le_of_ble_eq_true rfl) ?_;refine Qai h (fun o1 ho hk=>?_);refine Exists.intro (JP1 _ _ o1 .normal (Q1l )) (And.intro ?_ (Qay ?_))
 ·have h:=ho;refine Qad h (fun hb h=>?_) (fun hb h=>?_)
  ·refine Qad h (fun hb h=>?_) (fun hb h=>?_)
   ·refine bT ?_;exact JP1.a h (Le.tz 0 0 rfl rfl rfl)
   ·refine Qal [nV .u8 p0] Qpz h (fun x2 hy=>(Qyr p0 x2 hy)) (fun x2 hy h=>?_);refine Qad h (fun hb h=>?_) (fun hb h=>?_)
    ·exact JP1.a h (Le.tz 0 0 rfl rfl rfl)
    ·exact JP1.a h (Le.tz 0 0 rfl rfl rfl)
  ·refine bF ?_;refine Qal [nV .u8 p0] Qpz h (fun x3 hy=>(Qyr p0 x3 hy)) (fun x3 hy h=>?_);refine Qad h (fun hb h=>?_) (fun hb h=>?_)
   ·exact JP1.a h (Le.tz 0 0 rfl rfl rfl)
   ·exact JP1.a h (Le.tz 0 0 rfl rfl rfl)
 ·have h:=hk;refine Qam (t:=Qsm) h ?_;exact .refl _
def Qh7 (p0:(List UInt8)) (v6:Int):Option (Unit⊕Unit) :=
 if(decide (v6<(p0.length:Int))) then
  idx p0 v6>>=fun x4 =>
  Qpa (x4.toNat:Int)>>=fun x5 =>
  if(!x5) then
   some (.inr ())
  else
   Qh7 p0 (wr (v6+1))
 else
  some (.inl ())
 partial_fixpoint
theorem Qakp:∀ (p0:(List UInt8)),(∀ (v6:Int) (o1:Unit⊕Unit),Qh7 p0 v6=some o1→TL (0,0) Tryz.prog 27 Q78 (JP2 (0,0) 27 o1 (.exit 0) (Quz p0) .ret (Qu0 p0)) (Qoi p0 v6)):=by
 intro p0;refine Qh7.partial_correctness p0 _ ?_;intro Qh7' iQh7 v6 o1 h;refine TL.round (Qao mixed tbOk (lv:=Q1k) _ _ _ ?_);refine Qad h (fun hb h=>?_) (fun hb h=>?_)
 ·refine Qda h (fun x4 hi h=>?_);refine Qal [nV .u8 (x4.toNat:Int)] Qsm h (fun x5 hy=>(Q8o (x4.toNat:Int) x5 hy)) (fun x5 hy h=>?_);refine Qad h (fun hb h=>?_) (fun hb h=>?_)
  ·exact JP2.b h (Le.tz 0 0 rfl rfl rfl)
  ·refine TL.le (τ := Qoi p0 (wr (v6+1))) ?_ ((iQh7 (wr (v6+1)) _ h));exact Le.tz 0 0 rfl rfl rfl
 ·exact JP2.a h (Le.tz 0 0 rfl rfl rfl)
def Qp5 (p0:(List UInt8)):Option (Bool) :=
 (Qh7 p0 0)>>=fun o1 =>
 match o1 with
 | .inl y2 =>
  ( if(!(p0==[])) then
    if(decide ((p0.length:Int)≤32)) then
     idx p0 0>>=fun x7 =>
     some (decide ((x7.toNat:Int) ≥ 97))
    else
     some false
   else
    some false:Option (Bool))>>=fun o6 =>
  some o6
 | .inr y3 =>
  some false
theorem Qvl:∀ (p0:(List UInt8)) (o:Bool),Qp5 p0=some o→PCall Tryz.prog 69 [sV p0] (Qmd o):=by
 intro p0 o h;unfold Qp5 at h;refine PCall.ofB mixed tbOk Q1k Tryz.func69 rfl (by kernel_rfl) (Nat.le_of_ble_eq_true rfl) ?_;refine vrfl ?_;refine Qai h (fun o1 ho hk=>?_);refine Exists.intro (JP2 _ _ o1 (.exit 0) (Quz p0) .ret (Qu0 p0)) (And.intro (Qhe (τ := Qoi p0 0) ?_ (TL.loop (Qakp p0 0 o1 ho))) (Qf3 (fun y2 hy=>?_) (fun y3 hy=>?_)))
 ·exact Le.tz 0 0 rfl rfl rfl
 ·have h:=(by rw[hy] at hk; exact hk);refine Qai h (fun o6 ho hk=>?_);refine Exists.intro (JP1 _ _ o6 .normal (Q79 )) (And.intro ?_ (Qay ?_))
  ·have h:=ho;refine Qad h (fun hb h=>?_) (fun hb h=>?_)
   ·refine vrfl ?_;refine Qad h (fun hb h=>?_) (fun hb h=>?_)
    ·refine Qda h (fun x7 hi h=>?_);exact JP1.a h (Le.tz 0 0 rfl rfl rfl)
    ·exact JP1.a h (Le.tz 0 0 rfl rfl rfl)
   ·refine bF ?_;exact JP1.a h (Le.tz 0 0 rfl rfl rfl)
  ·have h:=hk;refine Qam (t:=Qmd) h ?_;exact .refl _
 ·have h:=(by rw[hy] at hk; exact hk);refine Qam (t:=Qmd) h ?_;exact .refl _
def Qi8 (p0:(List UInt8)):Option (Bool) :=
 ( if(p0==[105,102]) then
   some (p0==[105,102])
  else
   if(p0==[101,108,115,101]) then
    some (p0==[101,108,115,101])
   else
    if(p0==[101,110,100]) then
     some (p0==[101,110,100])
    else
     if(p0==[101,97,99,104]) then
      some (p0==[101,97,99,104])
     else
      if(p0==[105,110]) then
       some (p0==[105,110])
      else
       if(p0==[108,101,116]) then
        some (p0==[108,101,116])
       else
        if(p0==[117,115,101]) then
         some (p0==[117,115,101])
        else
         if(p0==[116,114,117,101]) then
          some (p0==[116,114,117,101])
         else
          if(p0==[102,97,108,115,101]) then
           some (p0==[102,97,108,115,101])
          else
           some (p0==[115,101,99,114,101,116]):Option (Bool))>>=fun o1 =>
 if o1 then
  some false
 else
  Qp5 p0>>=fun x2 =>
  some x2
theorem Qk2:∀ (p0:(List UInt8)) (o:Bool),Qi8 p0=some o→PCall Tryz.prog 37 [sV p0] (Qgb o):=by
 intro p0 o h;unfold Qi8 at h;refine PCall.ofB mixed tbOk Qabo Tryz.func37 rfl (by kernel_rfl) (Nat.le_of_ble_eq_true rfl) ?_;refine Qai h (fun o1 ho hk=>?_);refine Exists.intro (JP1 _ _ o1 .normal (Q3x p0)) (And.intro ?_ (Qay ?_))
 ·have h:=ho;refine Qad h (fun hb h=>?_) (fun hb h=>?_)
  ·exact JP1.a h (Le.tz 0 0 rfl rfl rfl)
  ·refine Qad h (fun hb h=>?_) (fun hb h=>?_)
   ·exact JP1.a h (Le.tz 0 0 rfl rfl rfl)
   ·refine Qad h (fun hb h=>?_) (fun hb h=>?_)
    ·exact JP1.a h (Le.tz 0 0 rfl rfl rfl)
    ·refine Qad h (fun hb h=>?_) (fun hb h=>?_)
     ·exact JP1.a h (Le.tz 0 0 rfl rfl rfl)
     ·refine Qad h (fun hb h=>?_) (fun hb h=>?_)
      ·exact JP1.a h (Le.tz 0 0 rfl rfl rfl)
      ·refine Qad h (fun hb h=>?_) (fun hb h=>?_)
       ·exact JP1.a h (Le.tz 0 0 rfl rfl rfl)
       ·refine Qad h (fun hb h=>?_) (fun hb h=>?_)
        ·exact JP1.a h (Le.tz 0 0 rfl rfl rfl)
        ·refine Qad h (fun hb h=>?_) (fun hb h=>?_)
         ·exact JP1.a h (Le.tz 0 0 rfl rfl rfl)
         ·refine Qad h (fun hb h=>?_) (fun hb h=>?_)
          ·exact JP1.a h (Le.tz 0 0 rfl rfl rfl)
          ·exact JP1.a h (Le.tz 0 0 rfl rfl rfl)
 ·have h:=hk;refine Qad h (fun hb h=>?_) (fun hb h=>?_)
  ·refine Qam (t:=Qgb) h ?_;exact .refl _
  ·refine Qal [sV p0] Qmd h (fun x2 hy=>(Qvl p0 x2 hy)) (fun x2 hy h=>?_);refine Qam (t:=Qgb) h ?_;exact .refl _
def Qdb (p0:(List UInt8)) (v4:(List Int)) (v18:Int):Option ((List Int)) :=
 if(decide (v18<(p0.length:Int))) then
  idx p0 v18>>=fun x5 =>
  if((x5.toNat:Int)==10) then
   appL 1 v4 (s2b [92,110])>>=fun x6 =>
   Qdb p0 x6 (wr (v18+1))
  else
   if((x5.toNat:Int)==9) then
    appL 1 v4 (s2b [92,116])>>=fun x7 =>
    Qdb p0 x7 (wr (v18+1))
   else
    ( if((x5.toNat:Int)==34) then
      some ((x5.toNat:Int)==34)
     else
      some ((x5.toNat:Int)==92):Option (Bool))>>=fun o8 =>
    if o8 then
     appL 1 v4 [92,(x5.toNat:Int)]>>=fun x9 =>
     Qdb p0 x9 (wr (v18+1))
    else
     appL 1 v4 [(x5.toNat:Int)]>>=fun x10 =>
     Qdb p0 x10 (wr (v18+1))
 else
  some v4
 partial_fixpoint
theorem Qair:∀ (p0:(List UInt8)),(∀ (v4:(List Int)) (v18:Int) (o4:(List Int)),Qdb p0 v4 v18=some o4→TL (0,0) Tryz.prog 49 Q3v (JP1 (0,0) 49 o4 (.exit 0) (Qsl p0)) (Qet p0 v4 v18)):=by
 intro p0;refine Qdb.partial_correctness p0 _ ?_;intro Qdb' iQdb v4 v18 o4 h;refine TL.round (Qao mixed tbOk (lv:=Qym) _ _ _ ?_);refine Qad h (fun hb h=>?_) (fun hb h=>?_)
 ·refine Qda h (fun x5 hi h=>?_);refine Qad h (fun hb h=>?_) (fun hb h=>?_)
  ·refine Qaf5 (a:=v4) (b:=[92,110]) h rfl (fun x6 hi h=>?_);refine TL.le (τ := Qet p0 x6 (wr (v18+1))) ?_ ((iQdb x6 (wr (v18+1)) _ h));exact Le.tz 0 1 rfl rfl rfl
  ·refine Qad h (fun hb h=>?_) (fun hb h=>?_)
   ·refine Qaf5 (a:=v4) (b:=[92,116]) h rfl (fun x7 hi h=>?_);refine TL.le (τ := Qet p0 x7 (wr (v18+1))) ?_ ((iQdb x7 (wr (v18+1)) _ h));exact Le.tz 0 1 rfl rfl rfl
   ·refine Qai h (fun o8 ho hk=>?_);refine Exists.intro (JP1 _ _ o8 .normal (Q3u p0 v4 v18 x5)) (And.intro ?_ (Qay ?_))
    ·have h:=ho;refine Qad h (fun hb h=>?_) (fun hb h=>?_)
     ·exact JP1.a h (Le.tz 0 1 rfl rfl rfl)
     ·exact JP1.a h (Le.tz 0 1 rfl rfl rfl)
    ·have h:=hk;refine Qad h (fun hb h=>?_) (fun hb h=>?_)
     ·refine Qix (a:=v4) (b:=[92,(x5.toNat:Int)]) (c:=(cNum .u8)) h (.refl _) (fun _=>rfl) rfl (fun x9 hi h=>?_);refine TL.le (τ := Qet p0 x9 (wr (v18+1))) ?_ ((iQdb x9 (wr (v18+1)) _ h));exact Le.tz 0 1 rfl rfl rfl
     ·refine Qix (a:=v4) (b:=[(x5.toNat:Int)]) (c:=(cNum .u8)) h (.refl _) (fun _=>rfl) rfl (fun x10 hi h=>?_);refine TL.le (τ := Qet p0 x10 (wr (v18+1))) ?_ ((iQdb x10 (wr (v18+1)) _ h));exact Le.tz 0 1 rfl rfl rfl
 ·exact JP1.a h (Le.tz 0 1 rfl rfl rfl)
def Qb9 (p0:(List UInt8)) (p1:Int):Option (Int) :=
 some (Lib.indexByte p0 p1.toNat.toUInt8)
theorem Qi9:∀ (p0:(List UInt8)) (p1:Int) (o:Int),Qb9 p0 p1=some o→PCall Tryz.prog 174 [sV p0,nV .u8 p1] (Qem o):=by
 intro p0 p1 o h;unfold Qb9 at h;cases h;exact Qabd _ _
def Qg7 (p0:(List UInt8)) (p1:Int):Option (Int) :=
 Qb9 p0 p1>>=fun x1 =>
 some x1
theorem Qt4:∀ (p0:(List UInt8)) (p1:Int) (o:Int),Qg7 p0 p1=some o→PCall Tryz.prog 169 [sV p0,nV .u8 p1] (Qh4 o):=by
 intro p0 p1 o h;unfold Qg7 at h;refine PCall.ofB mixed tbOk Qt3 Tryz.func169 rfl (by kernel_rfl) (Nat.le_of_ble_eq_true rfl) ?_;refine Qal [sV p0,nV .u8 p1] Qem h (fun x1 hy=>(Qi9 p0 p1 x1 hy)) (fun x1 hy h=>?_);refine Qam (t:=Qh4) h ?_;exact .refl _
def Qk3 (x1:(List UInt8)) (l4:(List (Int×Int))):Option (Unit⊕Unit) :=
 match l4 with
 | [] =>
  some (.inl ())
 | x2::r3 =>
  ( if(x2.1==65533) then
    some (x2.2==1)
   else
    some false:Option (Bool))>>=fun o9 =>
  if o9 then
   some (.inr ())
  else
   Qk3 x1 r3
 partial_fixpoint
theorem Qam7:∀ (x1:(List UInt8)),(∀ (l4:(List (Int×Int))) (o6:Unit⊕Unit),Qk3 x1 l4=some o6→RL 1 0 Tryz.prog 15 (rgP Qvg) (rgA Qvg) (rgB Qvg) (Qns x1).env (JP2 (0,0) 15 o6 .normal (Qyn x1) .ret (Qyo x1)) (l4.map Qkd) (Qns x1).s):=by
 intro x1;refine Qk3.partial_correctness x1 _ ?_;intro Qk3' iQk3 l4 o6 h;cases l4 with
 | nil =>
  refine Qaf6 ?_;exact JP2.a h (Le.tz 1 0 rfl rfl rfl)
 | cons x2 r3 =>
  refine Q67 (Qao mixed tbOk (lv:=Q1s) _ _ _ ?_);refine And.intro rfl (Qao mixed tbOk (lv:=Q1s) _ _ _ ?_);refine Qai h (fun o9 ho hk=>?_);refine Exists.intro (JP1 _ _ o9 .normal (Qaem x1 x2)) (And.intro ?_ (Qay ?_))
  ·have h:=ho;refine Qad h (fun hb h=>?_) (fun hb h=>?_)
   ·exact JP1.a h (Le.tz 1 0 rfl rfl rfl)
   ·exact JP1.a h (Le.tz 1 0 rfl rfl rfl)
  ·have h:=hk;refine Qad h (fun hb h=>?_) (fun hb h=>?_)
   ·exact Exists.intro (⟨[[.p (bV false)]],[]⟩:S) (And.intro (Le.tow 1 0 rfl .nil (.refl _) rfl) (And.intro rfl (And.intro rfl (JP2.b h (Le.tz 1 0 rfl rfl rfl)))))
   ·exact Exists.intro (Qns x1 ).s (And.intro (Le.tz 1 0 rfl rfl rfl) (And.intro rfl (And.intro rfl ((iQk3 r3 _ h)))))
def Q8p (p0:(List UInt8)):Option ((List UInt8)) :=
 some p0
theorem Qahz:∀ (p0:(List UInt8)) (o:(List UInt8)),Q8p p0=some o→PCall Tryz.prog 178 [sV p0] (Q1t o):=by
 intro p0 o h;unfold Q8p at h;refine PCall.ofM mixed tbOk Qahu Tryz.func178 rfl (by kernel_rfl) (Nat.le_of_ble_eq_true rfl) ?_;refine Qam (t:=Q1t) h ?_;exact .refl _
def Q5w (p0:Int):Option (Bool) :=
 ( if(decide (p0 ≥ 0)) then
   if(decide (p0≤1114111)) then
    if(decide (p0<55296)) then
     some true
    else
     some (decide (p0>57343))
   else
    some false
  else
   some false:Option (Bool))>>=fun o1 =>
 some o1
theorem Qakq:∀ (p0:Int) (o:Bool),Q5w p0=some o→PCall Tryz.prog 188 [nV .i32 p0] (Q8i o):=by
 intro p0 o h;unfold Q5w at h;refine PCall.ofB mixed tbOk Qakf Tryz.func188 rfl (by kernel_rfl) (Nat.le_of_ble_eq_true rfl) ?_;refine Qai h (fun o1 ho hk=>?_);refine Exists.intro (JP1 _ _ o1 .normal (Qaeo )) (And.intro ?_ (Qay ?_))
 ·have h:=ho;refine Qad h (fun hb h=>?_) (fun hb h=>?_)
  ·refine Qad h (fun hb h=>?_) (fun hb h=>?_)
   ·refine Qad h (fun hb h=>?_) (fun hb h=>?_)
    ·exact JP1.a h (Le.tz 0 0 rfl rfl rfl)
    ·exact JP1.a h (Le.tz 0 0 rfl rfl rfl)
   ·exact JP1.a h (Le.tz 0 0 rfl rfl rfl)
  ·refine bF ?_;exact JP1.a h (Le.tz 0 0 rfl rfl rfl)
 ·have h:=hk;refine Qam (t:=Q8i) h ?_;exact .refl _
def Qh8 (p0:(List UInt8)) (p2:Int) (v1:Int) (v14:Int):Option (Int⊕Unit) :=
 if(decide (v14<p2)) then
  idx p0 v14>>=fun x4 =>
  if((bits .and .u8 (x4.toNat:Int) 192) != 128) then
   some (.inr ())
  else
   idx p0 v14>>=fun x5 =>
   Qh8 p0 p2 (bits .or .i32 (IntKind.i32.wrap (v1*2 ^ (min (6:Int).toNat (IntKind.i32.bits)))) (IntKind.i32.wrap (bits .and .u8 (x5.toNat:Int) 63))) (wr (v14+1))
 else
  some (.inl v1)
 partial_fixpoint
theorem Qakr:∀ (p0:(List UInt8)) (p2:Int),(∀ (v1:Int) (v14:Int) (o1:Int⊕Unit),Qh8 p0 p2 v1 v14=some o1→TL (0,0) Tryz.prog 32 Q8j (JP2 (0,0) 32 o1 (.exit 0) (Qu1 p0 p2) .ret (Qu2 p0 p2)) (Qok p0 p2 v1 v14)):=by
 intro p0 p2;refine Qh8.partial_correctness p0 p2 _ ?_;intro Qh8' iQh8 v1 v14 o1 h;refine TL.round (Qao mixed tbOk (lv:=Q1u) _ _ _ ?_);refine Qad h (fun hb h=>?_) (fun hb h=>?_)
 ·refine Qda h (fun x4 hi h=>?_);refine Qad h (fun hb h=>?_) (fun hb h=>?_)
  ·exact JP2.b h (Le.tz 0 0 rfl rfl rfl)
  ·refine And.intro (by decide) ?_;refine Qda h (fun x5 hi h=>?_);refine vrfl ?_;refine TL.le (τ := Qok p0 p2 (bits .or .i32 (IntKind.i32.wrap (v1*2 ^ (min (6:Int).toNat (IntKind.i32.bits)))) (IntKind.i32.wrap (bits .and .u8 (x5.toNat:Int) 63))) (wr (v14+1))) ?_ ((iQh8 (bits .or .i32 (IntKind.i32.wrap (v1*2 ^ (min (6:Int).toNat (IntKind.i32.bits)))) (IntKind.i32.wrap (bits .and .u8 (x5.toNat:Int) 63))) (wr (v14+1)) _ h));exact Le.tz 0 0 rfl rfl rfl
 ·exact JP2.a h (Le.tz 0 0 rfl rfl rfl)
def Qto (p0:(List UInt8)) (p1:Int) (p2:Int):Option (Int×Bool) :=
 if(decide ((p0.length:Int)<p2)) then
  some (0,false)
 else
  (Qh8 p0 p2 p1 0)>>=fun o1 =>
  match o1 with
  | .inl y2 =>
   some (y2,true)
  | .inr y3 =>
   some (0,false)
theorem Qaep:∀ (p0:(List UInt8)) (p1:Int) (p2:Int) (o:Int×Bool),Qto p0 p1 p2=some o→PCall Tryz.prog 187 [sV p0,nV .i32 p1,iV p2] (Qo5 o):=by
 intro p0 p1 p2 o h;unfold Qto at h;refine PCall.ofB mixed tbOk Q1u Tryz.func187 rfl (by kernel_rfl) (Nat.le_of_ble_eq_true rfl) ?_;refine vrfl ?_;refine Qad h (fun hb h=>?_) (fun hb h=>?_)
 ·refine Qam (t:=Qo5) h ?_;exact .refl _
 ·refine Qai h (fun o1 ho hk=>?_);refine Exists.intro (JP2 _ _ o1 (.exit 0) (Qu1 p0 p2) .ret (Qu2 p0 p2)) (And.intro (Qhe (τ := Qok p0 p2 p1 0) ?_ (TL.loop (Qakr p0 p2 p1 0 o1 ho))) (Qf3 (fun y2 hy=>?_) (fun y3 hy=>?_)))
  ·exact Le.tz 0 0 rfl rfl rfl
  ·have h:=(by rw[hy] at hk; exact hk);refine Qam (t:=Qo5) h ?_;exact .refl _
  ·have h:=(by rw[hy] at hk; exact hk);refine Qam (t:=Qo5) h ?_;exact .refl _
def Qwl (p0:(List UInt8)) (p1:Int):Option (Int×Int) :=
 ( if(decide (p1<0)) then
   some true
  else
   some (decide (p1 ≥ (p0.length:Int))):Option (Bool))>>=fun o1 =>
 if o1 then
  some (0,0)
 else
  idx p0 p1>>=fun x2 =>
  ( if(decide ((x2.toNat:Int)<128)) then
    some (.inr (IntKind.i32.wrap (x2.toNat:Int)))
   else
    ( if(decide ((x2.toNat:Int) ≥ 192)) then
      some (decide ((x2.toNat:Int)<224))
     else
      some false:Option (Bool))>>=fun o6 =>
    if o6 then
     some (.inl ((IntKind.i32.wrap (bits .and .u8 (x2.toNat:Int) 31)),128,1))
    else
     ( if(decide ((x2.toNat:Int) ≥ 224)) then
       some (decide ((x2.toNat:Int)<240))
      else
       some false:Option (Bool))>>=fun o7 =>
     if o7 then
      some (.inl ((IntKind.i32.wrap (bits .and .u8 (x2.toNat:Int) 15)),2048,2))
     else
      ( if(decide ((x2.toNat:Int) ≥ 240)) then
        some (decide ((x2.toNat:Int)<248))
       else
        some false:Option (Bool))>>=fun o8 =>
      if o8 then
       some (.inl ((IntKind.i32.wrap (bits .and .u8 (x2.toNat:Int) 7)),65536,3))
      else
       some (.inr 65533):Option ((Int×Int×Int)⊕Int))>>=fun o3 =>
  match o3 with
  | .inl y4 =>
   cutL p0 (wr (p1+1)) (p0.length:Int)>>=fun x9 =>
   Qto x9 y4.1 y4.2.2>>=fun x10 =>
   ( if(!x10.2) then
     some true
    else
     if(decide (x10.1<y4.2.1)) then
      some true
     else
      Q5w x10.1>>=fun x12 =>
      some (!x12):Option (Bool))>>=fun o11 =>
   if o11 then
    some (65533,1)
   else
    some (x10.1,(wr (y4.2.2+1)))
  | .inr y5 =>
   some (y5,1)
theorem Qaeq:∀ (p0:(List UInt8)) (p1:Int) (o:Int×Int),Qwl p0 p1=some o→PCall Tryz.prog 186 [sV p0,iV p1] (Qme o):=by
 intro p0 p1 o h;unfold Qwl at h;refine PCall.ofB mixed tbOk Qaen Tryz.func186 rfl (by kernel_rfl) (Nat.le_of_ble_eq_true rfl) ?_;refine Qai h (fun o1 ho hk=>?_);refine Exists.intro (JP1 _ _ o1 .normal (Q8b p0 p1)) (And.intro ?_ (Qay ?_))
 ·have h:=ho;refine Qad h (fun hb h=>?_) (fun hb h=>?_)
  ·exact JP1.a h (Le.tz 0 0 rfl rfl rfl)
  ·refine vrfl ?_;exact JP1.a h (Le.tz 0 0 rfl rfl rfl)
 ·have h:=hk;refine Qad h (fun hb h=>?_) (fun hb h=>?_)
  ·refine Qam (t:=Qme) h ?_;exact .refl _
  ·refine Qda h (fun x2 hi h=>?_);refine Qai h (fun o3 ho hk=>?_);refine Exists.intro (JP2 _ _ o3 .normal (Q8c p0 p1) .ret (Q8d p0 p1)) (And.intro ?_ (Qf3 (fun y4 hy=>?_) (fun y5 hy=>?_)))
   ·have h:=ho;refine Qad h (fun hb h=>?_) (fun hb h=>?_)
    ·refine vrfl ?_;refine JP2.b h ?_;exact Le.tz 0 0 rfl rfl rfl
    ·refine Qai h (fun o6 ho hk=>?_);refine Exists.intro (JP1 _ _ o6 .normal (Q8e p0 p1 x2)) (And.intro ?_ (Qay ?_))
     ·have h:=ho;refine Qad h (fun hb h=>?_) (fun hb h=>?_)
      ·exact JP1.a h (Le.tz 0 0 rfl rfl rfl)
      ·exact JP1.a h (Le.tz 0 0 rfl rfl rfl)
     ·have h:=hk;refine Qad h (fun hb h=>?_) (fun hb h=>?_)
      ·refine vrfl ?_;refine JP2.a h ?_;exact Le.tz 0 0 rfl rfl rfl
      ·refine Qai h (fun o7 ho hk=>?_);refine Exists.intro (JP1 _ _ o7 .normal (Q8f p0 p1 x2)) (And.intro ?_ (Qay ?_))
       ·have h:=ho;refine Qad h (fun hb h=>?_) (fun hb h=>?_)
        ·exact JP1.a h (Le.tz 0 0 rfl rfl rfl)
        ·exact JP1.a h (Le.tz 0 0 rfl rfl rfl)
       ·have h:=hk;refine Qad h (fun hb h=>?_) (fun hb h=>?_)
        ·refine vrfl ?_;refine JP2.a h ?_;exact Le.tz 0 0 rfl rfl rfl
        ·refine Qai h (fun o8 ho hk=>?_);refine Exists.intro (JP1 _ _ o8 .normal (Q8g p0 p1 x2)) (And.intro ?_ (Qay ?_))
         ·have h:=ho;refine Qad h (fun hb h=>?_) (fun hb h=>?_)
          ·exact JP1.a h (Le.tz 0 0 rfl rfl rfl)
          ·exact JP1.a h (Le.tz 0 0 rfl rfl rfl)
         ·have h:=hk;refine Qad h (fun hb h=>?_) (fun hb h=>?_)
          ·refine vrfl ?_;refine JP2.a h ?_;exact Le.tz 0 0 rfl rfl rfl
          ·refine JP2.b h ?_;exact Le.tz 0 0 rfl rfl rfl
   ·have h:=(by rw[hy] at hk; exact hk);refine Qiw (some (wr (p1+1))) none h (fun x9 hi h=>?_);refine Qal [sV x9,nV .i32 y4.1,iV y4.2.2] Qo5 h (fun x10 hy=>(Qaep x9 y4.1 y4.2.2 x10 hy)) (fun x10 hy h=>?_);refine Qai h (fun o11 ho hk=>?_);refine Exists.intro (JP1 _ _ o11 .normal (Q8h y4 x10)) (And.intro ?_ (Qay ?_))
    ·have h:=ho;refine Qad h (fun hb h=>?_) (fun hb h=>?_)
     ·refine bT ?_;exact JP1.a h (Le.tz 0 0 rfl rfl rfl)
     ·refine Qad h (fun hb h=>?_) (fun hb h=>?_)
      ·exact JP1.a h (Le.tz 0 0 rfl rfl rfl)
      ·refine Qal [nV .i32 x10.1] Q8i h (fun x12 hy=>(Qakq x10.1 x12 hy)) (fun x12 hy h=>?_);exact JP1.a h (Le.tz 0 0 rfl rfl rfl)
    ·have h:=hk;refine Qad h (fun hb h=>?_) (fun hb h=>?_)
     ·refine Qam (t:=Qme) h ?_;exact .refl _
     ·refine Qam (t:=Qme) h ?_;exact .refl _
   ·have h:=(by rw[hy] at hk; exact hk);refine Qam (t:=Qme) h ?_;exact .refl _
def Qey (p0:(List UInt8)) (v3:Int):Option ((List (Int×Int))×(Unit)) :=
 if(decide (v3<(p0.length:Int))) then
  Qwl p0 v3>>=fun x3 =>
  ( Qey p0 (wr (v3+x3.2)))>>=fun q=>some ((x3.1,x3.2)::q.1,q.2)
 else
  some ([],())
 partial_fixpoint
theorem Qais:∀ (p0:(List UInt8)),(∀ (v3:Int) (o2:(List (Int×Int))×(Unit)),Qey p0 v3=some o2→∀ (gxs gp gpost gq1:List (List V)),gxs=gp++(o2.1.map Qkd++gpost)→gxs=gq1++gpost→TL (0,1) Tryz.prog 24 Q4b (Qs (0,1) 24 gxs (JP1 (0,1) 24 o2.2 (.exit 0) (Qsq p0 gxs gq1))) (Qm5 p0 v3 gxs gp)):=by
 intro p0;refine Qey.partial_correctness p0 _ ?_;intro Qey' iQey v3 o2 h;intro gxs gp gpost gq1 hx hq;refine TL.round (Qao mixed tbOk (lv:=Qyp) _ _ _ ?_);refine vrfl ?_;refine Qad h (fun hb h=>?_) (fun hb h=>?_)
 ·refine Qal [sV p0,iV v3] Qme h (fun x3 hy=>(Qaeq p0 v3 x3 hy)) (fun x3 hy h=>?_);refine Qaj4 (c:=Qkd) h hx (.refl _) (by exact rfl) (by exact rfl) (fun _ h hx=>?_) ?_
  ·refine bF ?_;refine TL.le (τ := Qm5 p0 (wr (v3+x3.2)) gxs (gp++[Qkd (x3.1,x3.2)])) ?_ ((iQey (wr (v3+x3.2)) _ h) _ _ _ _ hx hq);exact Le.tz 0 1 rfl rfl rfl
  ·refine bT ?_;exact .inr ⟨rfl,_,(Le.env0 _).trans (Le.tow 0 1 rfl .nil (.refl _) rfl),rfl,rfl,rfl⟩
 ·exact .inl (JP1.a (sndI h) (Le.tz 0 1 rfl rfl (Qamy h hx hq rfl)))
def Qwm (p0:(List UInt8)):Option ((List (Int×Int))×Unit) :=
 ( Qey p0 0)>>=fun o2=>(
  some ([],()))>>=fun q=>some (o2.1++q.1,q.2)
theorem Qab5:∀ (p0:(List UInt8)) (o:(List (Int×Int))×Unit),Qwm p0=some o→∀ gxs:List (List V),gxs=o.1.map Qkd→IterOK Tryz.prog 185 [.ep [sV p0]] gxs:=by
 intro p0 o h;unfold Qwm at h;intro gxs hg;have hx:gxs=[]++(o.1.map Qkd++[]):=by simp[hg]
 refine IterOK.ofB mixed tbOk Qyp Tryz.func185 rfl (by kernel_rfl) (Nat.le_of_ble_eq_true rfl) rfl ?_;refine Qz3 h hx (fun o2 lgq1 gq1 ho hk hxa hjgq1=>?_);refine Exists.intro (Qs _ _ gxs (JP1 _ _ o2.2 (.exit 0) (Qsq p0 gxs gq1))) (And.intro (Qhe (τ := Qm5 p0 0 gxs ([]:List (List V))) ?_ (TL.loop ((Qais p0 0 o2 ho) _ _ _ _ hxa hjgq1))) (Qamz (Qay ?_) ?_))
 ·exact Le.tz 0 1 rfl rfl rfl
 ·have h:=hk;have hx:=hjgq1;exact Qaj3 h hx (.inl rfl) rfl
 ·exact fun s1 h1 h2 hs=>Qaf7 (.inr rfl) hs
def Qab6 (p0:(List UInt8)):Option (Bool) :=
 Q8p p0>>=fun x1 =>
 Qwm x1>>=fun y5 =>
 (Qk3 x1 y5.1)>>=fun o6 =>
 match o6 with
 | .inl y7 =>
  some true
 | .inr y8 =>
  some false
theorem Qaks:∀ (p0:(List UInt8)) (o:Bool),Qab6 p0=some o→PCall Tryz.prog 168 [sV p0] (Qz6 o):=by
 intro p0 o h;unfold Qab6 at h;refine PCall.ofB mixed tbOk Q1s Tryz.func168 rfl (by kernel_rfl) (Nat.le_of_ble_eq_true rfl) ?_;refine Qal [sV p0] Q1t h (fun x1 hy=>(Qahz p0 x1 hy)) (fun x1 hy h=>?_);refine Qai h (fun y5 hy5 h=>?_);refine Qai h (fun o6 ho hk=>?_);refine Exists.intro (JP2 _ _ o6 .normal (Qyn x1) .ret (Qyo x1)) (And.intro (Qhe (τ := Qns x1) ?_ (Q61 (g:=185) (cap:=[.ep [sV x1]]) rfl ((Qab5 x1 y5 hy5) _ rfl) (Q04 fun _=>rfl) rfl (Nat.le_of_ble_eq_true rfl) (Nat.le_of_ble_eq_true rfl) (Qam7 x1 y5.1 o6 ho))) (Qf3 (fun y7 hy=>?_) (fun y8 hy=>?_)))
 ·exact Le.tz 1 0 rfl rfl rfl
 ·have h:=(by rw[hy] at hk; exact hk);refine Qam (t:=Qz6) h ?_;exact .refl _
 ·have h:=(by rw[hy] at hk; exact hk);refine Qam (t:=Qz6) h ?_;exact .refl _
def Qk4 (p0:(List UInt8)):Option ((List UInt8)×Bool) :=
 ( Qab6 p0>>=fun x2 =>
  if(!x2) then
   some true
  else
   Qg7 p0 13>>=fun x3 =>
   some (decide (x3 ≥ 0)):Option (Bool))>>=fun o1 =>
 if o1 then
  some ([],false)
 else
  (Qdb p0 [34] 0)>>=fun o4 =>
  appL 1 o4 [34]>>=fun x11 =>
  b2s x11>>=fun x12 =>
  some (x12,true)
theorem Qab7:∀ (p0:(List UInt8)) (o:(List UInt8)×Bool),Qk4 p0=some o→PCall Tryz.prog 154 [sV p0] (Qpy o):=by
 intro p0 o h;unfold Qk4 at h;refine PCall.ofB mixed tbOk Qym Tryz.func154 rfl (by kernel_rfl) (Nat.le_of_ble_eq_true rfl) ?_;refine Qai h (fun o1 ho hk=>?_);refine Exists.intro (JP1 _ _ o1 .normal (Q3t p0)) (And.intro ?_ (Qay ?_))
 ·have h:=ho;refine Qal [sV p0] Qz6 h (fun x2 hy=>(Qaks p0 x2 hy)) (fun x2 hy h=>?_);refine Qad h (fun hb h=>?_) (fun hb h=>?_)
  ·exact JP1.a h (Le.tz 0 0 rfl rfl rfl)
  ·refine Qal [sV p0,nV .u8 13] Qh4 h (fun x3 hy=>(Qt4 p0 13 x3 hy)) (fun x3 hy h=>?_);exact JP1.a h (Le.tz 0 0 rfl rfl rfl)
 ·have h:=hk;refine Qad h (fun hb h=>?_) (fun hb h=>?_)
  ·refine Qam (t:=Qpy) h ?_;exact .refl _
  ·refine vrfl ?_;refine Qai h (fun o4 ho hk=>?_);refine Exists.intro (JP1 _ _ o4 (.exit 0) (Qsl p0)) (And.intro (Qhe (τ := Qet p0 [34] 0) ?_ (TL.loop (Qair p0 [34] 0 o4 ho))) (Qay ?_))
   ·exact Le.trans (τ := ⟨[(0,.p (sV p0)),(4,.p (.sl true ([34].map (cNum .u8)))),(17,.p (iV (p0.length:Int))),(18,.p (iV 0))],⟨[],[]⟩⟩) (Le.tz 0 0 rfl rfl rfl) ((Le.ownW 4 5 1 rfl (Q04 fun _=>rfl)).trans (Le.tz 0 1 rfl rfl rfl))
   have h:=hk;refine Qix (a:=o4) (b:=[34]) (c:=(cNum .u8)) h (.refl _) (fun _=>rfl) rfl (fun x11 hi h=>?_);refine Qaba (l:=x11) h (fun x12 hi h=>?_);refine Qam (t:=Qpy) h ?_;exact .refl _
def Qip (p0:Qab):Option (Qdg) :=
 some (Qdg.mk (!(p0.Name==[])) (!(p0.Text==[])) (p0.N != 0) (decide ((p0.Then.length:Int)>0)) (decide ((p0.Else.length:Int)>0)) (p0.L.length:Int))
theorem Qsu:∀ (p0:Qab) (o:Qdg),Qip p0=some o→PCall Tryz.prog 126 [.agg [iV p0.Kind,sV p0.Name,sV p0.Text,iV p0.N,.sl false (p0.L.map Qaa),.sl false (p0.Then.map Qaa),.sl false (p0.Else.map Qaa)]] (Qkt o):=by
 intro p0 o h;unfold Qip at h;refine PCall.ofB mixed tbOk Q1r Tryz.func126 rfl (by kernel_rfl) (Nat.le_of_ble_eq_true rfl) ?_;refine view (Qat _ _) rfl ?_;refine view (Qat _ _) rfl ?_;refine view (Qat _ _) rfl ?_;refine Qam (t:=Qkt) h ?_;exact .refl _
mutual
def Qa6 (p0:(List Qab)):Option (Bool) :=
 Qbl p0>>=fun x1 =>
 some (decide (x1 ≥ 0))
 partial_fixpoint
def Qbl (p0:(List Qab)):Option (Int) :=
 (Qau p0 0)>>=fun o1 =>
 match o1 with
 | .inl y2 =>
  some (-1)
 | .inr y3 =>
  some y3
 partial_fixpoint
def Qau (p0:(List Qab)) (v8:Int):Option (Unit⊕Int) :=
 if(decide (v8<(p0.length:Int))) then
  idx p0 v8>>=fun x4 =>
  Qvm x4>>=fun x5 =>
  if x5 then
   some (.inr v8)
  else
   Qau p0 (wr (v8+1))
 else
  some (.inl ())
 partial_fixpoint
def Qvm (p0:Qab):Option (Bool) :=
 Qfs p0>>=fun x1 =>
 some (!x1)
 partial_fixpoint
def Qfs (p0:Qab):Option (Bool) :=
 Qip p0>>=fun x1 =>
 if(p0.Kind==1) then
  Qk4 p0.Text>>=fun x2 =>
  ( if x2.2 then
    some ((x1.name_==false)&&((x1.text_==x1.text_)&&((x1.num_==false)&&((x1.then_==false)&&((x1.other_==false)&&((x1.l_==0)&&true))))))
   else
    some false:Option (Bool))>>=fun o3 =>
  some o3
 else
  if(p0.Kind==2) then
   some ((x1.name_==false)&&((x1.text_==false)&&((x1.num_==x1.num_)&&((x1.then_==false)&&((x1.other_==false)&&((x1.l_==0)&&true))))))
  else
   if(p0.Kind==3) then
    ( if((bits .andNot .i64 p0.N 1)==0) then
      some ((x1.name_==false)&&((x1.text_==false)&&((x1.num_==x1.num_)&&((x1.then_==false)&&((x1.other_==false)&&((x1.l_==0)&&true))))))
     else
      some false:Option (Bool))>>=fun o4 =>
    some o4
   else
    if(p0.Kind==4) then
     ( Qi8 p0.Name>>=fun x6 =>
      if x6 then
       some ((x1.name_==true)&&((x1.text_==false)&&((x1.num_==false)&&((x1.then_==false)&&((x1.other_==false)&&((x1.l_==0)&&true))))))
      else
       some false:Option (Bool))>>=fun o5 =>
     some o5
    else
     if(p0.Kind==7) then
      ( Qp5 p0.Name>>=fun x8 =>
       if x8 then
        some ((x1.name_==true)&&((x1.text_==false)&&((x1.num_==false)&&((x1.then_==false)&&((x1.other_==false)&&((x1.l_==0)&&true))))))
       else
        some false:Option (Bool))>>=fun o7 =>
      some o7
     else
      if(p0.Kind==5) then
       ( Qp5 p0.Name>>=fun x10 =>
        if x10 then
         if((x1.name_==true)&&((x1.text_==false)&&((x1.num_==false)&&((x1.then_==false)&&((x1.other_==false)&&((x1.l_==1)&&true)))))) then
          idx p0.L 0>>=fun x11 =>
          Qfs x11>>=fun x12 =>
          some x12
         else
          some false
        else
         some false:Option (Bool))>>=fun o9 =>
       some o9
      else
       if(p0.Kind==6) then
        ( Qi8 p0.Name>>=fun x14 =>
         if x14 then
          if((x1.name_==true)&&((x1.text_==false)&&((x1.num_==false)&&((x1.then_==false)&&((x1.other_==false)&&((x1.l_==(if 3<x1.l_ then 3 else x1.l_))&&true)))))) then
           Qa6 p0.L>>=fun x15 =>
           some (!x15)
          else
           some false
         else
          some false:Option (Bool))>>=fun o13 =>
        some o13
       else
        some false
 partial_fixpoint
end
theorem Qdj:(∀ (p0:(List Qab)) (o:Bool),Qa6 p0=some o→CallOK Tryz.prog 56 [.p (.sl false (p0.map Qaa)),.fn (.func 155) [] []] ⟨[],[]⟩ (Qbw o) ⟨[],[]⟩)∧(∀ (p0:(List Qab)) (o:Int),Qbl p0=some o→CallOK Tryz.prog 83 [.p (.sl false (p0.map Qaa)),.fn (.func 155) [] []] ⟨[],[]⟩ (Qbh o) ⟨[],[]⟩)∧(∀ (p0:(List Qab)) (v8:Int) (o1:Unit⊕Int),Qau p0 v8=some o1→TL (0,0) Tryz.prog 19 Qdv (JP2 (0,0) 19 o1 (.exit 0) (Qbu p0) .ret (Qbv p0)) (Qba p0 v8))∧(∀ (p0:Qab) (o:Bool),Qvm p0=some o→PCall Tryz.prog 155 [.agg [iV p0.Kind,sV p0.Name,sV p0.Text,iV p0.N,.sl false (p0.L.map Qaa),.sl false (p0.Then.map Qaa),.sl false (p0.Else.map Qaa)]] (Qp1 o))∧(∀ (p0:Qab) (o:Bool),Qfs p0=some o→PCall Tryz.prog 128 [.agg [iV p0.Kind,sV p0.Name,sV p0.Text,iV p0.N,.sl false (p0.L.map Qaa),.sl false (p0.Then.map Qaa),.sl false (p0.Else.map Qaa)]] (Qc3 o)):=by
 refine Qa6.mutual_partial_correctness _ _ _ _ _ ?_ ?_ ?_ ?_ ?_
 ·intro Qbl' iQbl p0 o h;refine CallOK.ofB mixed tbOk Qdq Tryz.func56 rfl (by kernel_rfl) (Nat.le_of_ble_eq_true rfl) rfl rfl rfl ?_;refine Qap _ _ h (fun x1 hy=>((iQbl p0 x1 hy).fr [] [] rfl rfl rfl)) (fun x1 hy h=>?_);refine Exists.intro _ (And.intro (Le.refl _ _ _) ?_);exact Qb3 (t:=Qbw) (ss:=fun o=>⟨[],[]⟩) h ⟨[],rfl,.refl _,.refl _,rfl⟩
 ·intro Qau' iQau p0 o h;refine CallOK.ofB mixed tbOk Qb6 Tryz.func83 rfl (by kernel_rfl) (Nat.le_of_ble_eq_true rfl) rfl rfl rfl ?_;refine view (Qat _ _) rfl ?_;refine Qai h (fun o1 ho hk=>?_);refine Exists.intro (JP2 _ _ o1 (.exit 0) (Qbu p0) .ret (Qbv p0)) (And.intro (Qhe (τ := Qba p0 0) ?_ (TL.loop (iQau p0 0 o1 ho))) (Qf3 (fun y2 hy=>?_) (fun y3 hy=>?_)))
  ·exact Le.tz 0 0 rfl rfl rfl
  ·have h:=(by rw[hy] at hk; exact hk);refine Exists.intro _ (And.intro (Le.refl _ _ _) ?_);exact Qb3 (t:=Qbh) (ss:=fun o=>⟨[],[]⟩) h ⟨[],rfl,.refl _,.refl _,rfl⟩
  ·have h:=(by rw[hy] at hk; exact hk);refine Exists.intro _ (And.intro (Le.refl _ _ _) ?_);exact Qb3 (t:=Qbh) (ss:=fun o=>⟨[],[]⟩) h ⟨[],rfl,.refl _,.refl _,rfl⟩
 ·intro Qau' Qvm' iQau iQvm p0 v8 o1 h;refine TL.round (Qao mixed tbOk (lv:=Qb6) _ _ _ ?_);refine Qad h (fun hb h=>?_) (fun hb h=>?_)
  ·refine Qa2 (l:=p0) (c:=Qaa) (c' := Qa0) h Qaq (fun _=>rfl) (by decide) (fun x4 hi h=>?_);refine Qal [.agg [iV x4.Kind,sV x4.Name,sV x4.Text,iV x4.N,.sl false (x4.L.map Qaa),.sl false (x4.Then.map Qaa),.sl false (x4.Else.map Qaa)]] Qp1 h (fun x5 hy=>(iQvm x4 x5 hy)) (fun x5 hy h=>?_);refine Qad h (fun hb h=>?_) (fun hb h=>?_)
   ·exact JP2.b h (Le.tz 0 0 rfl rfl rfl)
   ·refine TL.le (τ := Qba p0 (wr (v8+1))) ?_ ((iQau p0 (wr (v8+1)) _ h));exact Le.tz 0 0 rfl rfl rfl
  ·exact JP2.a h (Le.tz 0 0 rfl rfl rfl)
 ·intro Qfs' iQfs p0 o h;refine PCall.ofB mixed tbOk Q34 Tryz.func155 rfl (by kernel_rfl) (Nat.le_of_ble_eq_true rfl) ?_;refine Qal [.agg [iV p0.Kind,sV p0.Name,sV p0.Text,iV p0.N,.sl false (p0.L.map Qaa),.sl false (p0.Then.map Qaa),.sl false (p0.Else.map Qaa)]] Qc3 h (fun x1 hy=>(iQfs p0 x1 hy)) (fun x1 hy h=>?_);refine Qam (t:=Qp1) h ?_;exact .refl _
 ·intro Qa6' Qfs' iQa6 iQfs p0 o h;refine PCall.ofB mixed tbOk Qabp Tryz.func128 rfl (by kernel_rfl) (Nat.le_of_ble_eq_true rfl) ?_;refine Qal [.agg [iV p0.Kind,sV p0.Name,sV p0.Text,iV p0.N,.sl false (p0.L.map Qaa),.sl false (p0.Then.map Qaa),.sl false (p0.Else.map Qaa)]] Qkt h (fun x1 hy=>(Qsu p0 x1 hy)) (fun x1 hy h=>?_);refine Qad h (fun hb h=>?_) (fun hb h=>?_)
  ·refine Qal [sV p0.Text] Qpy h (fun x2 hy=>(Qab7 p0.Text x2 hy)) (fun x2 hy h=>?_);refine Qai h (fun o3 ho hk=>?_);refine Exists.intro (JP1 _ _ o3 .normal (Q3y p0 x1)) (And.intro ?_ (Qay ?_))
   ·have h:=ho;refine Qad h (fun hb h=>?_) (fun hb h=>?_)
    ·refine And.intro rfl ?_;exact JP1.a h (Le.tz 3 0 rfl rfl rfl)
    ·exact JP1.a h (Le.tz 3 0 rfl rfl rfl)
   ·have h:=hk;refine Qam (t:=Qc3) h ?_;exact .refl _
  ·refine Qad h (fun hb h=>?_) (fun hb h=>?_)
   ·refine And.intro rfl ?_;refine Qam (t:=Qc3) h ?_;exact .refl _
   ·refine Qad h (fun hb h=>?_) (fun hb h=>?_)
    ·refine Qai h (fun o4 ho hk=>?_);refine Exists.intro (JP1 _ _ o4 .normal (Q3z p0 x1)) (And.intro ?_ (Qay ?_))
     ·have h:=ho;refine Qad h (fun hb h=>?_) (fun hb h=>?_)
      ·refine And.intro rfl ?_;exact JP1.a h (Le.tz 3 0 rfl rfl rfl)
      ·exact JP1.a h (Le.tz 3 0 rfl rfl rfl)
     ·have h:=hk;refine Qam (t:=Qc3) h ?_;exact .refl _
    ·refine Qad h (fun hb h=>?_) (fun hb h=>?_)
     ·refine Qai h (fun o5 ho hk=>?_);refine Exists.intro (JP1 _ _ o5 .normal (Q30 p0 x1)) (And.intro ?_ (Qay ?_))
      ·have h:=ho;refine Qal [sV p0.Name] Qgb h (fun x6 hy=>(Qk2 p0.Name x6 hy)) (fun x6 hy h=>?_);refine Qad h (fun hb h=>?_) (fun hb h=>?_)
       ·refine And.intro rfl ?_;exact JP1.a h (Le.tz 3 0 rfl rfl rfl)
       ·exact JP1.a h (Le.tz 3 0 rfl rfl rfl)
      ·have h:=hk;refine Qam (t:=Qc3) h ?_;exact .refl _
     ·refine Qad h (fun hb h=>?_) (fun hb h=>?_)
      ·refine Qai h (fun o7 ho hk=>?_);refine Exists.intro (JP1 _ _ o7 .normal (Q31 p0 x1)) (And.intro ?_ (Qay ?_))
       ·have h:=ho;refine Qal [sV p0.Name] Qmd h (fun x8 hy=>(Qvl p0.Name x8 hy)) (fun x8 hy h=>?_);refine Qad h (fun hb h=>?_) (fun hb h=>?_)
        ·refine And.intro rfl ?_;exact JP1.a h (Le.tz 3 0 rfl rfl rfl)
        ·exact JP1.a h (Le.tz 3 0 rfl rfl rfl)
       ·have h:=hk;refine Qam (t:=Qc3) h ?_;exact .refl _
      ·refine Qad h (fun hb h=>?_) (fun hb h=>?_)
       ·refine Qai h (fun o9 ho hk=>?_);refine Exists.intro (JP1 _ _ o9 .normal (Q32 p0 x1)) (And.intro ?_ (Qay ?_))
        ·have h:=ho;refine Qal [sV p0.Name] Qmd h (fun x10 hy=>(Qvl p0.Name x10 hy)) (fun x10 hy h=>?_);refine Qad h (fun hb h=>?_) (fun hb h=>?_)
         ·refine And.intro rfl ?_;refine Qad h (fun hb h=>?_) (fun hb h=>?_)
          ·refine Qa2 (l:=p0.L) (c:=Qaa) (c' := Qa0) h Qaq (fun _=>rfl) (by decide) (fun x11 hi h=>?_);refine Qal [.agg [iV x11.Kind,sV x11.Name,sV x11.Text,iV x11.N,.sl false (x11.L.map Qaa),.sl false (x11.Then.map Qaa),.sl false (x11.Else.map Qaa)]] Qc3 h (fun x12 hy=>(iQfs x11 x12 hy)) (fun x12 hy h=>?_);exact JP1.a h (Le.tz 3 0 rfl rfl rfl)
          ·exact JP1.a h (Le.tz 3 0 rfl rfl rfl)
         ·refine bF ?_;exact JP1.a h (Le.tz 3 0 rfl rfl rfl)
        ·have h:=hk;refine Qam (t:=Qc3) h ?_;exact .refl _
       ·refine Qad h (fun hb h=>?_) (fun hb h=>?_)
        ·refine Qai h (fun o13 ho hk=>?_);refine Exists.intro (JP1 _ _ o13 .normal (Q33 p0 x1)) (And.intro ?_ (Qay ?_))
         ·have h:=ho;refine Qal [sV p0.Name] Qgb h (fun x14 hy=>(Qk2 p0.Name x14 hy)) (fun x14 hy h=>?_);refine Qad h (fun hb h=>?_) (fun hb h=>?_)
          ·refine And.intro rfl ?_;refine Qad h (fun hb h=>?_) (fun hb h=>?_)
           ·refine Qap _ _ h (fun x15 hy=>((iQa6 p0.L x15 hy).fr [] [] rfl rfl rfl)) (fun x15 hy h=>?_);exact JP1.a h (Le.tz 3 0 rfl rfl rfl)
           ·exact JP1.a h (Le.tz 3 0 rfl rfl rfl)
          ·refine bF ?_;exact JP1.a h (Le.tz 3 0 rfl rfl rfl)
         ·have h:=hk;refine Qam (t:=Qc3) h ?_;exact .refl _
        ·refine Qam (t:=Qc3) h ?_;exact .refl _
theorem Qab8:∀ (p0:Qab) (o:Bool),Qfs p0=some o→PCall Tryz.prog 128 [.agg [iV p0.Kind,sV p0.Name,sV p0.Text,iV p0.N,.sl false (p0.L.map Qaa),.sl false (p0.Then.map Qaa),.sl false (p0.Else.map Qaa)]] (Qc3 o):=fun p0=>Qdj.2.2.2.2 p0
mutual
def Qiq (p0:(List Qab)) (p1:Bool):Option (Bool) :=
 (Qg8 p0 p1 0)>>=fun o1 =>
 match o1 with
 | .inl y2 =>
  some true
 | .inr y3 =>
  some false
 partial_fixpoint
def Qg8 (p0:(List Qab)) (p1:Bool) (v10:Int):Option (Unit⊕Unit) :=
 if(decide (v10<(p0.length:Int))) then
  idx p0 v10>>=fun x4 =>
  Qsv x4>>=fun x5 =>
  if(!x5) then
   some (.inr ())
  else
   ( if(x4.Kind==8) then
     if(!(v10==(wr ((p0.length:Int)-1)))) then
      idx p0 (wr (v10+1))>>=fun x7 =>
      if(x7.Kind==8) then
       some true
      else
       if(v10==(wr ((p0.length:Int)-1))) then
        if(!p1) then
         Qcm x4.Text [123]>>=fun x8 =>
         some x8
        else
         some false
       else
        Qcm x4.Text [123]>>=fun x9 =>
        some x9
     else
      if(v10==(wr ((p0.length:Int)-1))) then
       if(!p1) then
        Qcm x4.Text [123]>>=fun x10 =>
        some x10
       else
        some false
      else
       Qcm x4.Text [123]>>=fun x11 =>
       some x11
    else
     some false:Option (Bool))>>=fun o6 =>
   if o6 then
    some (.inr ())
   else
    Qg8 p0 p1 (wr (v10+1))
 else
  some (.inl ())
 partial_fixpoint
def Qsv (p0:Qab):Option (Bool) :=
 Qip p0>>=fun x1 =>
 ( if(p0.Kind==8) then
   ( if((x1.name_==false)&&((x1.text_==true)&&((x1.num_==false)&&((x1.then_==false)&&((x1.other_==false)&&((x1.l_==0)&&true)))))) then
     Qfr p0.Text [123,123]>>=fun x6 =>
     some (!x6)
    else
     some false:Option (Bool))>>=fun o5 =>
   some (.inr o5)
  else
   if(p0.Kind==9) then
    some (.inl (false,false,false))
   else
    if(p0.Kind==10) then
     some (.inl (false,x1.then_,x1.other_))
    else
     ( if(p0.Kind==11) then
       some (p0.Kind==11)
      else
       some (p0.Kind==12):Option (Bool))>>=fun o7 =>
     if o7 then
      Qi8 p0.Name>>=fun x8 =>
      some (.inl (x8,x1.then_,false))
     else
      if(p0.Kind==13) then
       Qi8 p0.Name>>=fun x9 =>
       some (.inl (x9,false,false))
      else
       some (.inr false):Option ((Bool×Bool×Bool)⊕Bool))>>=fun o2 =>
 match o2 with
 | .inl y3 =>
  ( if(p0.Kind==11) then
    some true
   else
    if(p0.Kind==12) then
     some true
    else
     some (p0.Kind==13):Option (Bool))>>=fun o10 =>
  ( if(y3.1==o10) then
    if((x1.name_==y3.1)&&((x1.text_==false)&&((x1.num_==false)&&((x1.then_==y3.2.1)&&((x1.other_==y3.2.2)&&((x1.l_==1)&&true)))))) then
     idx p0.L 0>>=fun x12 =>
     Qfs x12>>=fun x13 =>
     if x13 then
      Qiq p0.Then false>>=fun x14 =>
      if x14 then
       Qiq p0.Else false>>=fun x15 =>
       some x15
      else
       some false
     else
      some false
    else
     some false
   else
    some false:Option (Bool))>>=fun o11 =>
  some o11
 | .inr y4 =>
  some y4
 partial_fixpoint
end
theorem Q4d:(∀ (p0:(List Qab)) (p1:Bool) (o:Bool),Qiq p0 p1=some o→PCall Tryz.prog 72 [.sl false (p0.map Qaa),bV p1] (Qgc o))∧(∀ (p0:(List Qab)) (p1:Bool) (v10:Int) (o1:Unit⊕Unit),Qg8 p0 p1 v10=some o1→TL (0,0) Tryz.prog 52 Q1q (JP2 (0,0) 52 o1 (.exit 0) (Qqt p0 p1) .ret (Qqu p0 p1)) (Qln p0 p1 v10))∧(∀ (p0:Qab) (o:Bool),Qsv p0=some o→PCall Tryz.prog 97 [.agg [iV p0.Kind,sV p0.Name,sV p0.Text,iV p0.N,.sl false (p0.L.map Qaa),.sl false (p0.Then.map Qaa),.sl false (p0.Else.map Qaa)]] (Qp2 o)):=by
 refine Qiq.mutual_partial_correctness _ _ _ ?_ ?_ ?_
 ·intro Qg8' iQg8 p0 p1 o h;refine PCall.ofB mixed tbOk Qwi Tryz.func72 rfl (by kernel_rfl) (Nat.le_of_ble_eq_true rfl) ?_;refine view (Qat _ _) rfl ?_;refine Qai h (fun o1 ho hk=>?_);refine Exists.intro (JP2 _ _ o1 (.exit 0) (Qqt p0 p1) .ret (Qqu p0 p1)) (And.intro (Qhe (τ := Qln p0 p1 0) ?_ (TL.loop (iQg8 p0 p1 0 o1 ho))) (Qf3 (fun y2 hy=>?_) (fun y3 hy=>?_)))
  ·exact Le.tz 0 0 rfl rfl rfl
  ·have h:=(by rw[hy] at hk; exact hk);refine Qam (t:=Qgc) h ?_;exact .refl _
  ·have h:=(by rw[hy] at hk; exact hk);refine Qam (t:=Qgc) h ?_;exact .refl _
 ·intro Qg8' Qsv' iQg8 iQsv p0 p1 v10 o1 h;refine TL.round (Qao mixed tbOk (lv:=Qwi) _ _ _ ?_);refine Qad h (fun hb h=>?_) (fun hb h=>?_)
  ·refine Qa2 (l:=p0) (c:=Qaa) (c' := Qa0) h Qaq (fun _=>rfl) (by decide) (fun x4 hi h=>?_);refine Qal [.agg [iV x4.Kind,sV x4.Name,sV x4.Text,iV x4.N,.sl false (x4.L.map Qaa),.sl false (x4.Then.map Qaa),.sl false (x4.Else.map Qaa)]] Qp2 h (fun x5 hy=>(iQsv x4 x5 hy)) (fun x5 hy h=>?_);refine Qad h (fun hb h=>?_) (fun hb h=>?_)
   ·exact JP2.b h (Le.tz 0 0 rfl rfl rfl)
   ·refine view (Qat _ _) rfl ?_;refine Qai h (fun o6 ho hk=>?_);refine Exists.intro (JP1 _ _ o6 .normal (Q1p p0 p1 v10 x4)) (And.intro ?_ (Qay ?_))
    ·have h:=ho;refine Qad h (fun hb h=>?_) (fun hb h=>?_)
     ·refine Qad h (fun hb h=>?_) (fun hb h=>?_)
      ·refine Qa2 (l:=p0) (c:=Qaa) (c' := Qa0) h Qaq (fun _=>rfl) (by decide) (fun x7 hi h=>?_);refine Qad h (fun hb h=>?_) (fun hb h=>?_)
       ·exact JP1.a h (Le.tz 1 0 rfl rfl rfl)
       ·refine Qad h (fun hb h=>?_) (fun hb h=>?_)
        ·refine Qad h (fun hb h=>?_) (fun hb h=>?_)
         ·refine Qal [sV x4.Text,sV [123]] Qc2 h (fun x8 hy=>(Qer x4.Text [123] x8 hy)) (fun x8 hy h=>?_);exact JP1.a h (Le.tz 1 0 rfl rfl rfl)
         ·exact JP1.a h (Le.tz 1 0 rfl rfl rfl)
        ·refine bT ?_;refine Qal [sV x4.Text,sV [123]] Qc2 h (fun x9 hy=>(Qer x4.Text [123] x9 hy)) (fun x9 hy h=>?_);exact JP1.a h (Le.tz 1 0 rfl rfl rfl)
      ·refine bF ?_;refine Qad h (fun hb h=>?_) (fun hb h=>?_)
       ·refine Qad h (fun hb h=>?_) (fun hb h=>?_)
        ·refine Qal [sV x4.Text,sV [123]] Qc2 h (fun x10 hy=>(Qer x4.Text [123] x10 hy)) (fun x10 hy h=>?_);exact JP1.a h (Le.tz 1 0 rfl rfl rfl)
        ·exact JP1.a h (Le.tz 1 0 rfl rfl rfl)
       ·refine bT ?_;refine Qal [sV x4.Text,sV [123]] Qc2 h (fun x11 hy=>(Qer x4.Text [123] x11 hy)) (fun x11 hy h=>?_);exact JP1.a h (Le.tz 1 0 rfl rfl rfl)
     ·exact JP1.a h (Le.tz 1 0 rfl rfl rfl)
    ·have h:=hk;refine Qad h (fun hb h=>?_) (fun hb h=>?_)
     ·exact JP2.b h (Le.tz 0 0 rfl rfl rfl)
     ·refine TL.le (τ := Qln p0 p1 (wr (v10+1))) ?_ ((iQg8 p0 p1 (wr (v10+1)) _ h));exact Le.tz 0 0 rfl rfl rfl
  ·exact JP2.a h (Le.tz 0 0 rfl rfl rfl)
 ·intro Qiq' iQiq p0 o h;refine PCall.ofB mixed tbOk Qabq Tryz.func97 rfl (by kernel_rfl) (Nat.le_of_ble_eq_true rfl) ?_;refine Qal [.agg [iV p0.Kind,sV p0.Name,sV p0.Text,iV p0.N,.sl false (p0.L.map Qaa),.sl false (p0.Then.map Qaa),.sl false (p0.Else.map Qaa)]] Qkt h (fun x1 hy=>(Qsu p0 x1 hy)) (fun x1 hy h=>?_);refine Qai h (fun o2 ho hk=>?_);refine Exists.intro (JP2 _ _ o2 .normal (Q35 p0 x1) .ret (Q36 p0 x1)) (And.intro ?_ (Qf3 (fun y3 hy=>?_) (fun y4 hy=>?_)))
  ·have h:=ho;refine Qad h (fun hb h=>?_) (fun hb h=>?_)
   ·refine Qai h (fun o5 ho hk=>?_);refine Exists.intro (JP1 _ _ o5 .normal (Q37 p0 x1)) (And.intro ?_ (Qay ?_))
    ·have h:=ho;refine And.intro rfl ?_;refine Qad h (fun hb h=>?_) (fun hb h=>?_)
     ·refine Qal [sV p0.Text,sV [123,123]] Qi3 h (fun x6 hy=>(Qvk p0.Text [123,123] x6 hy)) (fun x6 hy h=>?_);exact JP1.a h (Le.tz 3 0 rfl rfl rfl)
     ·exact JP1.a h (Le.tz 3 0 rfl rfl rfl)
    ·have h:=hk;refine JP2.b h ?_;exact Le.tz 3 0 rfl rfl rfl
   ·refine Qad h (fun hb h=>?_) (fun hb h=>?_)
    ·refine JP2.a h ?_;exact Le.tz 3 0 rfl rfl rfl
    ·refine Qad h (fun hb h=>?_) (fun hb h=>?_)
     ·refine And.intro (by decide +kernel) (And.intro rfl ?_);refine JP2.a h ?_;exact Le.tz 3 0 rfl rfl rfl
     ·refine Qai h (fun o7 ho hk=>?_);refine Exists.intro (JP1 _ _ o7 .normal (Q38 p0 x1)) (And.intro ?_ (Qay ?_))
      ·have h:=ho;refine Qad h (fun hb h=>?_) (fun hb h=>?_)
       ·exact JP1.a h (Le.tz 3 0 rfl rfl rfl)
       ·exact JP1.a h (Le.tz 3 0 rfl rfl rfl)
      ·have h:=hk;refine Qad h (fun hb h=>?_) (fun hb h=>?_)
       ·refine And.intro (by decide +kernel) (And.intro rfl ?_);refine Qco [sV p0.Name] Qgb h (fun x8 hy=>(Qk2 p0.Name x8 hy)) (fun x8 hy h=>?_);refine JP2.a h ?_;exact Le.tz 3 0 rfl rfl rfl
       ·refine Qad h (fun hb h=>?_) (fun hb h=>?_)
        ·refine Qal [sV p0.Name] Qgb h (fun x9 hy=>(Qk2 p0.Name x9 hy)) (fun x9 hy h=>?_);refine JP2.a h ?_;exact Le.tz 3 0 rfl rfl rfl
        ·refine JP2.b h ?_;exact Le.tz 3 0 rfl rfl rfl
  ·have h:=(by rw[hy] at hk; exact hk);refine Qai h (fun o10 ho hk=>?_);refine Exists.intro (JP1 _ _ o10 .normal (Q39 p0 x1 y3)) (And.intro ?_ (Qay ?_))
   ·have h:=ho;refine Qad h (fun hb h=>?_) (fun hb h=>?_)
    ·refine bT ?_;exact JP1.a h (Le.tz 3 0 rfl rfl rfl)
    ·refine Qad h (fun hb h=>?_) (fun hb h=>?_)
     ·exact JP1.a h (Le.tz 3 0 rfl rfl rfl)
     ·exact JP1.a h (Le.tz 3 0 rfl rfl rfl)
   ·have h:=hk;refine Qai h (fun o11 ho hk=>?_);refine Exists.intro (JP1 _ _ o11 .normal (Q4a p0 x1 y3)) (And.intro ?_ (Qay ?_))
    ·have h:=ho;refine Qad h (fun hb h=>?_) (fun hb h=>?_)
     ·refine And.intro rfl ?_;refine Qad h (fun hb h=>?_) (fun hb h=>?_)
      ·refine Qa2 (l:=p0.L) (c:=Qaa) (c' := Qa0) h Qaq (fun _=>rfl) (by decide) (fun x12 hi h=>?_);refine Qal [.agg [iV x12.Kind,sV x12.Name,sV x12.Text,iV x12.N,.sl false (x12.L.map Qaa),.sl false (x12.Then.map Qaa),.sl false (x12.Else.map Qaa)]] Qc3 h (fun x13 hy=>(Qab8 x12 x13 hy)) (fun x13 hy h=>?_);refine Qad h (fun hb h=>?_) (fun hb h=>?_)
       ·refine Qal [.sl false (p0.Then.map Qaa),bV false] Qgc h (fun x14 hy=>(iQiq p0.Then false x14 hy)) (fun x14 hy h=>?_);refine Qad h (fun hb h=>?_) (fun hb h=>?_)
        ·refine Qal [.sl false (p0.Else.map Qaa),bV false] Qgc h (fun x15 hy=>(iQiq p0.Else false x15 hy)) (fun x15 hy h=>?_);exact JP1.a h (Le.tz 3 0 rfl rfl rfl)
        ·exact JP1.a h (Le.tz 3 0 rfl rfl rfl)
       ·refine bF ?_;exact JP1.a h (Le.tz 3 0 rfl rfl rfl)
      ·refine bF ?_;refine bF ?_;exact JP1.a h (Le.tz 3 0 rfl rfl rfl)
     ·refine bF ?_;refine bF ?_;refine bF ?_;exact JP1.a h (Le.tz 3 0 rfl rfl rfl)
    ·have h:=hk;refine Qam (t:=Qp2) h ?_;exact .refl _
  ·have h:=(by rw[hy] at hk; exact hk);refine Qam (t:=Qp2) h ?_;exact .refl _
theorem Q8q:∀ (p0:(List Qab)) (p1:Bool) (o:Bool),Qiq p0 p1=some o→PCall Tryz.prog 72 [.sl false (p0.map Qaa),bV p1] (Qgc o):=fun p0 p1=>Q4d.1 p0 p1
def Q10 (p0:(List Qab)):Option (Bool) :=
 ( Qst p0>>=fun x2 =>
  if(decide (x2≤12)) then
   Qo8 p0>>=fun x3 =>
   if(decide (x3≤1024)) then
    Qiq p0 true>>=fun x4 =>
    some x4
   else
    some false
  else
   some false:Option (Bool))>>=fun o1 =>
 some o1
theorem Qah0:∀ (p0:(List Qab)) (o:Bool),Q10 p0=some o→PCall Tryz.prog 38 [.sl false (p0.map Qaa)] (Q1m o):=by
 intro p0 o h;unfold Q10 at h;refine PCall.ofB mixed tbOk Qaht Tryz.func38 rfl (by kernel_rfl) (Nat.le_of_ble_eq_true rfl) ?_;refine Qai h (fun o1 ho hk=>?_);refine Exists.intro (JP1 _ _ o1 .normal (Qabn )) (And.intro ?_ (Qay ?_))
 ·have h:=ho;refine Qal [.sl false (p0.map Qaa)] Qvf h (fun x2 hy=>(Qab4 p0 x2 hy)) (fun x2 hy h=>?_);refine Qad h (fun hb h=>?_) (fun hb h=>?_)
  ·refine Qal [.sl false (p0.map Qaa)] Qsn h (fun x3 hy=>(Q8n p0 x3 hy)) (fun x3 hy h=>?_);refine Qad h (fun hb h=>?_) (fun hb h=>?_)
   ·refine Qal [.sl false (p0.map Qaa),bV true] Qgc h (fun x4 hy=>(Q8q p0 true x4 hy)) (fun x4 hy h=>?_);exact JP1.a h (Le.tz 0 0 rfl rfl rfl)
   ·exact JP1.a h (Le.tz 0 0 rfl rfl rfl)
  ·refine bF ?_;exact JP1.a h (Le.tz 0 0 rfl rfl rfl)
 ·have h:=hk;refine Qam (t:=Q1m) h ?_;exact .refl _
def Qeg (p0:(List Qae)) (v22:Int):Option (Unit⊕((List UInt8)×Int)) :=
 if(decide (v22<(p0.length:Int))) then
  idx p0 v22>>=fun x4 =>
  ( Qi8 x4.Name>>=fun x6 =>
   if(!x6) then
    some true
   else
    Q10 x4.L>>=fun x7 =>
    some (!x7):Option (Bool))>>=fun o5 =>
  if o5 then
   some (.inr (x4.Name,7))
  else
   cutL p0 0 v22>>=fun x8 =>
   Qkg x8 x4.Name>>=fun x9 =>
   if x9.2 then
    some (.inr (x4.Name,9))
   else
    Qeg p0 (wr (v22+1))
 else
  some (.inl ())
 partial_fixpoint
theorem Qagd:∀ (p0:(List Qae)),(∀ (v22:Int) (o1:Unit⊕((List UInt8)×Int)),Qeg p0 v22=some o1→TL (0,0) Tryz.prog 102 Qy7 (JP2 (0,0) 102 o1 (.exit 0) (Qov p0) .ret (Qow p0)) (Qj7 p0 v22)):=by
 intro p0;refine Qeg.partial_correctness p0 _ ?_;intro Qeg' iQeg v22 o1 h;refine TL.round (Qao mixed tbOk (lv:=Qhk) _ _ _ ?_);refine Qad h (fun hb h=>?_) (fun hb h=>?_)
 ·refine Qa2 (l:=p0) (c:=Qaf) (c' := Qaf) h (fun _=>rfl) (fun _=>rfl) (by decide) (fun x4 hi h=>?_);refine Qai h (fun o5 ho hk=>?_);refine Exists.intro (JP1 _ _ o5 .normal (Qy6 p0 v22 x4)) (And.intro ?_ (Qay ?_))
  ·have h:=ho;refine Qal [sV x4.Name] Qgb h (fun x6 hy=>(Qk2 x4.Name x6 hy)) (fun x6 hy h=>?_);refine Qad h (fun hb h=>?_) (fun hb h=>?_)
   ·exact JP1.a h (Le.tz 1 0 rfl rfl rfl)
   ·refine Qal [.sl false (x4.L.map Qaa)] Q1m h (fun x7 hy=>(Qah0 x4.L x7 hy)) (fun x7 hy h=>?_);exact JP1.a h (Le.tz 1 0 rfl rfl rfl)
  ·have h:=hk;refine Qad h (fun hb h=>?_) (fun hb h=>?_)
   ·exact JP2.b h (Le.tz 0 0 rfl rfl rfl)
   ·refine And.intro (by decide +kernel) (And.intro rfl ?_);refine Qaa9 (c:=Qaf) none (some v22) h (fun _=>rfl) (fun x8 hi h=>?_);refine Qco [.sl false (x8.map Qaf),sV x4.Name] Qin h (fun x9 hy=>(Qp4 x8 x4.Name x9 hy)) (fun x9 hy h=>?_);refine Qad h (fun hb h=>?_) (fun hb h=>?_)
    ·exact JP2.b h (Le.tz 0 0 rfl rfl rfl)
    ·refine TL.le (τ := Qj7 p0 (wr (v22+1))) ?_ ((iQeg (wr (v22+1)) _ h));exact Le.tz 0 0 rfl rfl rfl
 ·exact JP2.a h (Le.tz 0 0 rfl rfl rfl)
def Qeh (p0:(List Qae)) (x10:(List ((List UInt8)×(List (List UInt8))))) (v56:Int) (x14:Qae) (v66:Int):Option (Unit⊕Unit) :=
 if(decide (v66<(((mget (fun a b=>a==b) x14.Name x10).getD []).length:Int))) then
  idx ((mget (fun a b=>a==b) x14.Name x10).getD []) v66>>=fun x18 =>
  if(!((mget (fun a b=>a==b) x18 x10).isSome)) then
   some (.inr ())
  else
   Qeh p0 x10 v56 x14 (wr (v66+1))
 else
  some (.inl ())
 partial_fixpoint
theorem Qage:∀ (p0:(List Qae)) (x10:(List ((List UInt8)×(List (List UInt8))))) (v56:Int) (x14:Qae),(∀ (v66:Int) (o15:Unit⊕Unit),Qeh p0 x10 v56 x14 v66=some o15→TL (0,0) Tryz.prog 102 Qy8 (JP2 (0,0) 102 o15 (.exit 4) (Qox p0 x10 v56 x14) .ret (Qoy p0 x10 v56 x14)) (Qj8 p0 x10 v56 x14 v66)):=by
 intro p0 x10 v56 x14;refine Qeh.partial_correctness p0 x10 v56 x14 _ ?_;intro Qeh' iQeh v66 o15 h;refine TL.round (Qao mixed tbOk (lv:=Qhk) _ _ _ ?_);refine Qad h (fun hb h=>?_) (fun hb h=>?_)
 ·refine Qa2 (l:=((mget (fun a b=>a==b) x14.Name x10).getD [])) (c:=cStr) (c' := cStr) h (fun _=>rfl) (fun _=>rfl) (by decide) (fun x18 hi h=>?_);refine Qva (l:=x10) (k:=x18) (fun a b=>a==b) (ck:=sV) (ca:=(fun x =>.sl false (x.map cStr))) (z0:=[]) (by exact rfl) (by exact rfl) (by exact rfl) (by exact fun _ _=>rfl) (by exact rfl) (by exact .not) ?_;refine Qad h (fun hb h=>?_) (fun hb h=>?_)
  ·exact JP2.b h (Le.tz 3 0 rfl rfl rfl)
  ·refine TL.le (τ := Qj8 p0 x10 v56 x14 (wr (v66+1))) ?_ ((iQeh (wr (v66+1)) _ h));exact Le.tz 3 0 rfl rfl rfl
 ·exact JP2.a h (Le.tz 3 0 rfl rfl rfl)
def Qei (p0:(List Qae)) (x10:(List ((List UInt8)×(List (List UInt8))))) (v56:Int):Option (Unit⊕(List UInt8)) :=
 if(decide (v56<(p0.length:Int))) then
  idx p0 v56>>=fun x14 =>
  (Qeh p0 x10 v56 x14 0)>>=fun o15 =>
  match o15 with
  | .inl y16 =>
   Qei p0 x10 (wr (v56+1))
  | .inr y17 =>
   some (.inr x14.Name)
 else
  some (.inl ())
 partial_fixpoint
theorem Qagf:∀ (p0:(List Qae)) (x10:(List ((List UInt8)×(List (List UInt8))))),(∀ (v56:Int) (o11:Unit⊕(List UInt8)),Qei p0 x10 v56=some o11→TL (0,0) Tryz.prog 102 Qy9 (JP2 (0,0) 102 o11 (.exit 2) (Qoz p0 x10) .ret (Qo0 p0 x10)) (Qj9 p0 x10 v56)):=by
 intro p0 x10;refine Qei.partial_correctness p0 x10 _ ?_;intro Qei' iQei v56 o11 h;refine TL.round (Qao mixed tbOk (lv:=Qhk) _ _ _ ?_);refine Qad h (fun hb h=>?_) (fun hb h=>?_)
 ·refine Qa2 (l:=p0) (c:=Qaf) (c' := Qaf) h (fun _=>rfl) (fun _=>rfl) (by decide) (fun x14 hi h=>?_);refine Qva (l:=x10) (k:=x14.Name) (fun a b=>a==b) (ck:=sV) (ca:=(fun x =>.sl false (x.map cStr))) (z0:=[]) (by exact rfl) (by exact rfl) (by exact rfl) (by exact fun _ _=>rfl) (by exact rfl) (by exact .not) ?_;refine view (Qat _ _) rfl ?_;refine Qai h (fun o15 ho hk=>?_);refine Exists.intro (JP2 _ _ o15 (.exit 4) (Qox p0 x10 v56 x14) .ret (Qoy p0 x10 v56 x14)) (And.intro (Qhe (τ := Qj8 p0 x10 v56 x14 0) ?_ (TL.loop (Qage p0 x10 v56 x14 0 o15 ho))) (Qf3 (fun y16 hy=>?_) (fun y17 hy=>?_)))
  ·exact Le.tz 3 0 rfl rfl rfl
  ·have h:=(by rw[hy] at hk; exact hk);refine TL.le (τ := Qj9 p0 x10 (wr (v56+1))) ?_ ((iQei (wr (v56+1)) _ h));exact Le.tz 2 0 rfl rfl rfl
  ·have h:=(by rw[hy] at hk; exact hk);exact JP2.b h (Le.tz 2 0 rfl rfl rfl)
 ·exact JP2.a h (Le.tz 2 0 rfl rfl rfl)
def Qck (h0_0:(List ((List UInt8)×(List (List UInt8))))) (x1:(List (List UInt8))) (v17:Int) (h2_0:(List ((List UInt8)×Int))):Option (((List ((List UInt8)×Int)))) :=
 if(decide (v17<(x1.length:Int))) then
  idx x1 v17>>=fun x3 =>
  Qck h0_0 x1 (wr (v17+1)) (mset (fun a b=>a==b) x3 1 h2_0)
 else
  some h2_0
 partial_fixpoint
theorem Q8r:∀ (h0_0:(List ((List UInt8)×(List (List UInt8))))) (x1:(List (List UInt8))),(∀ (v17:Int) (h2_0:(List ((List UInt8)×Int))) (o2:((List ((List UInt8)×Int)))),Qck h0_0 x1 v17 h2_0=some o2→TL (1,0) Tryz.prog 56 Qsi (JP1 (1,0) 56 o2 (.exit 0) (Qjr h0_0 x1)) (Qfz h0_0 x1 v17 h2_0)):=by
 intro h0_0 x1;refine Qck.partial_correctness h0_0 x1 _ ?_;intro Qck' iQck v17 h2_0 o2 h;refine TL.round (Qao mixed tbOk (lv:=Qe3) _ _ _ ?_);refine Qad h (fun hb h=>?_) (fun hb h=>?_)
 ·refine Q06 (l:=x1) (c:=cStr) (c' := cStr) h rfl (fun _=>rfl) (fun _=>rfl) (by decide) (fun x3 hi h=>?_);refine And.intro rfl (And.intro (Nat.le_of_ble_eq_true rfl) ?_);refine Qagb (l:=h2_0) (k:=x3) (x:=1) (fun a b=>a==b) (ck:=sV) (ca:=iV) (by exact rfl) (by exact rfl) (by exact rfl) (by exact .refl _) (by exact fun _ _=>rfl) ?_;refine TL.le (τ := Qfz h0_0 x1 (wr (v17+1)) (mset (fun a b=>a==b) x3 1 h2_0)) ?_ ((iQck (wr (v17+1)) (mset (fun a b=>a==b) x3 1 h2_0) _ h));exact Le.tz 3 1 rfl rfl rfl
 ·exact JP1.a h (Le.tz 3 1 rfl rfl rfl)
def Qbx (h0_0:(List ((List UInt8)×(List (List UInt8))))) (v9:Int) (x5:(List UInt8)) (v6_:(List (List UInt8))) (v38:Int) (h2_0_:(List ((List UInt8)×Int))):Option (((List (List UInt8))×(List ((List UInt8)×Int)))) :=
 if(decide (v38<(((mget (fun a b=>a==b) x5 h0_0).getD []).length:Int))) then
  idx ((mget (fun a b=>a==b) x5 h0_0).getD []) v38>>=fun x7 =>
  if(((mget (fun a b=>a==b) x7 h2_0_).getD 0)==0) then
   appL 16 v6_ [x7]>>=fun x8 =>
   Qbx h0_0 v9 x5 x8 (wr (v38+1)) (mset (fun a b=>a==b) x7 1 h2_0_)
  else
   Qbx h0_0 v9 x5 v6_ (wr (v38+1)) h2_0_
 else
  some (v6_,h2_0_)
 partial_fixpoint
theorem Q8s:∀ (h0_0:(List ((List UInt8)×(List (List UInt8))))) (v9:Int) (x5:(List UInt8)),(∀ (v6_:(List (List UInt8))) (v38:Int) (h2_0_:(List ((List UInt8)×Int))) (o6:((List (List UInt8))×(List ((List UInt8)×Int)))),Qbx h0_0 v9 x5 v6_ v38 h2_0_=some o6→TL (1,0) Tryz.prog 56 Qsj (JP1 (1,0) 56 o6 (.exit 4) (Qjs h0_0 v9 x5)) (Qd4 h0_0 v9 x5 v6_ v38 h2_0_)):=by
 intro h0_0 v9 x5;refine Qbx.partial_correctness h0_0 v9 x5 _ ?_;intro Qbx' iQbx v6_ v38 h2_0_ o6 h;refine TL.round (Qao mixed tbOk (lv:=Qe3) _ _ _ ?_);refine Qad h (fun hb h=>?_) (fun hb h=>?_)
 ·refine Qa2 (l:=((mget (fun a b=>a==b) x5 h0_0).getD [])) (c:=cStr) (c' := cStr) h (fun _=>rfl) (fun _=>rfl) (by decide) (fun x7 hi h=>?_);refine Qva (l:=h2_0_) (k:=x7) (fun a b=>a==b) (ck:=sV) (ca:=iV) (z0:=0) (by exact rfl) (by exact rfl) (by exact rfl) (by exact fun _ _=>rfl) (by exact rfl) (by exact .refl _) ?_;refine Qad h (fun hb h=>?_) (fun hb h=>?_)
  ·refine Qagb (l:=h2_0_) (k:=x7) (x:=1) (fun a b=>a==b) (ck:=sV) (ca:=iV) (by exact rfl) (by exact rfl) (by exact rfl) (by exact .refl _) (by exact fun _ _=>rfl) ?_;refine Q07 (a:=v6_) (b:=[x7]) (c:=cStr) h (.refl _) (fun _=>rfl) rfl (fun x8 hi h=>?_);refine TL.le (τ := Qd4 h0_0 v9 x5 x8 (wr (v38+1)) (mset (fun a b=>a==b) x7 1 h2_0_)) ?_ ((iQbx x8 (wr (v38+1)) (mset (fun a b=>a==b) x7 1 h2_0_) _ h));exact Le.trans (τ := ⟨[(2,.ptr 1 0),(5,.mh 2),(6,.x 0 2 (.sl 9 1 (x8.map cStr))),(9,.p (iV v9)),(36,.p (.sl false (((mget (fun a b=>a==b) x5 h0_0).getD []).map cStr))),(37,.p (iV (((mget (fun a b=>a==b) x5 h0_0).getD []).length:Int))),(38,.p (iV (wr (v38+1))))],⟨[[mpD sV (fun x =>.sl false (x.map cStr)) h0_0],[.mh 0],[mpD sV iV (mset (fun a b=>a==b) x7 1 h2_0_)]],[2]⟩⟩) (Le.tz 3 1 rfl rfl rfl) ((Le.ver (.s 6) 0 2 1 rfl rfl rfl rfl).trans (Le.tz 3 1 rfl rfl rfl))
  ·refine TL.le (τ := Qd4 h0_0 v9 x5 v6_ (wr (v38+1)) h2_0_) ?_ ((iQbx v6_ (wr (v38+1)) h2_0_ _ h));exact Le.tz 3 1 rfl rfl rfl
 ·exact JP1.a h (Le.tz 3 1 rfl rfl rfl)
def Qby (h0_0:(List ((List UInt8)×(List (List UInt8))))) (v6:(List (List UInt8))) (v9:Int) (h2_0:(List ((List UInt8)×Int))):Option (((List (List UInt8))×(List ((List UInt8)×Int)))) :=
 if(decide (v9<(v6.length:Int))) then
  idx v6 v9>>=fun x5 =>
  (Qbx h0_0 v9 x5 v6 0 h2_0)>>=fun o6 =>
  Qby h0_0 o6.1 (wr (v9+1)) o6.2
 else
  some (v6,h2_0)
 partial_fixpoint
theorem Q8t:∀ (h0_0:(List ((List UInt8)×(List (List UInt8))))),(∀ (v6:(List (List UInt8))) (v9:Int) (h2_0:(List ((List UInt8)×Int))) (o4:((List (List UInt8))×(List ((List UInt8)×Int)))),Qby h0_0 v6 v9 h2_0=some o4→TL (1,0) Tryz.prog 56 Qsk (JP1 (1,0) 56 o4 (.exit 2) (Qjt h0_0)) (Qf0 h0_0 v6 v9 h2_0)):=by
 intro h0_0;refine Qby.partial_correctness h0_0 _ ?_;intro Qby' iQby v6 v9 h2_0 o4 h;refine TL.round (Qao mixed tbOk (lv:=Qe3) _ _ _ ?_);refine And.intro rfl (Exists.intro _ (And.intro (List.length_map _) ?_));refine Qad h (fun hb h=>?_) (fun hb h=>?_)
 ·refine And.intro (by decide +kernel) (And.intro rfl ?_);refine And.intro rfl ?_;refine Q06 (l:=v6) (c:=cStr) (c' := cStr) h rfl (fun _=>rfl) (fun _=>rfl) (by decide) (fun x5 hi h=>?_);refine And.intro rfl ?_;refine And.intro rfl (And.intro (Nat.le_of_ble_eq_true rfl) ?_);refine And.intro rfl ?_;refine Qva (l:=h0_0) (k:=x5) (fun a b=>a==b) (ck:=sV) (ca:=(fun x =>.sl false (x.map cStr))) (z0:=[]) (by exact rfl) (by exact rfl) (by exact rfl) (by exact fun _ _=>rfl) (by exact rfl) (by exact .not) ?_;refine view (Qat _ _) rfl ?_;refine Qai h (fun o6 ho hk=>?_);refine Exists.intro (JP1 _ _ o6 (.exit 4) (Qjs h0_0 v9 x5)) (And.intro (Qhe (τ := Qd4 h0_0 v9 x5 v6 0 h2_0) ?_ (TL.loop (Q8s h0_0 v9 x5 v6 0 h2_0 o6 ho))) (Qay ?_))
  ·exact Le.tz 3 1 rfl rfl rfl
  have h:=hk;refine TL.le (τ := Qf0 h0_0 o6.1 (wr (v9+1)) o6.2) ?_ ((iQby o6.1 (wr (v9+1)) o6.2 _ h));exact Le.tz 3 1 rfl rfl rfl
 ·exact JP1.a h (Le.tz 3 1 rfl rfl rfl)
def Qcx (p0:(List (List UInt8))):Option ((List (List UInt8))) :=
 appL 16 [] p0
theorem Qlp:∀ (p0:(List (List UInt8))) (o:(List (List UInt8))),Qcx p0=some o→CallOK Tryz.prog 75 [.p (.sl false (p0.map cStr))] ⟨[],[]⟩ (Qdi o) ⟨[],[1]⟩:=by
 intro p0 o h;unfold Qcx at h;have h:(appL 16 ([]:List (List UInt8)) p0>>=fun r=>some r)=some o:=by rw[h]; rfl
 refine CallOK.ofB mixed tbOk Qlk Tryz.func75 rfl (by kernel_rfl) (Nat.le_of_ble_eq_true rfl) rfl rfl rfl ?_;refine⟨rfl,rfl,rfl,fun b hb=>?_⟩;cases b with
 | true =>
  refine bT ?_;obtain rfl:=List.map_eq_nil_iff.1 (hb rfl);have h:some ([]:List (List UInt8))=some o:=h;refine Exists.intro _ (And.intro (Le.xnil (.s 2) 9 1 rfl) ?_);exact Qb3 (t:=Qdi) (ss:=fun o=>⟨[],[1]⟩) h ⟨[0],rfl,.refl _,.refl _,rfl⟩
 | false =>
  refine bF ?_;refine Qaf8 (a:=([]:List (List UInt8))) (b:=p0) (c:=cStr) h (.refl _) (.refl _) (fun _=>rfl) (.inl rfl) (fun r hi h=>?_);refine Exists.intro _ (And.intro (Le.refl _ _ _) ?_);exact Qb3 (t:=Qdi) (ss:=fun o=>⟨[],[1]⟩) h ⟨[0],rfl,.refl _,.refl _,rfl⟩
def Qft (p1:(List (List UInt8))) (h0_0:(List ((List UInt8)×(List (List UInt8))))):Option ((List (List UInt8))) :=
 Qcx p1>>=fun x1 =>
 (Qck h0_0 x1 0 [])>>=fun o2 =>
 (Qby h0_0 x1 0 o2)>>=fun o4 =>
 need (o4.1.length<4611686018427387904)>>=fun _ =>
 some (srtL o4.1)
theorem Qvn:∀ (p1:(List (List UInt8))) (h0_0:(List ((List UInt8)×(List (List UInt8))))) (o:(List (List UInt8))),Qft p1 h0_0=some o→CallOK Tryz.prog 42 [.agg [.mh 0],.p (.sl false (p1.map cStr))] ⟨[[mpD sV (fun x =>.sl false (x.map cStr)) h0_0]],[]⟩ (Qi0 o) ⟨[[mpD sV (fun x =>.sl false (x.map cStr)) h0_0]],[]⟩:=by
 intro p1 h0_0 o h;unfold Qft at h;refine CallOK.ofB mixed tbOk Qe3 Tryz.func42 rfl (by kernel_rfl) (Nat.le_of_ble_eq_true rfl) rfl rfl rfl ?_;refine And.intro rfl (Exists.intro false ?_);refine Qap _ _ h (fun x1 hy=>((Qlp p1 x1 hy).fr [] [] rfl rfl rfl)) (fun x1 hy h=>?_);refine And.intro rfl (Exists.intro _ (And.intro (List.length_map _) ?_));refine Qai h (fun o2 ho hk=>?_);refine Exists.intro (JP1 _ _ o2 (.exit 0) (Qjr h0_0 x1)) (And.intro (Qhe (τ := Qfz h0_0 x1 0 []) ?_ (TL.loop (Q8r h0_0 x1 0 [] o2 ho))) (Qay ?_))
 ·exact Le.tz 3 1 rfl rfl rfl
 have h:=hk;refine Qai h (fun o4 ho hk=>?_);refine Exists.intro (JP1 _ _ o4 (.exit 2) (Qjt h0_0)) (And.intro (Qhe (τ := Qf0 h0_0 x1 0 o2) ?_ (TL.loop (Q8t h0_0 x1 0 o2 o4 ho))) (Qay ?_))
 ·exact Le.tz 3 1 rfl rfl rfl
 have h:=hk;refine Qz4 h (fun hn0 h=>?_);refine Or.inl ?_;refine⟨rfl,rfl,_,false,o4.1,(srtL o4.1),_,rfl,rfl,Qan1  hn0 ,rfl,rfl,?_⟩;refine Exists.intro _ (And.intro (Le.trans (τ := ⟨[(4,.x 0 2 (.sl 9 1 ((srtL o4.1).map cStr)))],⟨[[mpD sV (fun x =>.sl false (x.map cStr)) h0_0]],[2]⟩⟩) (Le.tz 1 1 rfl rfl rfl) (Le.trans (τ := ⟨[(4,.x 0 2 (.sl 9 1 ((srtL o4.1).map cStr)))],⟨[[mpD sV (fun x =>.sl false (x.map cStr)) h0_0]],[2]⟩⟩) (Le.tz 1 1 rfl rfl rfl) ((Le.frzv (.s 4) 0 2 rfl rfl rfl rfl).trans (Le.refl _ _ _)))) ?_);refine Qb3 (t:=Qi0) (ss:=fun o=>⟨[[mpD sV (fun x =>.sl false (x.map cStr)) h0_0]],[]⟩) h ?_;exact⟨[],rfl,.refl _,.refl _,rfl⟩
def Qa8 (p0:(List (List UInt8))) (p1:(List UInt8)) (v8:Int):Option (Unit⊕Int) :=
 if(decide (v8<(p0.length:Int))) then
  idx p0 v8>>=fun x4 =>
  if(p1==x4) then
   some (.inr v8)
  else
   Qa8 p0 p1 (wr (v8+1))
 else
  some (.inl ())
 partial_fixpoint
theorem Qwn:∀ (p0:(List (List UInt8))) (p1:(List UInt8)),(∀ (v8:Int) (o1:Unit⊕Int),Qa8 p0 p1 v8=some o1→TL (0,0) Tryz.prog 19 Qkc (JP2 (0,0) 19 o1 (.exit 0) (Qen p0 p1) .ret (Qeo p0 p1)) (Qcu p0 p1 v8)):=by
 intro p0 p1;refine Qa8.partial_correctness p0 p1 _ ?_;intro Qa8' iQa8 v8 o1 h;refine TL.round (Qao mixed tbOk (lv:=Qfo) _ _ _ ?_);refine Qad h (fun hb h=>?_) (fun hb h=>?_)
 ·refine Qa2 (l:=p0) (c:=cStr) (c' := cStr) h (fun _=>rfl) (fun _=>rfl) (by decide) (fun x4 hi h=>?_);refine Qad h (fun hb h=>?_) (fun hb h=>?_)
  ·exact JP2.b h (Le.tz 0 0 rfl rfl rfl)
  ·refine TL.le (τ := Qcu p0 p1 (wr (v8+1))) ?_ ((iQa8 (wr (v8+1)) _ h));exact Le.tz 0 0 rfl rfl rfl
 ·exact JP2.a h (Le.tz 0 0 rfl rfl rfl)
def Qcy (p0:(List (List UInt8))) (p1:(List UInt8)):Option (Int) :=
 (Qa8 p0 p1 0)>>=fun o1 =>
 match o1 with
 | .inl y2 =>
  some (-1)
 | .inr y3 =>
  some y3
theorem Qlq:∀ (p0:(List (List UInt8))) (p1:(List UInt8)) (o:Int),Qcy p0 p1=some o→PCall Tryz.prog 74 [.sl false (p0.map cStr),sV p1] (Qcn o):=by
 intro p0 p1 o h;unfold Qcy at h;refine PCall.ofB mixed tbOk Qfo Tryz.func74 rfl (by kernel_rfl) (Nat.le_of_ble_eq_true rfl) ?_;refine view (Qat _ _) rfl ?_;refine Qai h (fun o1 ho hk=>?_);refine Exists.intro (JP2 _ _ o1 (.exit 0) (Qen p0 p1) .ret (Qeo p0 p1)) (And.intro (Qhe (τ := Qcu p0 p1 0) ?_ (TL.loop (Qwn p0 p1 0 o1 ho))) (Qf3 (fun y2 hy=>?_) (fun y3 hy=>?_)))
 ·exact Le.tz 0 0 rfl rfl rfl
 ·have h:=(by rw[hy] at hk; exact hk);refine Qam (t:=Qcn) h ?_;exact .refl _
 ·have h:=(by rw[hy] at hk; exact hk);refine Qam (t:=Qcn) h ?_;exact .refl _
def Qbf (p0:(List (List UInt8))) (p1:(List UInt8)):Option (Bool) :=
 Qcy p0 p1>>=fun x1 =>
 some (decide (x1 ≥ 0))
theorem Qep:∀ (p0:(List (List UInt8))) (p1:(List UInt8)) (o:Bool),Qbf p0 p1=some o→PCall Tryz.prog 41 [.sl false (p0.map cStr),sV p1] (Qb4 o):=by
 intro p0 p1 o h;unfold Qbf at h;refine PCall.ofB mixed tbOk Qjp Tryz.func41 rfl (by kernel_rfl) (Nat.le_of_ble_eq_true rfl) ?_;refine Qal [.sl false (p0.map cStr),sV p1] Qcn h (fun x1 hy=>(Qlq p0 p1 x1 hy)) (fun x1 hy h=>?_);refine Qam (t:=Qb4) h ?_;exact .refl _
def Qej (p0:(List Qae)) (x10:(List ((List UInt8)×(List (List UInt8))))) (v85:Int):Option (Unit⊕(List UInt8)) :=
 if(decide (v85<(p0.length:Int))) then
  idx p0 v85>>=fun x22 =>
  Qft ((mget (fun a b=>a==b) x22.Name x10).getD []) x10>>=fun x23 =>
  Qbf x23 x22.Name>>=fun x24 =>
  if x24 then
   some (.inr x22.Name)
  else
   Qej p0 x10 (wr (v85+1))
 else
  some (.inl ())
 partial_fixpoint
theorem Qagg:∀ (p0:(List Qae)) (x10:(List ((List UInt8)×(List (List UInt8))))),(∀ (v85:Int) (o19:Unit⊕(List UInt8)),Qej p0 x10 v85=some o19→TL (0,0) Tryz.prog 102 Qza (JP2 (0,0) 102 o19 (.exit 6) (Qo1 p0 x10) .ret (Qo2 p0 x10)) (Qka p0 x10 v85)):=by
 intro p0 x10;refine Qej.partial_correctness p0 x10 _ ?_;intro Qej' iQej v85 o19 h;refine TL.round (Qao mixed tbOk (lv:=Qhk) _ _ _ ?_);refine Qad h (fun hb h=>?_) (fun hb h=>?_)
 ·refine Qa2 (l:=p0) (c:=Qaf) (c' := Qaf) h (fun _=>rfl) (fun _=>rfl) (by decide) (fun x22 hi h=>?_);refine And.intro (by decide +kernel) (And.intro rfl ?_);refine And.intro rfl ?_;refine Qva (l:=x10) (k:=x22.Name) (fun a b=>a==b) (ck:=sV) (ca:=(fun x =>.sl false (x.map cStr))) (z0:=[]) (by exact rfl) (by exact rfl) (by exact rfl) (by exact fun _ _=>rfl) (by exact rfl) (by exact .not) ?_;refine Qpx (fun x23=>(Qi0 x23).ren [0] []) h (fun x23 hy=>(Qvn ((mget (fun a b=>a==b) x22.Name x10).getD []) x10 x23 hy).fd rfl rfl [0] rfl rfl) (fun x23 hy h=>?_);refine Qco [.sl false (x23.map cStr),sV x22.Name] Qb4 h (fun x24 hy=>(Qep x23 x22.Name x24 hy)) (fun x24 hy h=>?_);refine Qad h (fun hb h=>?_) (fun hb h=>?_)
  ·exact JP2.b h (Le.tz 2 0 rfl rfl rfl)
  ·refine TL.le (τ := Qka p0 x10 (wr (v85+1))) ?_ ((iQej (wr (v85+1)) _ h));exact Le.tz 2 0 rfl rfl rfl
 ·exact JP2.a h (Le.tz 2 0 rfl rfl rfl)
mutual
def Qdk (p0:(List Qab)) (h0_0:(List (List UInt8))):Option ((List (List UInt8))) :=
 (Qdy p0 0 h0_0)>>=fun o1 =>
 some o1
 partial_fixpoint
def Qdy (p0:(List Qab)) (v8:Int) (h0_0_:(List (List UInt8))):Option ((List (List UInt8))) :=
 if(decide (v8<(p0.length:Int))) then
  idx p0 v8>>=fun x2 =>
  ( if(x2.Kind==13) then
    appL 16 h0_0_ [x2.Name]>>=fun x4 =>
    some x4
   else
    some h0_0_:Option ((List (List UInt8))))>>=fun o3 =>
  Qdk x2.Then o3>>=fun x5 =>
  Qdk x2.Else x5>>=fun x6 =>
  Qdy p0 (wr (v8+1)) x6
 else
  some h0_0_
 partial_fixpoint
end
theorem Qze:(∀ (p0:(List Qab)) (h0_0:(List (List UInt8))) (o:(List (List UInt8))),Qdk p0 h0_0=some o→CallOK Tryz.prog 99 [.p (.sl false (p0.map Qaa)),.ptr 0 0,.ptr 1 0] ⟨[[.x 0 (h0_0.length+1) (.sl 9 1 (h0_0.map cStr))],[.fn (.func 99) [] [.ptr 0 0,.ptr 1 0]]],[(h0_0.length+1)]⟩ (Qoh o) ⟨[[.x 0 (o.length+1) (.sl 9 1 (o.map cStr))],[.fn (.func 99) [] [.ptr 0 0,.ptr 1 0]]],[(o.length+1)]⟩)∧(∀ (p0:(List Qab)) (v8:Int) (h0_0_:(List (List UInt8))) (o1:(List (List UInt8))),Qdy p0 v8 h0_0_=some o1→TL (2,1) Tryz.prog 29 Qxy (JP1 (2,1) 29 o1 (.exit 0) (Qnq p0)) (Qiz p0 v8 h0_0_)):=by
 refine Qdk.mutual_partial_correctness _ _ ?_ ?_
 ·intro Qdy' iQdy p0 h0_0 o h;refine CallOK.ofB mixed tbOk Qsh Tryz.func99 rfl (by kernel_rfl) (Nat.le_of_ble_eq_true rfl) rfl rfl rfl ?_;refine view (Qat _ _) rfl ?_;refine Qai h (fun o1 ho hk=>?_);refine Exists.intro (JP1 _ _ o1 (.exit 0) (Qnq p0)) (And.intro (Qhe (τ := Qiz p0 0 h0_0) ?_ (TL.loop (iQdy p0 0 h0_0 o1 ho))) (Qay ?_))
  ·exact Le.tz 2 1 rfl rfl rfl
  have h:=hk;refine Exists.intro _ (And.intro (Le.refl _ _ _) ?_);exact Qb3 (t:=Qoh) (ss:=fun o=>⟨[[.x 0 (o.length+1) (.sl 9 1 (o.map cStr))],[.fn (.func 99) [] [.ptr 0 0,.ptr 1 0]]],[(o.length+1)]⟩) h ⟨[0],rfl,.refl _,.refl _,rfl⟩
 ·intro Qdk' Qdy' iQdk iQdy p0 v8 h0_0_ o1 h;refine TL.round (Qao mixed tbOk (lv:=Qsh) _ _ _ ?_);refine Qad h (fun hb h=>?_) (fun hb h=>?_)
  ·refine Qa2 (l:=p0) (c:=Qaa) (c' := Qa0) h Qaq (fun _=>rfl) (by decide) (fun x2 hi h=>?_);refine Qai h (fun o3 ho hk=>?_);refine Exists.intro (JP1 _ _ o3 .normal (Qxx p0 v8 x2)) (And.intro ?_ (Qay ?_))
   ·have h:=ho;refine Qad h (fun hb h=>?_) (fun hb h=>?_)
    ·refine Qam0 (a:=h0_0_) (b:=[x2.Name]) (c:=cStr) h (.refl _) (fun _=>rfl) rfl rfl (Nat.zero_lt_succ _) (fun x4 hi h=>?_);exact JP1.a h (Le.tz 3 1 rfl rfl rfl)
    ·exact JP1.a h (Le.tz 3 1 rfl rfl rfl)
   ·have h:=hk;refine Qap _ _ h (fun x5 hy=>((iQdk x2.Then o3 x5 hy).fr [0,1] [0] rfl rfl rfl)) (fun x5 hy h=>?_);refine Qap _ _ h (fun x6 hy=>((iQdk x2.Else x5 x6 hy).fr [0,1] [0] rfl rfl rfl)) (fun x6 hy h=>?_);refine TL.le (τ := Qiz p0 (wr (v8+1)) x6) ?_ ((iQdy p0 (wr (v8+1)) x6 _ h));exact Le.tz 2 1 rfl rfl rfl
  ·exact JP1.a h (Le.tz 2 1 rfl rfl rfl)
theorem Q11:∀ (p0:(List Qab)) (h0_0:(List (List UInt8))) (o:(List (List UInt8))),Qdk p0 h0_0=some o→CallOK Tryz.prog 99 [.p (.sl false (p0.map Qaa)),.ptr 0 0,.ptr 1 0] ⟨[[.x 0 (h0_0.length+1) (.sl 9 1 (h0_0.map cStr))],[.fn (.func 99) [] [.ptr 0 0,.ptr 1 0]]],[(h0_0.length+1)]⟩ (Qoh o) ⟨[[.x 0 (o.length+1) (.sl 9 1 (o.map cStr))],[.fn (.func 99) [] [.ptr 0 0,.ptr 1 0]]],[(o.length+1)]⟩:=fun p0 h0_0=>Qze.1 p0 h0_0
def Qpb (p0:(List Qab)):Option ((List (List UInt8))) :=
 Qdk p0 []>>=fun x1 =>
 need (x1.length<4611686018427387904)>>=fun _ =>
 need ((srtL x1).length<4611686018427387904)>>=fun _ =>
 some (Lib.compact (srtL x1))
theorem Q8u:∀ (p0:(List Qab)) (o:(List (List UInt8))),Qpb p0=some o→CallOK Tryz.prog 73 [.p (.sl false (p0.map Qaa))] ⟨[],[]⟩ (Qsg o) ⟨[],[]⟩:=by
 intro p0 o h;unfold Qpb at h;refine CallOK.ofB mixed tbOk Q77 Tryz.func73 rfl (by kernel_rfl) (Nat.le_of_ble_eq_true rfl) rfl rfl rfl ?_;refine Exists.intro _ (And.intro (Le.xnil (.h 0 0) 9 1 rfl) ?_);refine Qap _ _ h (fun x1 hy=>((Q11 p0 [] x1 hy).fr [0,1] [0] rfl rfl rfl)) (fun x1 hy h=>?_);refine Qz4 h (fun hn0 h=>?_);refine Or.inl ?_;refine⟨rfl,rfl,_,false,x1,(srtL x1),_,rfl,rfl,Qan1  hn0 ,rfl,rfl,?_⟩;refine Qz4 h (fun hn0 h=>?_);refine Or.inl ?_;refine⟨rfl,rfl,_,true,(srtL x1),(Lib.compact (srtL x1)),_,rfl,rfl,Qaka  hn0 ,rfl,?_⟩;refine Exists.intro _ (And.intro (Le.trans (τ := ⟨[(2,.x 0 (((x1.length+1)+1)+1) (.sl 9 1 ((Lib.compact (srtL x1)).map cStr)))],⟨[],[(((x1.length+1)+1)+1)]⟩⟩) (Le.tz 0 1 rfl rfl rfl) (Le.trans (τ := ⟨[(2,.x 0 (((x1.length+1)+1)+1) (.sl 9 1 ((Lib.compact (srtL x1)).map cStr)))],⟨[],[(((x1.length+1)+1)+1)]⟩⟩) (Le.tz 0 1 rfl rfl rfl) ((Le.verh 2 0 (((x1.length+1)+1)+1) 1 rfl rfl rfl rfl).trans ((Le.frzv (.s 2) 0 1 rfl rfl rfl rfl).trans (Le.refl _ _ _))))) ?_);exact Qb3 (t:=Qsg) (ss:=fun o=>⟨[],[]⟩) h ⟨[],rfl,.refl _,.refl _,rfl⟩
def Qdl (p0:(List Qae)) (v12:Int) (h1_0:(List ((List UInt8)×(List (List UInt8))))):Option (((List ((List UInt8)×(List (List UInt8)))))) :=
 if(decide (v12<(p0.length:Int))) then
  idx p0 v12>>=fun x2 =>
  if(!((mget (fun a b=>a==b) x2.Name h1_0).isSome)) then
   Qpb x2.L>>=fun x3 =>
   Qdl p0 (wr (v12+1)) (mset (fun a b=>a==b) x2.Name x3 h1_0)
  else
   Qdl p0 (wr (v12+1)) h1_0
 else
  some h1_0
 partial_fixpoint
theorem Qagh:∀ (p0:(List Qae)),(∀ (v12:Int) (h1_0:(List ((List UInt8)×(List (List UInt8))))) (o1:((List ((List UInt8)×(List (List UInt8)))))),Qdl p0 v12 h1_0=some o1→TL (0,0) Tryz.prog 35 Qzb (JP1 (0,0) 35 o1 (.exit 0) (Qo3 p0)) (Qg5 p0 v12 h1_0)):=by
 intro p0;refine Qdl.partial_correctness p0 _ ?_;intro Qdl' iQdl v12 h1_0 o1 h;refine TL.round (Qao mixed tbOk (lv:=Quy) _ _ _ ?_);refine Qad h (fun hb h=>?_) (fun hb h=>?_)
 ·refine Qa2 (l:=p0) (c:=Qaf) (c' := Qaf) h (fun _=>rfl) (fun _=>rfl) (by decide) (fun x2 hi h=>?_);refine Qva (l:=h1_0) (k:=x2.Name) (fun a b=>a==b) (ck:=sV) (ca:=(fun x =>.sl false (x.map cStr))) (z0:=[]) (by exact rfl) (by exact rfl) (by exact rfl) (by exact fun _ _=>rfl) (by exact rfl) (by exact .not) ?_;refine Qad h (fun hb h=>?_) (fun hb h=>?_)
  ·refine And.intro (by decide +kernel) (And.intro (by decide +kernel) (And.intro rfl ?_));refine Qpx (fun x3=>(Qsg x3).ren [] []) h (fun x3 hy=>(Q8u x2.L x3 hy).fd rfl rfl [] rfl rfl) (fun x3 hy h=>?_);refine Qagb (l:=h1_0) (k:=x2.Name) (x:=x3) (fun a b=>a==b) (ck:=sV) (ca:=(fun x =>.sl false (x.map cStr))) (by exact rfl) (by exact rfl) (by exact rfl) (by exact .refl _) (by exact fun _ _=>rfl) ?_;refine TL.le (τ := Qg5 p0 (wr (v12+1)) (mset (fun a b=>a==b) x2.Name x3 h1_0)) ?_ ((iQdl (wr (v12+1)) (mset (fun a b=>a==b) x2.Name x3 h1_0) _ h));exact Le.tz 3 0 rfl rfl rfl
  ·refine TL.le (τ := Qg5 p0 (wr (v12+1)) h1_0) ?_ ((iQdl (wr (v12+1)) h1_0 _ h));exact Le.tz 3 0 rfl rfl rfl
 ·exact JP1.a h (Le.tz 3 0 rfl rfl rfl)
def Qnb (p0:(List Qae)):Option ((List ((List UInt8)×(List (List UInt8))))) :=
 (Qdl p0 0 [])>>=fun o1 =>
 some o1
theorem Q4e:∀ (p0:(List Qae)) (o:(List ((List UInt8)×(List (List UInt8))))),Qnb p0=some o→CallOK Tryz.prog 40 [.p (.sl false (p0.map Qaf))] ⟨[],[]⟩ (Qwh o) ⟨[[mpD sV (fun x =>.sl false (x.map cStr)) o]],[]⟩:=by
 intro p0 o h;unfold Qnb at h;refine CallOK.ofBN mixed tbOk Quy Tryz.func40 rfl (by kernel_rfl) (Nat.le_of_ble_eq_true rfl) rfl rfl (Nat.le_of_ble_eq_true rfl) ?_;refine And.intro rfl (Exists.intro false ?_);refine view (Qat _ _) rfl ?_;refine Qai h (fun o1 ho hk=>?_);refine Exists.intro (JP1 _ _ o1 (.exit 0) (Qo3 p0)) (And.intro (Qhe (τ := Qg5 p0 0 []) ?_ (TL.loop (Qagh p0 0 [] o1 ho))) (Qay ?_))
 ·exact Le.tz 3 0 rfl rfl rfl
 have h:=hk;refine Exists.intro _ (And.intro (Le.refl _ _ _) ?_);refine Q09 (t:=Qwh) (ss:=fun o=>⟨[[mpD sV (fun x =>.sl false (x.map cStr)) o]],[]⟩) h ?_;exact⟨[1],[],rfl,rfl,.refl _,.refl _,rfl,rfl⟩
def Qnc (p0:(List Qae)):Option ((List UInt8)×Int) :=
 if(decide ((p0.length:Int)>16)) then
  some ([],5)
 else
  (Qeg p0 0)>>=fun o1 =>
  match o1 with
  | .inl y2 =>
   Qnb p0>>=fun x10 =>
   (Qei p0 x10 0)>>=fun o11 =>
   match o11 with
   | .inl y12 =>
    (Qej p0 x10 0)>>=fun o19 =>
    match o19 with
    | .inl y20 =>
     some ([],0)
    | .inr y21 =>
     some (y21,10)
   | .inr y13 =>
    some (y13,4)
  | .inr y3 =>
   some (y3.1,y3.2)
theorem Q4f:∀ (p0:(List Qae)) (o:(List UInt8)×Int),Qnc p0=some o→PCall Tryz.prog 13 [.sl false (p0.map Qaf)] (Qe2 o):=by
 intro p0 o h;unfold Qnc at h;refine PCall.ofB mixed tbOk Qhk Tryz.func13 rfl (by kernel_rfl) (Nat.le_of_ble_eq_true rfl) ?_;refine view (Qat _ _) rfl ?_;refine Qad h (fun hb h=>?_) (fun hb h=>?_)
 ·refine Qam (t:=Qe2) h ?_;exact .refl _
 ·refine view (Qat _ _) rfl ?_;refine Qai h (fun o1 ho hk=>?_);refine Exists.intro (JP2 _ _ o1 (.exit 0) (Qov p0) .ret (Qow p0)) (And.intro (Qhe (τ := Qj7 p0 0) ?_ (TL.loop (Qagd p0 0 o1 ho))) (Qf3 (fun y2 hy=>?_) (fun y3 hy=>?_)))
  ·exact Le.tz 0 0 rfl rfl rfl
  ·have h:=(by rw[hy] at hk; exact hk);refine Qap _ _ h (fun x10 hy=>((Q4e p0 x10 hy).frN [] [] rfl rfl rfl)) (fun x10 hy h=>?_);refine view (Qat _ _) rfl ?_;refine Qai h (fun o11 ho hk=>?_);refine Exists.intro (JP2 _ _ o11 (.exit 2) (Qoz p0 x10) .ret (Qo0 p0 x10)) (And.intro (Qhe (τ := Qj9 p0 x10 0) ?_ (TL.loop (Qagf p0 x10 0 o11 ho))) (Qf3 (fun y12 hy=>?_) (fun y13 hy=>?_)))
   ·exact Le.tz 2 0 rfl rfl rfl
   ·have h:=(by rw[hy] at hk; exact hk);refine view (Qat _ _) rfl ?_;refine Qai h (fun o19 ho hk=>?_);refine Exists.intro (JP2 _ _ o19 (.exit 6) (Qo1 p0 x10) .ret (Qo2 p0 x10)) (And.intro (Qhe (τ := Qka p0 x10 0) ?_ (TL.loop (Qagg p0 x10 0 o19 ho))) (Qf3 (fun y20 hy=>?_) (fun y21 hy=>?_)))
    ·exact Le.tz 2 0 rfl rfl rfl
    ·have h:=(by rw[hy] at hk; exact hk);refine Qam (t:=Qe2) h ?_;exact .refl _
    ·have h:=(by rw[hy] at hk; exact hk);refine Qam (t:=Qe2) h ?_;exact .refl _
   ·have h:=(by rw[hy] at hk; exact hk);refine Qam (t:=Qe2) h ?_;exact .refl _
  ·have h:=(by rw[hy] at hk; exact hk);refine Qam (t:=Qe2) h ?_;exact .refl _
mutual
def Qbb (p0:(List Qab)) (p1:Int) (p2:Int):Option ((List Qab)×Int) :=
 (Qb7 p0 p1 p2 [] 0)>>=fun o1 =>
 some (o1.2,o1.1)
 partial_fixpoint
def Qb7 (p0:(List Qab)) (p1:Int) (v2:Int) (v8:(List Qab)) (v9:Int):Option ((Int×(List Qab))) :=
 ( if(decide (v9<(p0.length:Int))) then
   if(decide (v2>0)) then
    some (decide (p1>0))
   else
    some false
  else
   some false:Option (Bool))>>=fun o2 =>
 if o2 then
  idx p0 v9>>=fun x3 =>
  cutL x3.Name 0 (if 40<(x3.Name.length:Int) then 40 else(x3.Name.length:Int))>>=fun x4 =>
  cutL x3.Text 0 (if 60<(x3.Text.length:Int) then 60 else(x3.Text.length:Int))>>=fun x5 =>
  Qbb x3.L (wr (p1-1)) (wr (v2-1))>>=fun x6 =>
  Qbb x3.Then (wr (p1-1)) x6.2>>=fun x7 =>
  Qbb x3.Else (wr (p1-1)) x7.2>>=fun x8 =>
  appL 120 v8 [(Qab.mk x3.Kind x4 x5 x3.N x6.1 x7.1 x8.1)]>>=fun x9 =>
  Qb7 p0 p1 x8.2 x9 (wr (v9+1))
 else
  some (v2,v8)
 partial_fixpoint
end
theorem Qsw:(∀ (p0:(List Qab)) (p1:Int) (p2:Int) (o:(List Qab)×Int),Qbb p0 p1 p2=some o→PCall Tryz.prog 22 [.sl false (p0.map Qaa),iV p1,iV p2] (Qcj o))∧(∀ (p0:(List Qab)) (p1:Int) (v2:Int) (v8:(List Qab)) (v9:Int) (o1:(Int×(List Qab))),Qb7 p0 p1 v2 v8 v9=some o1→TL (0,0) Tryz.prog 88 Qrb (JP1 (0,0) 88 o1 (.exit 0) (Qi2 p0 p1)) (Qe4 p0 p1 v2 v8 v9)):=by
 refine Qbb.mutual_partial_correctness _ _ ?_ ?_
 ·intro Qb7' iQb7 p0 p1 p2 o h;refine PCall.ofB mixed tbOk Ql0 Tryz.func22 rfl (by kernel_rfl) (Nat.le_of_ble_eq_true rfl) ?_;refine Qai h (fun o1 ho hk=>?_);refine Exists.intro (JP1 _ _ o1 (.exit 0) (Qi2 p0 p1)) (And.intro (Qhe (τ := Qe4 p0 p1 p2 [] 0) ?_ (TL.loop (iQb7 p0 p1 p2 [] 0 o1 ho))) (Qay ?_))
  ·exact Le.trans (τ := ⟨[(0,.p (.sl false (p0.map Qaa))),(1,.p (iV p1)),(2,.p (iV p2)),(8,.p (.sl true [])),(9,.p (iV 0))],⟨[],[]⟩⟩) (Le.tz 0 0 rfl rfl rfl) ((Le.own 8 38 7 rfl Qxs).trans (Le.tz 0 1 rfl rfl rfl))
  have h:=hk;refine Qam (t:=Qcj) h ?_;exact .refl _
 ·intro Qbb' Qb7' iQbb iQb7 p0 p1 v2 v8 v9 o1 h;refine TL.round (Qao mixed tbOk (lv:=Ql0) _ _ _ ?_);refine Qai h (fun o2 ho hk=>?_);refine Exists.intro (JP1 _ _ o2 .normal (Qra p0 p1 v2 v8 v9)) (And.intro ?_ (Qay ?_))
  ·have h:=ho;refine view (Qat _ _) rfl ?_;refine Qad h (fun hb h=>?_) (fun hb h=>?_)
   ·refine Qad h (fun hb h=>?_) (fun hb h=>?_)
    ·exact JP1.a h (Le.tz 0 1 rfl rfl rfl)
    ·exact JP1.a h (Le.tz 0 1 rfl rfl rfl)
   ·refine bF ?_;exact JP1.a h (Le.tz 0 1 rfl rfl rfl)
  ·have h:=hk;refine Qad h (fun hb h=>?_) (fun hb h=>?_)
   ·refine Qa2 (l:=p0) (c:=Qaa) (c' := Qa0) h Qaq (fun _=>rfl) (by decide) (fun x3 hi h=>?_);refine And.intro (by decide +kernel) (And.intro rfl ?_);refine vrfl ?_;refine Qiw none (some (if 40<(x3.Name.length:Int) then 40 else(x3.Name.length:Int))) h (fun x4 hi h=>?_);refine vrfl ?_;refine Qiw none (some (if 60<(x3.Text.length:Int) then 60 else(x3.Text.length:Int))) h (fun x5 hi h=>?_);refine Qal [.sl false (x3.L.map Qaa),iV (wr (p1-1)),iV (wr (v2-1))] Qcj h (fun x6 hy=>(iQbb x3.L (wr (p1-1)) (wr (v2-1)) x6 hy)) (fun x6 hy h=>?_);refine Qal [.sl false (x3.Then.map Qaa),iV (wr (p1-1)),iV x6.2] Qcj h (fun x7 hy=>(iQbb x3.Then (wr (p1-1)) x6.2 x7 hy)) (fun x7 hy h=>?_);refine Qal [.sl false (x3.Else.map Qaa),iV (wr (p1-1)),iV x7.2] Qcj h (fun x8 hy=>(iQbb x3.Else (wr (p1-1)) x7.2 x8 hy)) (fun x8 hy h=>?_);refine Qix (a:=v8) (b:=[(Qab.mk x3.Kind x4 x5 x3.N x6.1 x7.1 x8.1)]) (c:=Qaa) h (.cons (.ceq (Qaq _) (.refl _)) (.nil)) (fun x=>by rw[Qaq]; rfl) rfl (fun x9 hi h=>?_);refine TL.le (τ := Qe4 p0 p1 x8.2 x9 (wr (v9+1))) ?_ ((iQb7 p0 p1 x8.2 x9 (wr (v9+1)) _ h));exact Le.tz 0 1 rfl rfl rfl
   ·exact JP1.a h (Le.tz 0 1 rfl rfl rfl)
theorem Qt5:∀ (p0:(List Qab)) (p1:Int) (p2:Int) (o:(List Qab)×Int),Qbb p0 p1 p2=some o→PCall Tryz.prog 22 [.sl false (p0.map Qaa),iV p1,iV p2] (Qcj o):=fun p0 p1 p2=>Qsw.1 p0 p1 p2
def Qcp (p0:(List Qae)) (p1:Int) (v5:(List Qae)) (v6:Int):Option ((List Qae)) :=
 ( if(decide (v6<(p0.length:Int))) then
   some (decide (v6<p1))
  else
   some false:Option (Bool))>>=fun o2 =>
 if o2 then
  idx p0 v6>>=fun x3 =>
  Qbb x3.L 14 40>>=fun x4 =>
  idx p0 v6>>=fun x5 =>
  idx p0 v6>>=fun x6 =>
  cutL x5.Name 0 (if 40<(x6.Name.length:Int) then 40 else(x6.Name.length:Int))>>=fun x7 =>
  appL 40 v5 [(Qae.mk x7 x4.1)]>>=fun x8 =>
  Qcp p0 p1 x8 (wr (v6+1))
 else
  some v5
 partial_fixpoint
theorem Q9p:∀ (p0:(List Qae)) (p1:Int),(∀ (v5:(List Qae)) (v6:Int) (o1:(List Qae)),Qcp p0 p1 v5 v6=some o1→TL (0,0) Tryz.prog 49 Qt1 (JP1 (0,0) 49 o1 (.exit 0) (Qk0 p0 p1)) (Qga p0 p1 v5 v6)):=by
 intro p0 p1;refine Qcp.partial_correctness p0 p1 _ ?_;intro Qcp' iQcp v5 v6 o1 h;refine TL.round (Qao mixed tbOk (lv:=Qnr) _ _ _ ?_);refine Qai h (fun o2 ho hk=>?_);refine Exists.intro (JP1 _ _ o2 .normal (Qt0 p0 p1 v5 v6)) (And.intro ?_ (Qay ?_))
 ·have h:=ho;refine view (Qat _ _) rfl ?_;refine Qad h (fun hb h=>?_) (fun hb h=>?_)
  ·exact JP1.a h (Le.tz 0 1 rfl rfl rfl)
  ·exact JP1.a h (Le.tz 0 1 rfl rfl rfl)
 ·have h:=hk;refine Qad h (fun hb h=>?_) (fun hb h=>?_)
  ·refine Qa2 (l:=p0) (c:=Qaf) (c' := Qaf) h (fun _=>rfl) (fun _=>rfl) (by decide) (fun x3 hi h=>?_);refine Qal [.sl false (x3.L.map Qaa),iV 14,iV 40] Qcj h (fun x4 hy=>(Qt5 x3.L 14 40 x4 hy)) (fun x4 hy h=>?_);refine And.intro (by decide +kernel) (And.intro rfl ?_);refine Qa2 (l:=p0) (c:=Qaf) (c' := Qaf) h (fun _=>rfl) (fun _=>rfl) (by decide) (fun x5 hi h=>?_);refine Qa2 (l:=p0) (c:=Qaf) (c' := Qaf) h (fun _=>rfl) (fun _=>rfl) (by decide) (fun x6 hi h=>?_);refine vrfl ?_;refine Qiw none (some (if 40<(x6.Name.length:Int) then 40 else(x6.Name.length:Int))) h (fun x7 hi h=>?_);refine Qix (a:=v5) (b:=[(Qae.mk x7 x4.1)]) (c:=Qaf) h (.refl _) (fun _=>rfl) rfl (fun x8 hi h=>?_);refine TL.le (τ := Qga p0 p1 x8 (wr (v6+1))) ?_ ((iQcp x8 (wr (v6+1)) _ h));exact Le.tz 0 1 rfl rfl rfl
  ·exact JP1.a h (Le.tz 0 1 rfl rfl rfl)
def Qgo (p0:(List Qae)) (p1:Int):Option ((List Qae)) :=
 (Qcp p0 p1 [] 0)>>=fun o1 =>
 some o1
theorem Qwo:∀ (p0:(List Qae)) (p1:Int) (o:(List Qae)),Qgo p0 p1=some o→PCall Tryz.prog 12 [.sl false (p0.map Qaf),iV p1] (Qkb o):=by
 intro p0 p1 o h;unfold Qgo at h;refine PCall.ofB mixed tbOk Qnr Tryz.func12 rfl (by kernel_rfl) (Nat.le_of_ble_eq_true rfl) ?_;refine Qai h (fun o1 ho hk=>?_);refine Exists.intro (JP1 _ _ o1 (.exit 0) (Qk0 p0 p1)) (And.intro (Qhe (τ := Qga p0 p1 [] 0) ?_ (TL.loop (Q9p p0 p1 [] 0 o1 ho))) (Qay ?_))
 ·exact Le.trans (τ := ⟨[(0,.p (.sl false (p0.map Qaf))),(1,.p (iV p1)),(5,.p (.sl true [])),(6,.p (iV 0))],⟨[],[]⟩⟩) (Le.tz 0 0 rfl rfl rfl) ((Le.own 5 56 2 rfl Qxs).trans (Le.tz 0 1 rfl rfl rfl))
 have h:=hk;refine Qam (t:=Qkb) h ?_;exact .refl _
end Go.Proofs.YtfgegilhjlnohaaGreat
end
