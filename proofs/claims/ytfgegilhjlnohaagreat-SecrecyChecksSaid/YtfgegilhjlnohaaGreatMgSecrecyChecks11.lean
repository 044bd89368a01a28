/- The proof's texts, part 11 of 13: the walks by a logic in which data are by value, the plain laws, and at the end the law, for every input. -/
import Derived.Test.YtfgegilhjlnohaaGreatMgSecrecyChecks10

noncomputable section
set_option linter.unusedVariables false
set_option linter.unusedSimpArgs false
set_option maxRecDepth 100000
set_option maxHeartbeats 4000000
namespace Go.Proofs.YtfgegilhjlnohaaGreat
open Go.RowKit
theorem Qzl:∀ (p0:(List Qae)) (p1:(List UInt8)) (o:Qa6×(List UInt8)×Int),Qp2 p0 p1=some o→PCall Tryz.prog 63 [.sl false (p0.map Qaf),sV p1] (Qil o):=by
 intro p0 p1 o h;unfold Qp2 at h;refine PCall.ofB mixed tbOk Qacp Tryz.func63 rfl (by kernel_rfl) (Nat.le_of_ble_eq_true rfl) ?_;refine Qan [.sl false (p0.map Qaf)] Qgm h (fun x1 hy=>(Qzf p0 x1 hy)) (fun x1 hy h=>?_);refine Qac h (fun hb h=>?_) (fun hb h=>?_)
 ·refine Qas (t:=Qil) h ?_;exact .refl _
 ·refine Qan [.sl false (p0.map Qaf),sV p1] Qe1 h (fun x2 hy=>(Qgr p0 p1 x2 hy)) (fun x2 hy h=>?_);refine Qac h (fun hb h=>?_) (fun hb h=>?_)
  ·refine Qas (t:=Qil) h ?_;exact .refl _
  ·refine Qan [.sl false (p0.map Qaf),sV p1,.sl false (x2.1.map Qaa),.sl true [[sV [103,114,111,117,112],iV 0,bV false]]] Qg5 h (fun x3 hy=>(Qacv p0 p1 x2.1 ([(Qah.mk [103,114,111,117,112] 0 false)]) x3 hy).weak (.cons (.refl _) (.cons (.refl _) (.cons (.refl _) (.cons (.not) (.nil)))))) (fun x3 hy h=>?_);refine Qac h (fun hb h=>?_) (fun hb h=>?_)
   ·refine Exists.intro (.op 0 (.op 1 (.op 2 (.op 3 (.op 4 (.op 5 (.nil) (.nil)) (.nil)) (.nil)) (.op 3 (.op 2 (.op 4 (.op 5 (.nil) (.nil)) (.nil)) (.nil)) (.nil))) (.op 3 (.op 1 (.op 2 (.op 4 (.op 5 (.nil) (.nil)) (.nil)) (.nil)) (.nil)) (.nil))) (.op 1 (.op 0 (.op 2 (.op 3 (.op 4 (.op 5 (.nil) (.nil)) (.nil)) (.nil)) (.op 3 (.op 2 (.op 4 (.op 5 (.nil) (.nil)) (.nil)) (.nil)) (.nil))) (.op 2 (.op 0 (.op 3 (.op 4 (.op 5 (.nil) (.nil)) (.nil)) (.nil)) (.nil)) (.nil))) (.nil)):PT) (Exists.intro _ (And.intro (by decide +kernel) (And.intro (And.intro (And.intro (And.intro (And.intro (And.intro (And.intro (rfl) (trivial)) (trivial)) (trivial)) (And.intro (And.intro (And.intro (And.intro (rfl) (trivial)) (trivial)) (trivial)) (trivial))) (And.intro (And.intro (And.intro (And.intro (And.intro (rfl) (trivial)) (trivial)) (trivial)) (trivial)) (trivial))) (And.intro (And.intro (And.intro (And.intro (And.intro (And.intro (rfl) (trivial)) (trivial)) (trivial)) (And.intro (And.intro (And.intro (And.intro (rfl) (trivial)) (trivial)) (trivial)) (trivial))) (And.intro (And.intro (And.intro (And.intro (And.intro (rfl) (trivial)) (trivial)) (trivial)) (trivial)) (trivial))) (trivial))) ?_)));refine Qas (t:=Qil) h ?_;exact .refl _
   ·refine Qas (t:=Qil) h ?_;exact .refl _
def Qtx (p0:(List Qae)) (p1:(List UInt8)):Option ((List UInt8)×Int) :=
 Qp2 p0 p1>>=fun x1 =>
 some (x1.2.1,x1.2.2)
theorem Qacw:∀ (p0:(List Qae)) (p1:(List UInt8)) (o:(List UInt8)×Int),Qtx p0 p1=some o→PCall Tryz.prog 28 [.sl false (p0.map Qaf),sV p1] (Qwe o):=by
 intro p0 p1 o h;unfold Qtx at h;refine PCall.ofB mixed tbOk Qacn Tryz.func28 rfl (by kernel_rfl) (Nat.le_of_ble_eq_true rfl) ?_;refine Qan [.sl false (p0.map Qaf),sV p1] Qil h (fun x1 hy=>(Qzl p0 p1 x1 hy)) (fun x1 hy h=>?_);refine Qas (t:=Qwe) h ?_;exact .refl _
def Qty (p0:(List Qae)) (p1:(List UInt8)):Option (Bool) :=
 Qp2 p0 p1>>=fun x1 =>
 ( if(x1.2.2==0) then
   some x1.1.Tells
  else
   some false:Option (Bool))>>=fun o2 =>
 some o2
theorem Qacx:∀ (p0:(List Qae)) (p1:(List UInt8)) (o:Bool),Qty p0 p1=some o→PCall Tryz.prog 30 [.sl false (p0.map Qaf),sV p1] (Qwf o):=by
 intro p0 p1 o h;unfold Qty at h;refine PCall.ofB mixed tbOk Qaco Tryz.func30 rfl (by kernel_rfl) (Nat.le_of_ble_eq_true rfl) ?_;refine Qan [.sl false (p0.map Qaf),sV p1] Qil h (fun x1 hy=>(Qzl p0 p1 x1 hy)) (fun x1 hy h=>?_);refine Qaj h (fun o2 ho hk=>?_);refine Exists.intro (JP1 _ _ o2 .normal (Q43 x1)) (And.intro ?_ (Qa4 ?_))
 ·have h:=ho;refine Qac h (fun hb h=>?_) (fun hb h=>?_)
  ·refine JP1.a h ?_;exact Le.tz 1 0 rfl rfl rfl
  ·refine JP1.a h ?_;exact Le.tz 1 0 rfl rfl rfl
 ·have h:=hk;refine Qas (t:=Qwf) h ?_;exact .refl _
def Qe7 (p0:(List Qae)) (p1:(List UInt8)):Option ((List Qae)×Bool) :=
 Qg2 p0 8>>=fun x1 =>
 Qpt x1>>=fun x2 =>
 if(x2.2 != 0) then
  some (x1,true)
 else
  Qhm x1 p1>>=fun x3 =>
  Qf5 x1 x3.1 3000>>=fun x4 =>
  some (x1,(decide (x4<3000)))
theorem Qu4:∀ (p0:(List Qae)) (p1:(List UInt8)) (o:(List Qae)×Bool),Qe7 p0 p1=some o→PCall Tryz.prog 26 [.sl false (p0.map Qaf),sV p1] (Qfr o):=by
 intro p0 p1 o h;unfold Qe7 at h;refine PCall.ofB mixed tbOk Qu1 Tryz.func26 rfl (by kernel_rfl) (Nat.le_of_ble_eq_true rfl) ?_;refine Qan [.sl false (p0.map Qaf),iV 8] Qkj h (fun x1 hy=>(Qxe p0 8 x1 hy)) (fun x1 hy h=>?_);refine Qan [.sl false (x1.map Qaf)] Qgm h (fun x2 hy=>(Qzf x1 x2 hy)) (fun x2 hy h=>?_);refine Qac h (fun hb h=>?_) (fun hb h=>?_)
 ·refine Qas (t:=Qfr) h ?_;exact .refl _
 ·refine Qan [.sl false (x1.map Qaf),sV p1] Qe1 h (fun x3 hy=>(Qgr x1 p1 x3 hy)) (fun x3 hy h=>?_);refine Qan [.sl false (x1.map Qaf),.sl false (x3.1.map Qaa),iV 3000] Qik h (fun x4 hy=>(Qacs x1 x3.1 3000 x4 hy)) (fun x4 hy h=>?_);refine Qas (t:=Qfr) h ?_;exact .refl _
def Qd8 (p0:(List UInt8)):Option ((List Qae)) :=
 Qp1 p0>>=fun x1 =>
 some ([(Qae.mk [109] x1.1)])
theorem Qjp:∀ (p0:(List UInt8)) (o:(List Qae)),Qd8 p0=some o→PCall Tryz.prog 59 [sV p0] (Qe4 o):=by
 intro p0 o h;unfold Qd8 at h;refine PCall.ofB mixed tbOk Qxp Tryz.func59 rfl (by kernel_rfl) (Nat.le_of_ble_eq_true rfl) ?_;refine Qan [sV p0] Qg3 h (fun x1 hy=>(Qacr p0 x1 hy)) (fun x1 hy h=>?_);refine Qas (t:=Qe4) h ?_;exact .p (.not)
def Qjq:Option (Unit) :=
 some ()
theorem Qxv:∀ (o:Unit),Qjq  = some o→PCall Tryz.prog 62 [] (Qkq o):=by
 intro o h;unfold Qjq at h;refine PCall.ofB mixed tbOk Qxq Tryz.func62 rfl (by kernel_rfl) (Nat.le_of_ble_eq_true rfl) ?_;refine Qas (t:=Qkq) h ?_;exact .refl _
def Qd9 (p0:Qab) (p1:(List Qah)) (v5:Int):Option (Unit⊕Bool) :=
 if(decide (v5 ≥ 0)) then
  idx p1 v5>>=fun x4 =>
  if(x4.Name==p0.Name) then
   idx p1 v5>>=fun x5 =>
   some (.inr x5.Secret)
  else
   Qd9 p0 p1 (wr (v5-1))
 else
  some (.inl ())
 partial_fixpoint
theorem Qaey:∀ (p0:Qab) (p1:(List Qah)),(∀ (v5:Int) (o1:Unit⊕Bool),Qd9 p0 p1 v5=some o1→TL (0,0) Tryz.prog 39 Qyo (JP2 (0,0) 39 o1 (.exit 1) (Qoe p0 p1) .ret (Qof p0 p1)) (Qjk p0 p1 v5)):=by
 intro p0 p1;refine Qd9.partial_correctness p0 p1 _ ?_;intro Qd9' iQd9 v5 o1 h;refine TL.round (Qar mixed tbOk (lv:=Qtu) _ _ _ ?_);refine Qac h (fun hb h=>?_) (fun hb h=>?_)
 ·refine And.intro (by decide +kernel) (And.intro rfl ?_);refine Qa8 (l:=p1) (c:=Qam) (c' := Qam) h (fun _=>rfl) (fun _=>rfl) (by decide) (fun x4 hi h=>?_);refine Qac h (fun hb h=>?_) (fun hb h=>?_)
  ·refine Qa8 (l:=p1) (c:=Qam) (c' := Qam) h (fun _=>rfl) (fun _=>rfl) (by decide) (fun x5 hi h=>?_);exact JP2.b h (Le.tz 2 0 rfl rfl rfl)
  ·refine TL.le (τ := Qjk p0 p1 (wr (v5-1))) ?_ ((iQd9 (wr (v5-1)) _ h));exact Le.tz 2 0 rfl rfl rfl
 ·exact JP2.a h (Le.tz 2 0 rfl rfl rfl)
mutual
def Qek (p0:Qab) (p1:(List Qah)):Option (Bool) :=
 if(p0.Kind==7) then
  some true
 else
  if(p0.Kind==4) then
   (Qd9 p0 p1 (wr ((p1.length:Int)-1)))>>=fun o1 =>
   match o1 with
   | .inl y2 =>
    some false
   | .inr y3 =>
    some y3
  else
   ( if(p0.Kind==5) then
     some (p0.Kind==5)
    else
     some (p0.Kind==6):Option (Bool))>>=fun o6 =>
   if o6 then
    Qa7 p0.L p1>>=fun x7 =>
    some x7
   else
    some false
 partial_fixpoint
def Qa7 (p0:(List Qab)) (h0_0:(List Qah)):Option (Bool) :=
 Qbk p0 h0_0>>=fun x1 =>
 some (decide (x1 ≥ 0))
 partial_fixpoint
def Qbk (p0:(List Qab)) (h0_0:(List Qah)):Option (Int) :=
 (Qav p0 h0_0 0)>>=fun o1 =>
 match o1 with
 | .inl y2 =>
  some (-1)
 | .inr y3 =>
  some y3
 partial_fixpoint
def Qav (p0:(List Qab)) (h0_0:(List Qah)) (v8:Int):Option (Unit⊕Int) :=
 if(decide (v8<(p0.length:Int))) then
  idx p0 v8>>=fun x4 =>
  Qo6 x4 h0_0>>=fun x5 =>
  if x5 then
   some (.inr v8)
  else
   Qav p0 h0_0 (wr (v8+1))
 else
  some (.inl ())
 partial_fixpoint
def Qo6 (p0:Qab) (h0_0:(List Qah)):Option (Bool) :=
 Qek p0 h0_0>>=fun x1 =>
 some x1
 partial_fixpoint
end
theorem Qz6:∀ (p1:(List Qah)),(∀ (p0:Qab) (o:Bool),Qek p0 p1=some o→PCall Tryz.prog 23 [.agg [iV p0.Kind,sV p0.Name,sV p0.Text,iV p0.N,.sl false (p0.L.map Qaa),.sl false (p0.Then.map Qaa),.sl false (p0.Else.map Qaa)],.sl false (p1.map Qam)] (Qcs o))∧(∀ (p0:(List Qab)) (o:Bool),Qa7 p0 p1=some o→CallOK Tryz.prog 56 [.p (.sl false (p0.map Qaa)),.fn (.func 57) [] [.ptr 0 0]] ⟨[[.p (.sl false (p1.map Qam))]],[]⟩ (Qbv o) ⟨[[.p (.sl false (p1.map Qam))]],[]⟩)∧(∀ (p0:(List Qab)) (o:Int),Qbk p0 p1=some o→CallOK Tryz.prog 83 [.p (.sl false (p0.map Qaa)),.fn (.func 57) [] [.ptr 0 0]] ⟨[[.p (.sl false (p1.map Qam))]],[]⟩ (Qbj o) ⟨[[.p (.sl false (p1.map Qam))]],[]⟩)∧(∀ (p0:(List Qab)) (v8:Int) (o1:Unit⊕Int),Qav p0 p1 v8=some o1→TL (1,0) Tryz.prog 19 Qdp (JP2 (1,0) 19 o1 (.exit 0) (Qbt p0 p1) .ret (Qbu p0 p1)) (Qbe p0 p1 v8))∧(∀ (p0:Qab) (o:Bool),Qo6 p0 p1=some o→CallOK Tryz.prog 57 [.p (.agg [iV p0.Kind,sV p0.Name,sV p0.Text,iV p0.N,.sl false (p0.L.map Qaa),.sl false (p0.Then.map Qaa),.sl false (p0.Else.map Qaa)]),.ptr 0 0] ⟨[[.p (.sl false (p1.map Qam))]],[]⟩ (Qrq o) ⟨[[.p (.sl false (p1.map Qam))]],[]⟩):=by
 intro p1;refine Qek.mutual_partial_correctness p1 _ _ _ _ _ ?_ ?_ ?_ ?_ ?_
 ·intro Qa7' iQa7 p0 o h;refine PCall.ofB mixed tbOk Qtu Tryz.func23 rfl (by kernel_rfl) (Nat.le_of_ble_eq_true rfl) ?_;refine Qac h (fun hb h=>?_) (fun hb h=>?_)
  ·refine Qas (t:=Qcs) h ?_;exact .refl _
  ·refine Qac h (fun hb h=>?_) (fun hb h=>?_)
   ·refine view (Qaw _ _) rfl ?_;refine Qaj h (fun o1 ho hk=>?_);refine Exists.intro (JP2 _ _ o1 (.exit 1) (Qoe p0 p1) .ret (Qof p0 p1)) (And.intro (Qhe (τ := Qjk p0 p1 (wr ((p1.length:Int)-1))) ?_ (TL.loop (Qaey p0 p1 (wr ((p1.length:Int)-1)) o1 ho))) (Qfg (fun y2 hy=>?_) (fun y3 hy=>?_)))
    ·exact Le.tz 2 0 rfl rfl rfl
    ·have h:=(by rw[hy] at hk; exact hk);refine Qas (t:=Qcs) h ?_;exact .refl _
    ·have h:=(by rw[hy] at hk; exact hk);refine Qas (t:=Qcs) h ?_;exact .refl _
   ·refine Qaj h (fun o6 ho hk=>?_);refine Exists.intro (JP1 _ _ o6 .normal (Qyp p0 p1)) (And.intro ?_ (Qa4 ?_))
    ·have h:=ho;refine Qac h (fun hb h=>?_) (fun hb h=>?_)
     ·refine JP1.a h ?_;exact Le.tz 2 0 rfl rfl rfl
     ·refine JP1.a h ?_;exact Le.tz 2 0 rfl rfl rfl
    ·have h:=hk;refine Qac h (fun hb h=>?_) (fun hb h=>?_)
     ·refine Qaq _ _ h (fun x7 hy=>((iQa7 p0.L x7 hy).fr [1] [] rfl rfl rfl)) (fun x7 hy h=>?_);refine Qas (t:=Qcs) h ?_;exact .refl _
     ·refine Qas (t:=Qcs) h ?_;exact .refl _
 ·intro Qbk' iQbk p0 o h;refine CallOK.ofB mixed tbOk Qdn Tryz.func56 rfl (by kernel_rfl) (Nat.le_of_ble_eq_true rfl) rfl rfl rfl ?_;refine Qaq _ _ h (fun x1 hy=>((iQbk p0 x1 hy).fr [0] [] rfl rfl rfl)) (fun x1 hy h=>?_);refine Exists.intro _ (And.intro (Le.refl _ _ _) ?_);exact Qbb (t:=Qbv) (ss:=fun o=>⟨[[.p (.sl false (p1.map Qam))]],[]⟩) h ⟨[],rfl,.refl _,.refl _,rfl⟩
 ·intro Qav' iQav p0 o h;refine CallOK.ofB mixed tbOk Qb2 Tryz.func83 rfl (by kernel_rfl) (Nat.le_of_ble_eq_true rfl) rfl rfl rfl ?_;refine view (Qaw _ _) rfl ?_;refine Qaj h (fun o1 ho hk=>?_);refine Exists.intro (JP2 _ _ o1 (.exit 0) (Qbt p0 p1) .ret (Qbu p0 p1)) (And.intro (Qhe (τ := Qbe p0 p1 0) ?_ (TL.loop (iQav p0 0 o1 ho))) (Qfg (fun y2 hy=>?_) (fun y3 hy=>?_)))
  ·exact Le.tz 1 0 rfl rfl rfl
  ·have h:=(by rw[hy] at hk; exact hk);refine Exists.intro _ (And.intro (Le.refl _ _ _) ?_);exact Qbb (t:=Qbj) (ss:=fun o=>⟨[[.p (.sl false (p1.map Qam))]],[]⟩) h ⟨[],rfl,.refl _,.refl _,rfl⟩
  ·have h:=(by rw[hy] at hk; exact hk);refine Exists.intro _ (And.intro (Le.refl _ _ _) ?_);exact Qbb (t:=Qbj) (ss:=fun o=>⟨[[.p (.sl false (p1.map Qam))]],[]⟩) h ⟨[],rfl,.refl _,.refl _,rfl⟩
 ·intro Qav' Qo6' iQav iQo6 p0 v8 o1 h;refine TL.round (Qar mixed tbOk (lv:=Qb2) _ _ _ ?_);refine Qac h (fun hb h=>?_) (fun hb h=>?_)
  ·refine Qa8 (l:=p0) (c:=Qaa) (c' := Qa2) h Qao (fun _=>rfl) (by decide) (fun x4 hi h=>?_);refine Qaq _ _ h (fun x5 hy=>((iQo6 x4 x5 hy).fr [0] [] rfl rfl rfl)) (fun x5 hy h=>?_);refine Qac h (fun hb h=>?_) (fun hb h=>?_)
   ·exact JP2.b h (Le.tz 1 0 rfl rfl rfl)
   ·refine TL.le (τ := Qbe p0 p1 (wr (v8+1))) ?_ ((iQav p0 (wr (v8+1)) _ h));exact Le.tz 1 0 rfl rfl rfl
  ·exact JP2.a h (Le.tz 1 0 rfl rfl rfl)
 ·intro Qek' iQek p0 o h;refine CallOK.ofB mixed tbOk Qyq Tryz.func57 rfl (by kernel_rfl) (Nat.le_of_ble_eq_true rfl) rfl rfl rfl ?_;refine Qan [.agg [iV p0.Kind,sV p0.Name,sV p0.Text,iV p0.N,.sl false (p0.L.map Qaa),.sl false (p0.Then.map Qaa),.sl false (p0.Else.map Qaa)],.sl false (p1.map Qam)] Qcs h (fun x1 hy=>(iQek p0 x1 hy)) (fun x1 hy h=>?_);refine Exists.intro _ (And.intro (Le.refl _ _ _) ?_);exact Qbb (t:=Qrq) (ss:=fun o=>⟨[[.p (.sl false (p1.map Qam))]],[]⟩) h ⟨[],rfl,.refl _,.refl _,rfl⟩
theorem Qtz:∀ (p0:Qab) (p1:(List Qah)) (o:Bool),Qek p0 p1=some o→PCall Tryz.prog 23 [.agg [iV p0.Kind,sV p0.Name,sV p0.Text,iV p0.N,.sl false (p0.L.map Qaa),.sl false (p0.Then.map Qaa),.sl false (p0.Else.map Qaa)],.sl false (p1.map Qam)] (Qcs o):=fun p0 p1=>(Qz6 p1).1 p0
def Qbr (p0:(List Qah)):Option ((List Qah)) :=
 appL 32 [] p0
theorem Qel:∀ (p0:(List Qah)) (o:(List Qah)),Qbr p0=some o→CallOK Tryz.prog 88 [.p (.sl false (p0.map Qam))] ⟨[],[]⟩ (Qc0 o) ⟨[],[1]⟩:=by
 intro p0 o h;unfold Qbr at h;have h:(appL 32 ([]:List Qah) p0>>=fun r=>some r)=some o:=by rw[h]; rfl
 refine CallOK.ofB mixed tbOk Qjm Tryz.func88 rfl (by kernel_rfl) (Nat.le_of_ble_eq_true rfl) rfl rfl rfl ?_;refine⟨rfl,rfl,rfl,fun b hb=>?_⟩;cases b with
 | true =>
  refine bT ?_;obtain rfl:=List.map_eq_nil_iff.1 (hb rfl);have h:some ([]:List Qah)=some o:=h;refine Exists.intro _ (And.intro (Le.xnil (.s 2) 46 3 rfl) ?_);exact Qbb (t:=Qc0) (ss:=fun o=>⟨[],[1]⟩) h ⟨[0],rfl,.refl _,.refl _,rfl⟩
 | false =>
  refine bF ?_;refine Qaga (a:=([]:List Qah)) (b:=p0) (c:=Qam) h (.refl _) (.refl _) (fun _=>rfl) (.inl rfl) (fun r hi h=>?_);refine Exists.intro _ (And.intro (Le.refl _ _ _) ?_);exact Qbb (t:=Qc0) (ss:=fun o=>⟨[],[1]⟩) h ⟨[0],rfl,.refl _,.refl _,rfl⟩
instance Q2y:Lean.Order.CCPO ((List UInt8)→Bool→(List (Qag×Int))→Option (((List UInt8)×Bool×(List (Qag×Int)))⊕((List UInt8)×Bool×(List (Qag×Int))))):=inferInstance
instance Q2z:Lean.Order.CCPO ((List Qab)→(List Qah)→Int→(List UInt8)→Bool→(List (Qag×Int))→Option (((List UInt8)×Bool×(List (Qag×Int)))⊕((List UInt8)×Bool×(List (Qag×Int))))):=inferInstance
mutual
def Qbf (p1:(List UInt8)) (p2:(List Qab)) (p3:(List Qah)) (h0_0:(List Qae)) (h0_2:(List UInt8)) (h0_3:Bool) (h1_0:(List (Qag×Int))):Option ((List UInt8)×Bool×(List (Qag×Int))) :=
 (Qbg p1 p2 p3 h0_0 0 h0_2 h0_3 h1_0)>>=fun o1 =>
 match o1 with
 | .inl y2 =>
  some (y2.1,y2.2.1,y2.2.2)
 | .inr y3 =>
  some (y3.1,y3.2.1,y3.2.2)
 partial_fixpoint
def Qbg (p1:(List UInt8)) (p2:(List Qab)) (p3:(List Qah)) (h0_0:(List Qae)) (v14:Int) (h0_2_:(List UInt8)) (h0_3_:Bool) (h1_0_:(List (Qag×Int))):Option (((List UInt8)×Bool×(List (Qag×Int)))⊕((List UInt8)×Bool×(List (Qag×Int)))) :=
 if(decide (v14<(p2.length:Int))) then
  idx p2 v14>>=fun x4 =>
  if h0_3_ then
   some (.inr (h0_2_,h0_3_,h1_0_))
  else
   if(x4.Kind==8) then
    Qbg p1 p2 p3 h0_0 (wr (v14+1)) h0_2_ h0_3_ h1_0_
   else
    idx x4.L 0>>=fun x5 =>
    Qek x5 p3>>=fun x6 =>
    Qbr p3>>=fun x7 =>
    ( if(x4.Kind==9) then
      if x6 then
       Qjq>>=fun x12 =>
       some (.inl x7)
      else
       some (.inl x7)
     else
      ( if(x4.Kind==10) then
        some (x4.Kind==10)
       else
        some (x4.Kind==11):Option (Bool))>>=fun o13 =>
      if o13 then
       if x6 then
        some (.inr (.inr ()))
       else
        if(x4.Kind==11) then
         appL 32 x7 [(Qah.mk x4.Name 0 false)]>>=fun x14 =>
         some (.inl x14)
        else
         some (.inl x7)
      else
       if(x4.Kind==12) then
        appL 32 x7 [(Qah.mk x4.Name 0 x6)]>>=fun x15 =>
        some (.inl x15)
       else
        if(x4.Kind==13) then
         Qem (Qag.mk x4.Name x6) h0_0 h0_2_ h0_3_ h1_0_>>=fun x16 =>
         some (.inr (.inl (x16.1,x16.2.1,x16.2.2)))
        else
         some (.inl x7):Option ((List Qah)⊕((List UInt8)×Bool×(List (Qag×Int)))⊕Unit))>>=fun o8 =>
    match o8 with
    | .inl y9 =>
     Qbf p1 x4.Then y9 h0_0 h0_2_ h0_3_ h1_0_>>=fun x17 =>
     Qbf p1 x4.Else p3 h0_0 x17.1 x17.2.1 x17.2.2>>=fun x18 =>
     Qbg p1 p2 p3 h0_0 (wr (v14+1)) x18.1 x18.2.1 x18.2.2
    | .inr (.inl y10) =>
     Qbg p1 p2 p3 h0_0 (wr (v14+1)) y10.1 y10.2.1 y10.2.2
    | .inr (.inr y11) =>
     some (.inr (p1,true,h1_0_))
 else
  some (.inl (h0_2_,h0_3_,h1_0_))
 partial_fixpoint
def Qem (p1:Qag) (h0_0:(List Qae)) (h0_2:(List UInt8)) (h0_3:Bool) (h1_0:(List (Qag×Int))):Option ((List UInt8)×Bool×(List (Qag×Int))) :=
 if(decide (((mget (fun(a b:Qag)=>(a.name_==b.name_&&(a.it_==b.it_&&true))) p1 h1_0).getD 0)>0)) then
  some (h0_2,h0_3,h1_0)
 else
  Qhn h0_0 p1.name_>>=fun x1 =>
  Qbf p1.name_ x1.1 ([(Qah.mk [103,114,111,117,112] 0 false),(Qah.mk [105,116] 0 p1.it_)]) h0_0 h0_2 h0_3 (mset (fun(a b:Qag)=>(a.name_==b.name_&&(a.it_==b.it_&&true))) p1 1 h1_0)>>=fun x2 =>
  some (x2.1,x2.2.1,x2.2.2)
 partial_fixpoint
end
theorem Qp3:∀ (h0_0:(List Qae)),(∀ (p1:(List UInt8)) (p2:(List Qab)) (p3:(List Qah)) (h0_2:(List UInt8)) (h0_3:Bool) (h1_0:(List (Qag×Int))) (o:(List UInt8)×Bool×(List (Qag×Int))),Qbf p1 p2 p3 h0_0 h0_2 h0_3 h1_0=some o→CallOK Tryz.prog 85 [.ptr 0 0,.p (sV p1),.p (.sl false (p2.map Qaa)),.p (.sl false (p3.map Qam))] ⟨[[.p (.sl false (h0_0.map Qaf)),.mh 1,.p (sV h0_2),.p (bV h0_3),.fn (.func 62) [] []],[mpD (fun x =>.agg (Qap x)) iV h1_0]],[]⟩ (Qee o) ⟨[[.p (.sl false (h0_0.map Qaf)),.mh 1,.p (sV o.1),.p (bV o.2.1),.fn (.func 62) [] []],[mpD (fun x =>.agg (Qap x)) iV o.2.2]],[]⟩)∧(∀ (p1:(List UInt8)) (p2:(List Qab)) (p3:(List Qah)) (v14:Int) (h0_2_:(List UInt8)) (h0_3_:Bool) (h1_0_:(List (Qag×Int))) (o1:((List UInt8)×Bool×(List (Qag×Int)))⊕((List UInt8)×Bool×(List (Qag×Int)))),Qbg p1 p2 p3 h0_0 v14 h0_2_ h0_3_ h1_0_=some o1→TL (2,0) Tryz.prog 93 Qo5 (JP2 (2,0) 93 o1 (.exit 0) (Qhs p1 p2 p3 h0_0) .ret (Qht p1 p2 p3 h0_0)) (Qcb p1 p2 p3 h0_0 v14 h0_2_ h0_3_ h1_0_))∧(∀ (p1:Qag) (h0_2:(List UInt8)) (h0_3:Bool) (h1_0:(List (Qag×Int))) (o:(List UInt8)×Bool×(List (Qag×Int))),Qem p1 h0_0 h0_2 h0_3 h1_0=some o→CallOK Tryz.prog 117 [.ptr 0 0,.p (.agg [sV p1.name_,bV p1.it_])] ⟨[[.p (.sl false (h0_0.map Qaf)),.mh 1,.p (sV h0_2),.p (bV h0_3),.fn (.func 62) [] []],[mpD (fun x =>.agg (Qap x)) iV h1_0]],[]⟩ (Qhx o) ⟨[[.p (.sl false (h0_0.map Qaf)),.mh 1,.p (sV o.1),.p (bV o.2.1),.fn (.func 62) [] []],[mpD (fun x =>.agg (Qap x)) iV o.2.2]],[]⟩):=by
 intro h0_0;refine Qbf.mutual_partial_correctness h0_0 _ _ _ ?_ ?_ ?_
 ·intro Qbg' iQbg p1 p2 p3 h0_2 h0_3 h1_0 o h;refine CallOK.ofB mixed tbOk Qjl Tryz.func85 rfl (by kernel_rfl) (Nat.le_of_ble_eq_true rfl) rfl rfl rfl ?_;refine view (Qaw _ _) rfl ?_;refine Qaj h (fun o1 ho hk=>?_);refine Exists.intro (JP2 _ _ o1 (.exit 0) (Qhs p1 p2 p3 h0_0) .ret (Qht p1 p2 p3 h0_0)) (And.intro (Qhe (τ := Qcb p1 p2 p3 h0_0 0 h0_2 h0_3 h1_0) ?_ (TL.loop (iQbg p1 p2 p3 0 h0_2 h0_3 h1_0 o1 ho))) (Qfg (fun y2 hy=>?_) (fun y3 hy=>?_)))
  ·exact Le.tz 2 0 rfl rfl rfl
  ·have h:=(by rw[hy] at hk; exact hk);refine Exists.intro _ (And.intro (Le.refl _ _ _) ?_);refine Qbb (t:=Qee) (ss:=fun o=>⟨[[.p (.sl false (h0_0.map Qaf)),.mh 1,.p (sV o.1),.p (bV o.2.1),.fn (.func 62) [] []],[mpD (fun x =>.agg (Qap x)) iV o.2.2]],[]⟩) h ?_;exact⟨[],rfl,.refl _,.refl _,rfl⟩
  ·have h:=(by rw[hy] at hk; exact hk);refine Exists.intro _ (And.intro (Le.refl _ _ _) ?_);refine Qbb (t:=Qee) (ss:=fun o=>⟨[[.p (.sl false (h0_0.map Qaf)),.mh 1,.p (sV o.1),.p (bV o.2.1),.fn (.func 62) [] []],[mpD (fun x =>.agg (Qap x)) iV o.2.2]],[]⟩) h ?_;exact⟨[],rfl,.refl _,.refl _,rfl⟩
 ·intro Qbf' Qbg' Qem' iQbf iQbg iQem p1 p2 p3 v14 h0_2_ h0_3_ h1_0_ o1 h;refine TL.round (Qar mixed tbOk (lv:=Qjl) _ _ _ ?_);refine Qac h (fun hb h=>?_) (fun hb h=>?_)
  ·refine Qa8 (l:=p2) (c:=Qaa) (c' := Qa2) h Qao (fun _=>rfl) (by decide) (fun x4 hi h=>?_);refine Qac h (fun hb h=>?_) (fun hb h=>?_)
   ·exact JP2.b h (Le.trans (τ := ⟨[],⟨[[.p (.sl false (h0_0.map Qaf)),.mh 1,.p (sV h0_2_),.p (bV h0_3_),.fn (.func 62) [] []],[mpD (fun x =>.agg (Qap x)) iV h1_0_],[.p (iV x4.Kind),.p (sV x4.Name),.p (sV x4.Text),.p (iV x4.N),.p (.sl false (x4.L.map Qaa)),.p (.sl false (x4.Then.map Qaa)),.p (.sl false (x4.Else.map Qaa))]],[]⟩⟩) (Le.weak (.nil) (.refl _) rfl) (Le.tz 2 0 rfl rfl rfl))
   ·refine Qac h (fun hb h=>?_) (fun hb h=>?_)
    ·refine TL.le (τ := Qcb p1 p2 p3 h0_0 (wr (v14+1)) h0_2_ h0_3_ h1_0_) ?_ ((iQbg p1 p2 p3 (wr (v14+1)) h0_2_ h0_3_ h1_0_ _ h));exact Le.tz 2 0 rfl rfl rfl
    ·refine Qa8 (l:=x4.L) (c:=Qaa) (c' := Qa2) h Qao (fun _=>rfl) (by decide) (fun x5 hi h=>?_);refine Qan [.agg [iV x5.Kind,sV x5.Name,sV x5.Text,iV x5.N,.sl false (x5.L.map Qaa),.sl false (x5.Then.map Qaa),.sl false (x5.Else.map Qaa)],.sl false (p3.map Qam)] Qcs h (fun x6 hy=>(Qtz x5 p3 x6 hy)) (fun x6 hy h=>?_);refine Qaq _ _ h (fun x7 hy=>((Qel p3 x7 hy).fr [] [] rfl rfl rfl)) (fun x7 hy h=>?_);refine Qaj h (fun o8 ho hk=>?_);refine Exists.intro (JP3 _ _ o8 .normal (Qo1 p1 p2 p3 h0_0 v14 h0_2_ h0_3_ h1_0_ x4) (.exit 1) (Qo2 p1 p2 p3 h0_0 v14 h0_2_ h0_3_ h1_0_ x4) .ret (Qo3 p1 p2 p3 h0_0 v14 h0_2_ h0_3_ h1_0_ x4)) (And.intro ?_ (Qapv (fun y9 hy=>?_) (fun y10 hy=>?_) (fun y11 hy=>?_)))
     ·have h:=ho;refine Qac h (fun hb h=>?_) (fun hb h=>?_)
      ·refine Qac h (fun hb h=>?_) (fun hb h=>?_)
       ·refine Qan [] Qkq h (fun x12 hy=>(Qxv x12 hy)) (fun x12 hy h=>?_);refine JP3.a h ?_;exact Le.tz 3 1 rfl rfl rfl
       ·refine JP3.a h ?_;exact Le.tz 3 1 rfl rfl rfl
      ·refine Qaj h (fun o13 ho hk=>?_);refine Exists.intro (JP1 _ _ o13 .normal (Qo4 p1 p2 p3 h0_0 v14 h0_2_ h0_3_ h1_0_ x4 x6 x7)) (And.intro ?_ (Qa4 ?_))
       ·have h:=ho;refine Qac h (fun hb h=>?_) (fun hb h=>?_)
        ·refine JP1.a h ?_;exact Le.tz 3 1 rfl rfl rfl
        ·refine JP1.a h ?_;exact Le.tz 3 1 rfl rfl rfl
       ·have h:=hk;refine Qac h (fun hb h=>?_) (fun hb h=>?_)
        ·refine Qac h (fun hb h=>?_) (fun hb h=>?_)
         ·refine JP3.c h ?_;exact Le.tz 3 1 rfl rfl rfl
         ·refine Qac h (fun hb h=>?_) (fun hb h=>?_)
          ·refine Qvx (a:=x7) (b:=[(Qah.mk x4.Name 0 false)]) (c:=Qam) h (.refl _) (fun _=>rfl) rfl (fun x14 hi h=>?_);refine JP3.a h ?_;exact Le.trans (τ := ⟨[(0,.ptr 0 0),(1,.p (sV p1)),(3,.p (.sl false (p3.map Qam))),(9,.ptr 2 0),(11,.x 0 2 (.sl 46 3 (x14.map Qam))),(12,.p (.sl false (p2.map Qaa))),(13,.p (iV (p2.length:Int))),(14,.p (iV v14))],⟨[[.p (.sl false (h0_0.map Qaf)),.mh 1,.p (sV h0_2_),.p (bV h0_3_),.fn (.func 62) [] []],[mpD (fun x =>.agg (Qap x)) iV h1_0_],[.p (iV x4.Kind),.p (sV x4.Name),.p (sV x4.Text),.p (iV x4.N),.p (.sl false (x4.L.map Qaa)),.p (.sl false (x4.Then.map Qaa)),.p (.sl false (x4.Else.map Qaa))]],[2]⟩⟩) (Le.tz 3 1 rfl rfl rfl) ((Le.ver (.s 11) 0 2 1 rfl rfl rfl rfl).trans (Le.tz 3 1 rfl rfl rfl))
          ·refine JP3.a h ?_;exact Le.tz 3 1 rfl rfl rfl
        ·refine Qac h (fun hb h=>?_) (fun hb h=>?_)
         ·refine Qvx (a:=x7) (b:=[(Qah.mk x4.Name 0 x6)]) (c:=Qam) h (.refl _) (fun _=>rfl) rfl (fun x15 hi h=>?_);refine JP3.a h ?_;exact Le.trans (τ := ⟨[(0,.ptr 0 0),(1,.p (sV p1)),(3,.p (.sl false (p3.map Qam))),(9,.ptr 2 0),(11,.x 0 2 (.sl 46 3 (x15.map Qam))),(12,.p (.sl false (p2.map Qaa))),(13,.p (iV (p2.length:Int))),(14,.p (iV v14))],⟨[[.p (.sl false (h0_0.map Qaf)),.mh 1,.p (sV h0_2_),.p (bV h0_3_),.fn (.func 62) [] []],[mpD (fun x =>.agg (Qap x)) iV h1_0_],[.p (iV x4.Kind),.p (sV x4.Name),.p (sV x4.Text),.p (iV x4.N),.p (.sl false (x4.L.map Qaa)),.p (.sl false (x4.Then.map Qaa)),.p (.sl false (x4.Else.map Qaa))]],[2]⟩⟩) (Le.tz 3 1 rfl rfl rfl) ((Le.ver (.s 11) 0 2 1 rfl rfl rfl rfl).trans (Le.tz 3 1 rfl rfl rfl))
         ·refine Qac h (fun hb h=>?_) (fun hb h=>?_)
          ·refine Qaq _ _ h (fun x16 hy=>((iQem (Qag.mk x4.Name x6) h0_2_ h0_3_ h1_0_ x16 hy).fr [0,1] [] rfl rfl rfl)) (fun x16 hy h=>?_);refine JP3.b h ?_;exact Le.tz 3 1 rfl rfl rfl
          ·refine JP3.a h ?_;exact Le.tz 3 1 rfl rfl rfl
     ·have h:=(by rw[hy] at hk; exact hk);refine Exists.intro _ (And.intro (Le.frzv (.s 11) 0 1 rfl rfl rfl rfl) ?_);refine Qaq _ _ h (fun x17 hy=>((iQbf p1 x4.Then y9 h0_2_ h0_3_ h1_0_ x17 hy).fr [0,1] [] rfl rfl rfl)) (fun x17 hy h=>?_);refine Qaq _ _ h (fun x18 hy=>((iQbf p1 x4.Else p3 x17.1 x17.2.1 x17.2.2 x18 hy).fr [0,1] [] rfl rfl rfl)) (fun x18 hy h=>?_);refine TL.le (τ := Qcb p1 p2 p3 h0_0 (wr (v14+1)) x18.1 x18.2.1 x18.2.2) ?_ ((iQbg p1 p2 p3 (wr (v14+1)) x18.1 x18.2.1 x18.2.2 _ h));exact Le.tz 2 0 rfl rfl rfl
     ·have h:=(by rw[hy] at hk; exact hk);refine TL.le (τ := Qcb p1 p2 p3 h0_0 (wr (v14+1)) y10.1 y10.2.1 y10.2.2) ?_ ((iQbg p1 p2 p3 (wr (v14+1)) y10.1 y10.2.1 y10.2.2 _ h));exact Le.tz 2 0 rfl rfl rfl
     ·have h:=(by rw[hy] at hk; exact hk);exact JP2.b h (Le.tz 2 0 rfl rfl rfl)
  ·exact JP2.a h (Le.tz 2 0 rfl rfl rfl)
 ·intro Qbf' iQbf p1 h0_2 h0_3 h1_0 o h;refine CallOK.ofB mixed tbOk Qtv Tryz.func117 rfl (by kernel_rfl) (Nat.le_of_ble_eq_true rfl) rfl rfl rfl ?_;refine And.intro (by decide +kernel) (And.intro rfl ?_);refine And.intro rfl ?_;refine Qse (l:=h1_0) (k:=p1) (fun(a b:Qag)=>(a.name_==b.name_&&(a.it_==b.it_&&true))) (ck:=(fun x =>.agg (Qap x))) (ca:=iV) (z0:=0) (by exact rfl) (by exact rfl) (by exact rfl) (by exact fun _ _=>rfl) (by exact rfl) (by exact .refl _) ?_;refine Qac h (fun hb h=>?_) (fun hb h=>?_)
  ·refine Exists.intro _ (And.intro (Le.refl _ _ _) ?_);refine Qbb (t:=Qhx) (ss:=fun o=>⟨[[.p (.sl false (h0_0.map Qaf)),.mh 1,.p (sV o.1),.p (bV o.2.1),.fn (.func 62) [] []],[mpD (fun x =>.agg (Qap x)) iV o.2.2]],[]⟩) h ?_;exact⟨[],rfl,.refl _,.refl _,rfl⟩
  ·refine And.intro (by decide +kernel) (And.intro (by decide +kernel) (And.intro rfl ?_));refine Qabm (l:=h1_0) (k:=p1) (x:=1) (fun(a b:Qag)=>(a.name_==b.name_&&(a.it_==b.it_&&true))) (ck:=(fun x =>.agg (Qap x))) (ca:=iV) (by exact rfl) (by exact rfl) (by exact rfl) (by exact .refl _) (by exact fun _ _=>rfl) ?_;refine And.intro (by decide +kernel) (And.intro rfl ?_);refine Qdk [.sl false (h0_0.map Qaf),sV p1.name_] Qfb h (fun x1 hy=>(Qje h0_0 p1.name_ x1 hy)) (fun x1 hy h=>?_);refine Qaq _ _ h (fun x2 hy=>((iQbf p1.name_ x1.1 ([(Qah.mk [103,114,111,117,112] 0 false),(Qah.mk [105,116] 0 p1.it_)]) h0_2 h0_3 (mset (fun(a b:Qag)=>(a.name_==b.name_&&(a.it_==b.it_&&true))) p1 1 h1_0) x2 hy).fr [0,1] [] rfl rfl rfl).weakC (.cons (.refl _) (.cons (.refl _) (.cons (.refl _) (.cons (.p (.not)) (.nil)))))) (fun x2 hy h=>?_);refine Exists.intro _ (And.intro (Le.refl _ _ _) ?_);refine Qbb (t:=Qhx) (ss:=fun o=>⟨[[.p (.sl false (h0_0.map Qaf)),.mh 1,.p (sV o.1),.p (bV o.2.1),.fn (.func 62) [] []],[mpD (fun x =>.agg (Qap x)) iV o.2.2]],[]⟩) h ?_;exact⟨[],rfl,.refl _,.refl _,rfl⟩
theorem Qqz:∀ (p1:(List UInt8)) (p2:(List Qab)) (p3:(List Qah)) (h0_0:(List Qae)) (h0_2:(List UInt8)) (h0_3:Bool) (h1_0:(List (Qag×Int))) (o:(List UInt8)×Bool×(List (Qag×Int))),Qbf p1 p2 p3 h0_0 h0_2 h0_3 h1_0=some o→CallOK Tryz.prog 85 [.ptr 0 0,.p (sV p1),.p (.sl false (p2.map Qaa)),.p (.sl false (p3.map Qam))] ⟨[[.p (.sl false (h0_0.map Qaf)),.mh 1,.p (sV h0_2),.p (bV h0_3),.fn (.func 62) [] []],[mpD (fun x =>.agg (Qap x)) iV h1_0]],[]⟩ (Qee o) ⟨[[.p (.sl false (h0_0.map Qaf)),.mh 1,.p (sV o.1),.p (bV o.2.1),.fn (.func 62) [] []],[mpD (fun x =>.agg (Qap x)) iV o.2.2]],[]⟩:=fun p1 p2 p3 h0_0 h0_2 h0_3 h1_0=>(Qp3 h0_0).1 p1 p2 p3 h0_2 h0_3 h1_0
def Qcq (p0:(List Qae)) (p1:(List UInt8)):Option ((List UInt8)×Int) :=
 Qkn p0>>=fun x1 =>
 if(x1.2 != 0) then
  some (x1.1,x1.2)
 else
  Qhn p0 p1>>=fun x2 =>
  if(!x2.2) then
   some ([],4)
  else
   Qbf p1 x2.1 ([(Qah.mk [103,114,111,117,112] 0 false)]) p0 [] false []>>=fun x3 =>
   if x3.2.1 then
    some (x3.1,205)
   else
    some ([],0)
theorem Qkz:∀ (p0:(List Qae)) (p1:(List UInt8)) (o:(List UInt8)×Int),Qcq p0 p1=some o→CallOK Tryz.prog 61 [.p (.sl false (p0.map Qaf)),.p (sV p1),.fn (.func 62) [] []] ⟨[],[]⟩ (Qbp o) ⟨[],[]⟩:=by
 intro p0 p1 o h;unfold Qcq at h;refine CallOK.ofB mixed tbOk Qkr Tryz.func61 rfl (by kernel_rfl) (Nat.le_of_ble_eq_true rfl) rfl rfl rfl ?_;refine Qan [.sl false (p0.map Qaf)] Qeh h (fun x1 hy=>(Qvp p0 x1 hy)) (fun x1 hy h=>?_);refine Qac h (fun hb h=>?_) (fun hb h=>?_)
 ·refine Exists.intro _ (And.intro (Le.refl _ _ _) ?_);exact Qbb (t:=Qbp) (ss:=fun o=>⟨[],[]⟩) h ⟨[],rfl,.refl _,.refl _,rfl⟩
 ·refine Qan [.sl false (p0.map Qaf),sV p1] Qfb h (fun x2 hy=>(Qje p0 p1 x2 hy)) (fun x2 hy h=>?_);refine Qac h (fun hb h=>?_) (fun hb h=>?_)
  ·refine Exists.intro _ (And.intro (Le.refl _ _ _) ?_);exact Qbb (t:=Qbp) (ss:=fun o=>⟨[],[]⟩) h ⟨[],rfl,.refl _,.refl _,rfl⟩
  ·refine And.intro rfl (Exists.intro false ?_);refine Qaq _ _ h (fun x3 hy=>((Qqz p1 x2.1 ([(Qah.mk [103,114,111,117,112] 0 false)]) p0 [] false [] x3 hy).fr [1,0] [] rfl rfl rfl).weakC (.cons (.refl _) (.cons (.refl _) (.cons (.refl _) (.cons (.p (.not)) (.nil)))))) (fun x3 hy h=>?_);refine Qac h (fun hb h=>?_) (fun hb h=>?_)
   ·refine Exists.intro _ (And.intro (Le.refl _ _ _) ?_);exact Qbb (t:=Qbp) (ss:=fun o=>⟨[],[]⟩) h ⟨[],rfl,.refl _,.refl _,rfl⟩
   ·refine Exists.intro _ (And.intro (Le.refl _ _ _) ?_);exact Qbb (t:=Qbp) (ss:=fun o=>⟨[],[]⟩) h ⟨[],rfl,.refl _,.refl _,rfl⟩
def Qen (p0:(List Qae)) (p1:(List UInt8)):Option ((List UInt8)×Int) :=
 Qcq p0 p1>>=fun x1 =>
 some (x1.1,x1.2)
theorem Qic:∀ (p0:(List Qae)) (p1:(List UInt8)) (o:(List UInt8)×Int),Qen p0 p1=some o→PCall Tryz.prog 27 [.sl false (p0.map Qaf),sV p1] (Qe5 o):=by
 intro p0 p1 o h;unfold Qen at h;refine PCall.ofB mixed tbOk Qz4 Tryz.func27 rfl (by kernel_rfl) (Nat.le_of_ble_eq_true rfl) ?_;refine Qaq _ _ h (fun x1 hy=>((Qkz p0 p1 x1 hy).fr [] [] rfl rfl rfl)) (fun x1 hy h=>?_);refine Qas (t:=Qe5) h ?_;exact .refl _
def Qe8 (h0_0:Int):Option (Int) :=
 some (wr (h0_0+1))
theorem Qxw:∀ (h0_0:Int) (o:Int),Qe8 h0_0=some o→CallOK Tryz.prog 64 [.ptr 0 0] ⟨[[.p (iV h0_0)]],[]⟩ (Qp0 o) ⟨[[.p (iV o)]],[]⟩:=by
 intro h0_0 o h;unfold Qe8 at h;refine CallOK.ofB mixed tbOk Qxs Tryz.func64 rfl (by kernel_rfl) (Nat.le_of_ble_eq_true rfl) rfl rfl rfl ?_;refine Exists.intro _ (And.intro (Le.refl _ _ _) ?_);exact Qbb (t:=Qp0) (ss:=fun o=>⟨[[.p (iV o)]],[]⟩) h ⟨[],rfl,.refl _,.refl _,rfl⟩
instance Q3c:Lean.Order.CCPO (Bool→(List (Qag×Int))→Int→Option ((List UInt8)×Bool×(List (Qag×Int))×Int)):=inferInstance
instance Q3d:Lean.Order.CCPO ((List Qab)→(List Qah)→(List UInt8)→Bool→(List (Qag×Int))→Int→Option ((List UInt8)×Bool×(List (Qag×Int))×Int)):=inferInstance
instance Qz7:Lean.Order.CCPO (Bool→(List (Qag×Int))→Int→Option (((List UInt8)×Bool×(List (Qag×Int))×Int)⊕((List UInt8)×Bool×(List (Qag×Int))×Int))):=inferInstance
instance Qz8:Lean.Order.CCPO ((List Qah)→Int→(List UInt8)→Bool→(List (Qag×Int))→Int→Option (((List UInt8)×Bool×(List (Qag×Int))×Int)⊕((List UInt8)×Bool×(List (Qag×Int))×Int))):=inferInstance
mutual
def Qa0 (p1:(List UInt8)) (p2:(List Qab)) (p3:(List Qah)) (h0_0:(List Qae)) (h0_2:(List UInt8)) (h0_3:Bool) (h1_0:(List (Qag×Int))) (h2_0:Int):Option ((List UInt8)×Bool×(List (Qag×Int))×Int) :=
 (Qax p1 p2 p3 h0_0 0 h0_2 h0_3 h1_0 h2_0)>>=fun o1 =>
 match o1 with
 | .inl y2 =>
  some (y2.1,y2.2.1,y2.2.2.1,y2.2.2.2)
 | .inr y3 =>
  some (y3.1,y3.2.1,y3.2.2.1,y3.2.2.2)
 partial_fixpoint
def Qax (p1:(List UInt8)) (p2:(List Qab)) (p3:(List Qah)) (h0_0:(List Qae)) (v14:Int) (h0_2_:(List UInt8)) (h0_3_:Bool) (h1_0_:(List (Qag×Int))) (h2_0_:Int):Option (((List UInt8)×Bool×(List (Qag×Int))×Int)⊕((List UInt8)×Bool×(List (Qag×Int))×Int)) :=
 if(decide (v14<(p2.length:Int))) then
  idx p2 v14>>=fun x4 =>
  if h0_3_ then
   some (.inr (h0_2_,h0_3_,h1_0_,h2_0_))
  else
   if(x4.Kind==8) then
    Qax p1 p2 p3 h0_0 (wr (v14+1)) h0_2_ h0_3_ h1_0_ h2_0_
   else
    idx x4.L 0>>=fun x5 =>
    Qek x5 p3>>=fun x6 =>
    Qbr p3>>=fun x7 =>
    ( if(x4.Kind==9) then
      if x6 then
       Qe8 h2_0_>>=fun x12 =>
       some (.inl (x7,x12))
      else
       some (.inl (x7,h2_0_))
     else
      ( if(x4.Kind==10) then
        some (x4.Kind==10)
       else
        some (x4.Kind==11):Option (Bool))>>=fun o13 =>
      if o13 then
       if x6 then
        some (.inr (.inr ()))
       else
        if(x4.Kind==11) then
         appL 32 x7 [(Qah.mk x4.Name 0 false)]>>=fun x14 =>
         some (.inl (x14,h2_0_))
        else
         some (.inl (x7,h2_0_))
      else
       if(x4.Kind==12) then
        appL 32 x7 [(Qah.mk x4.Name 0 x6)]>>=fun x15 =>
        some (.inl (x15,h2_0_))
       else
        if(x4.Kind==13) then
         Qcd (Qag.mk x4.Name x6) h0_0 h0_2_ h0_3_ h1_0_ h2_0_>>=fun x16 =>
         some (.inr (.inl (x16.1,x16.2.1,x16.2.2.1,x16.2.2.2)))
        else
         some (.inl (x7,h2_0_)):Option (((List Qah)×Int)⊕((List UInt8)×Bool×(List (Qag×Int))×Int)⊕Unit))>>=fun o8 =>
    match o8 with
    | .inl y9 =>
     Qa0 p1 x4.Then y9.1 h0_0 h0_2_ h0_3_ h1_0_ y9.2>>=fun x17 =>
     Qa0 p1 x4.Else p3 h0_0 x17.1 x17.2.1 x17.2.2.1 x17.2.2.2>>=fun x18 =>
     Qax p1 p2 p3 h0_0 (wr (v14+1)) x18.1 x18.2.1 x18.2.2.1 x18.2.2.2
    | .inr (.inl y10) =>
     Qax p1 p2 p3 h0_0 (wr (v14+1)) y10.1 y10.2.1 y10.2.2.1 y10.2.2.2
    | .inr (.inr y11) =>
     some (.inr (p1,true,h1_0_,h2_0_))
 else
  some (.inl (h0_2_,h0_3_,h1_0_,h2_0_))
 partial_fixpoint
def Qcd (p1:Qag) (h0_0:(List Qae)) (h0_2:(List UInt8)) (h0_3:Bool) (h1_0:(List (Qag×Int))) (h2_0:Int):Option ((List UInt8)×Bool×(List (Qag×Int))×Int) :=
 if(decide (((mget (fun(a b:Qag)=>(a.name_==b.name_&&(a.it_==b.it_&&true))) p1 h1_0).getD 0)>0)) then
  some (h0_2,h0_3,h1_0,h2_0)
 else
  Qhn h0_0 p1.name_>>=fun x1 =>
  Qa0 p1.name_ x1.1 ([(Qah.mk [103,114,111,117,112] 0 false),(Qah.mk [105,116] 0 p1.it_)]) h0_0 h0_2 h0_3 (mset (fun(a b:Qag)=>(a.name_==b.name_&&(a.it_==b.it_&&true))) p1 1 h1_0) h2_0>>=fun x2 =>
  some (x2.1,x2.2.1,x2.2.2.1,x2.2.2.2)
 partial_fixpoint
end
theorem Qnv:∀ (h0_0:(List Qae)),(∀ (p1:(List UInt8)) (p2:(List Qab)) (p3:(List Qah)) (h0_2:(List UInt8)) (h0_3:Bool) (h1_0:(List (Qag×Int))) (h2_0:Int) (o:(List UInt8)×Bool×(List (Qag×Int))×Int),Qa0 p1 p2 p3 h0_0 h0_2 h0_3 h1_0 h2_0=some o→CallOK Tryz.prog 85 [.ptr 0 0,.p (sV p1),.p (.sl false (p2.map Qaa)),.p (.sl false (p3.map Qam))] ⟨[[.p (.sl false (h0_0.map Qaf)),.mh 1,.p (sV h0_2),.p (bV h0_3),.fn (.func 64) [] [.ptr 2 0]],[mpD (fun x =>.agg (Qap x)) iV h1_0],[.p (iV h2_0)]],[]⟩ (Qdl o) ⟨[[.p (.sl false (h0_0.map Qaf)),.mh 1,.p (sV o.1),.p (bV o.2.1),.fn (.func 64) [] [.ptr 2 0]],[mpD (fun x =>.agg (Qap x)) iV o.2.2.1],[.p (iV o.2.2.2)]],[]⟩)∧(∀ (p1:(List UInt8)) (p2:(List Qab)) (p3:(List Qah)) (v14:Int) (h0_2_:(List UInt8)) (h0_3_:Bool) (h1_0_:(List (Qag×Int))) (h2_0_:Int) (o1:((List UInt8)×Bool×(List (Qag×Int))×Int)⊕((List UInt8)×Bool×(List (Qag×Int))×Int)),Qax p1 p2 p3 h0_0 v14 h0_2_ h0_3_ h1_0_ h2_0_=some o1→TL (3,0) Tryz.prog 93 Qnu (JP2 (3,0) 93 o1 (.exit 0) (Qge p1 p2 p3 h0_0) .ret (Qgf p1 p2 p3 h0_0)) (Qby p1 p2 p3 h0_0 v14 h0_2_ h0_3_ h1_0_ h2_0_))∧(∀ (p1:Qag) (h0_2:(List UInt8)) (h0_3:Bool) (h1_0:(List (Qag×Int))) (h2_0:Int) (o:(List UInt8)×Bool×(List (Qag×Int))×Int),Qcd p1 h0_0 h0_2 h0_3 h1_0 h2_0=some o→CallOK Tryz.prog 117 [.ptr 0 0,.p (.agg [sV p1.name_,bV p1.it_])] ⟨[[.p (.sl false (h0_0.map Qaf)),.mh 1,.p (sV h0_2),.p (bV h0_3),.fn (.func 64) [] [.ptr 2 0]],[mpD (fun x =>.agg (Qap x)) iV h1_0],[.p (iV h2_0)]],[]⟩ (Qgb o) ⟨[[.p (.sl false (h0_0.map Qaf)),.mh 1,.p (sV o.1),.p (bV o.2.1),.fn (.func 64) [] [.ptr 2 0]],[mpD (fun x =>.agg (Qap x)) iV o.2.2.1],[.p (iV o.2.2.2)]],[]⟩):=by
 intro h0_0;refine Qa0.mutual_partial_correctness h0_0 _ _ _ ?_ ?_ ?_
 ·intro Qax' iQax p1 p2 p3 h0_2 h0_3 h1_0 h2_0 o h;refine CallOK.ofB mixed tbOk Qh1 Tryz.func85 rfl (by kernel_rfl) (Nat.le_of_ble_eq_true rfl) rfl rfl rfl ?_;refine view (Qaw _ _) rfl ?_;refine Qaj h (fun o1 ho hk=>?_);refine Exists.intro (JP2 _ _ o1 (.exit 0) (Qge p1 p2 p3 h0_0) .ret (Qgf p1 p2 p3 h0_0)) (And.intro (Qhe (τ := Qby p1 p2 p3 h0_0 0 h0_2 h0_3 h1_0 h2_0) ?_ (TL.loop (iQax p1 p2 p3 0 h0_2 h0_3 h1_0 h2_0 o1 ho))) (Qfg (fun y2 hy=>?_) (fun y3 hy=>?_)))
  ·exact Le.tz 3 0 rfl rfl rfl
  ·have h:=(by rw[hy] at hk; exact hk);refine Exists.intro _ (And.intro (Le.refl _ _ _) ?_);refine Qbb (t:=Qdl) (ss:=fun o=>⟨[[.p (.sl false (h0_0.map Qaf)),.mh 1,.p (sV o.1),.p (bV o.2.1),.fn (.func 64) [] [.ptr 2 0]],[mpD (fun x =>.agg (Qap x)) iV o.2.2.1],[.p (iV o.2.2.2)]],[]⟩) h ?_;exact⟨[],rfl,.refl _,.refl _,rfl⟩
  ·have h:=(by rw[hy] at hk; exact hk);refine Exists.intro _ (And.intro (Le.refl _ _ _) ?_);refine Qbb (t:=Qdl) (ss:=fun o=>⟨[[.p (.sl false (h0_0.map Qaf)),.mh 1,.p (sV o.1),.p (bV o.2.1),.fn (.func 64) [] [.ptr 2 0]],[mpD (fun x =>.agg (Qap x)) iV o.2.2.1],[.p (iV o.2.2.2)]],[]⟩) h ?_;exact⟨[],rfl,.refl _,.refl _,rfl⟩
 ·intro Qa0' Qax' Qcd' iQa0 iQax iQcd p1 p2 p3 v14 h0_2_ h0_3_ h1_0_ h2_0_ o1 h;refine TL.round (Qar mixed tbOk (lv:=Qh1) _ _ _ ?_);refine Qac h (fun hb h=>?_) (fun hb h=>?_)
  ·refine Qa8 (l:=p2) (c:=Qaa) (c' := Qa2) h Qao (fun _=>rfl) (by decide) (fun x4 hi h=>?_);refine Qac h (fun hb h=>?_) (fun hb h=>?_)
   ·exact JP2.b h (Le.trans (τ := ⟨[],⟨[[.p (.sl false (h0_0.map Qaf)),.mh 1,.p (sV h0_2_),.p (bV h0_3_),.fn (.func 64) [] [.ptr 2 0]],[mpD (fun x =>.agg (Qap x)) iV h1_0_],[.p (iV h2_0_)],[.p (iV x4.Kind),.p (sV x4.Name),.p (sV x4.Text),.p (iV x4.N),.p (.sl false (x4.L.map Qaa)),.p (.sl false (x4.Then.map Qaa)),.p (.sl false (x4.Else.map Qaa))]],[]⟩⟩) (Le.weak (.nil) (.refl _) rfl) (Le.tz 3 0 rfl rfl rfl))
   ·refine Qac h (fun hb h=>?_) (fun hb h=>?_)
    ·refine TL.le (τ := Qby p1 p2 p3 h0_0 (wr (v14+1)) h0_2_ h0_3_ h1_0_ h2_0_) ?_ ((iQax p1 p2 p3 (wr (v14+1)) h0_2_ h0_3_ h1_0_ h2_0_ _ h));exact Le.tz 3 0 rfl rfl rfl
    ·refine Qa8 (l:=x4.L) (c:=Qaa) (c' := Qa2) h Qao (fun _=>rfl) (by decide) (fun x5 hi h=>?_);refine Qan [.agg [iV x5.Kind,sV x5.Name,sV x5.Text,iV x5.N,.sl false (x5.L.map Qaa),.sl false (x5.Then.map Qaa),.sl false (x5.Else.map Qaa)],.sl false (p3.map Qam)] Qcs h (fun x6 hy=>(Qtz x5 p3 x6 hy)) (fun x6 hy h=>?_);refine Qaq _ _ h (fun x7 hy=>((Qel p3 x7 hy).fr [] [] rfl rfl rfl)) (fun x7 hy h=>?_);refine Qaj h (fun o8 ho hk=>?_);refine Exists.intro (JP3 _ _ o8 .normal (Qnq p1 p2 p3 h0_0 v14 h0_2_ h0_3_ h1_0_ h2_0_ x4) (.exit 1) (Qnr p1 p2 p3 h0_0 v14 h0_2_ h0_3_ h1_0_ h2_0_ x4) .ret (Qns p1 p2 p3 h0_0 v14 h0_2_ h0_3_ h1_0_ h2_0_ x4)) (And.intro ?_ (Qapv (fun y9 hy=>?_) (fun y10 hy=>?_) (fun y11 hy=>?_)))
     ·have h:=ho;refine Qac h (fun hb h=>?_) (fun hb h=>?_)
      ·refine Qac h (fun hb h=>?_) (fun hb h=>?_)
       ·refine Qaq _ _ h (fun x12 hy=>((Qxw h2_0_ x12 hy).fr [2] [] rfl rfl rfl)) (fun x12 hy h=>?_);refine JP3.a h ?_;exact Le.tz 4 1 rfl rfl rfl
       ·refine JP3.a h ?_;exact Le.tz 4 1 rfl rfl rfl
      ·refine Qaj h (fun o13 ho hk=>?_);refine Exists.intro (JP1 _ _ o13 .normal (Qnt p1 p2 p3 h0_0 v14 h0_2_ h0_3_ h1_0_ h2_0_ x4 x6 x7)) (And.intro ?_ (Qa4 ?_))
       ·have h:=ho;refine Qac h (fun hb h=>?_) (fun hb h=>?_)
        ·refine JP1.a h ?_;exact Le.tz 4 1 rfl rfl rfl
        ·refine JP1.a h ?_;exact Le.tz 4 1 rfl rfl rfl
       ·have h:=hk;refine Qac h (fun hb h=>?_) (fun hb h=>?_)
        ·refine Qac h (fun hb h=>?_) (fun hb h=>?_)
         ·refine JP3.c h ?_;exact Le.tz 4 1 rfl rfl rfl
         ·refine Qac h (fun hb h=>?_) (fun hb h=>?_)
          ·refine Qvx (a:=x7) (b:=[(Qah.mk x4.Name 0 false)]) (c:=Qam) h (.refl _) (fun _=>rfl) rfl (fun x14 hi h=>?_);refine JP3.a h ?_;exact Le.trans (τ := ⟨[(0,.ptr 0 0),(1,.p (sV p1)),(3,.p (.sl false (p3.map Qam))),(9,.ptr 3 0),(11,.x 0 2 (.sl 46 3 (x14.map Qam))),(12,.p (.sl false (p2.map Qaa))),(13,.p (iV (p2.length:Int))),(14,.p (iV v14))],⟨[[.p (.sl false (h0_0.map Qaf)),.mh 1,.p (sV h0_2_),.p (bV h0_3_),.fn (.func 64) [] [.ptr 2 0]],[mpD (fun x =>.agg (Qap x)) iV h1_0_],[.p (iV h2_0_)],[.p (iV x4.Kind),.p (sV x4.Name),.p (sV x4.Text),.p (iV x4.N),.p (.sl false (x4.L.map Qaa)),.p (.sl false (x4.Then.map Qaa)),.p (.sl false (x4.Else.map Qaa))]],[2]⟩⟩) (Le.tz 4 1 rfl rfl rfl) ((Le.ver (.s 11) 0 2 1 rfl rfl rfl rfl).trans (Le.tz 4 1 rfl rfl rfl))
          ·refine JP3.a h ?_;exact Le.tz 4 1 rfl rfl rfl
        ·refine Qac h (fun hb h=>?_) (fun hb h=>?_)
         ·refine Qvx (a:=x7) (b:=[(Qah.mk x4.Name 0 x6)]) (c:=Qam) h (.refl _) (fun _=>rfl) rfl (fun x15 hi h=>?_);refine JP3.a h ?_;exact Le.trans (τ := ⟨[(0,.ptr 0 0),(1,.p (sV p1)),(3,.p (.sl false (p3.map Qam))),(9,.ptr 3 0),(11,.x 0 2 (.sl 46 3 (x15.map Qam))),(12,.p (.sl false (p2.map Qaa))),(13,.p (iV (p2.length:Int))),(14,.p (iV v14))],⟨[[.p (.sl false (h0_0.map Qaf)),.mh 1,.p (sV h0_2_),.p (bV h0_3_),.fn (.func 64) [] [.ptr 2 0]],[mpD (fun x =>.agg (Qap x)) iV h1_0_],[.p (iV h2_0_)],[.p (iV x4.Kind),.p (sV x4.Name),.p (sV x4.Text),.p (iV x4.N),.p (.sl false (x4.L.map Qaa)),.p (.sl false (x4.Then.map Qaa)),.p (.sl false (x4.Else.map Qaa))]],[2]⟩⟩) (Le.tz 4 1 rfl rfl rfl) ((Le.ver (.s 11) 0 2 1 rfl rfl rfl rfl).trans (Le.tz 4 1 rfl rfl rfl))
         ·refine Qac h (fun hb h=>?_) (fun hb h=>?_)
          ·refine Qaq _ _ h (fun x16 hy=>((iQcd (Qag.mk x4.Name x6) h0_2_ h0_3_ h1_0_ h2_0_ x16 hy).fr [0,1,2] [] rfl rfl rfl)) (fun x16 hy h=>?_);refine JP3.b h ?_;exact Le.tz 4 1 rfl rfl rfl
          ·refine JP3.a h ?_;exact Le.tz 4 1 rfl rfl rfl
     ·have h:=(by rw[hy] at hk; exact hk);refine Exists.intro _ (And.intro (Le.frzv (.s 11) 0 1 rfl rfl rfl rfl) ?_);refine Qaq _ _ h (fun x17 hy=>((iQa0 p1 x4.Then y9.1 h0_2_ h0_3_ h1_0_ y9.2 x17 hy).fr [0,1,2] [] rfl rfl rfl)) (fun x17 hy h=>?_);refine Qaq _ _ h (fun x18 hy=>((iQa0 p1 x4.Else p3 x17.1 x17.2.1 x17.2.2.1 x17.2.2.2 x18 hy).fr [0,1,2] [] rfl rfl rfl)) (fun x18 hy h=>?_);refine TL.le (τ := Qby p1 p2 p3 h0_0 (wr (v14+1)) x18.1 x18.2.1 x18.2.2.1 x18.2.2.2) ?_ ((iQax p1 p2 p3 (wr (v14+1)) x18.1 x18.2.1 x18.2.2.1 x18.2.2.2 _ h));exact Le.tz 3 0 rfl rfl rfl
     ·have h:=(by rw[hy] at hk; exact hk);refine TL.le (τ := Qby p1 p2 p3 h0_0 (wr (v14+1)) y10.1 y10.2.1 y10.2.2.1 y10.2.2.2) ?_ ((iQax p1 p2 p3 (wr (v14+1)) y10.1 y10.2.1 y10.2.2.1 y10.2.2.2 _ h));exact Le.tz 3 0 rfl rfl rfl
     ·have h:=(by rw[hy] at hk; exact hk);exact JP2.b h (Le.tz 3 0 rfl rfl rfl)
  ·exact JP2.a h (Le.tz 3 0 rfl rfl rfl)
 ·intro Qa0' iQa0 p1 h0_2 h0_3 h1_0 h2_0 o h;refine CallOK.ofB mixed tbOk Qqx Tryz.func117 rfl (by kernel_rfl) (Nat.le_of_ble_eq_true rfl) rfl rfl rfl ?_;refine And.intro (by decide +kernel) (And.intro rfl ?_);refine And.intro rfl ?_;refine Qse (l:=h1_0) (k:=p1) (fun(a b:Qag)=>(a.name_==b.name_&&(a.it_==b.it_&&true))) (ck:=(fun x =>.agg (Qap x))) (ca:=iV) (z0:=0) (by exact rfl) (by exact rfl) (by exact rfl) (by exact fun _ _=>rfl) (by exact rfl) (by exact .refl _) ?_;refine Qac h (fun hb h=>?_) (fun hb h=>?_)
  ·refine Exists.intro _ (And.intro (Le.refl _ _ _) ?_);refine Qbb (t:=Qgb) (ss:=fun o=>⟨[[.p (.sl false (h0_0.map Qaf)),.mh 1,.p (sV o.1),.p (bV o.2.1),.fn (.func 64) [] [.ptr 2 0]],[mpD (fun x =>.agg (Qap x)) iV o.2.2.1],[.p (iV o.2.2.2)]],[]⟩) h ?_;exact⟨[],rfl,.refl _,.refl _,rfl⟩
  ·refine And.intro (by decide +kernel) (And.intro (by decide +kernel) (And.intro rfl ?_));refine Qabm (l:=h1_0) (k:=p1) (x:=1) (fun(a b:Qag)=>(a.name_==b.name_&&(a.it_==b.it_&&true))) (ck:=(fun x =>.agg (Qap x))) (ca:=iV) (by exact rfl) (by exact rfl) (by exact rfl) (by exact .refl _) (by exact fun _ _=>rfl) ?_;refine And.intro (by decide +kernel) (And.intro rfl ?_);refine Qdk [.sl false (h0_0.map Qaf),sV p1.name_] Qfb h (fun x1 hy=>(Qje h0_0 p1.name_ x1 hy)) (fun x1 hy h=>?_);refine Qaq _ _ h (fun x2 hy=>((iQa0 p1.name_ x1.1 ([(Qah.mk [103,114,111,117,112] 0 false),(Qah.mk [105,116] 0 p1.it_)]) h0_2 h0_3 (mset (fun(a b:Qag)=>(a.name_==b.name_&&(a.it_==b.it_&&true))) p1 1 h1_0) h2_0 x2 hy).fr [0,1,2] [] rfl rfl rfl).weakC (.cons (.refl _) (.cons (.refl _) (.cons (.refl _) (.cons (.p (.not)) (.nil)))))) (fun x2 hy h=>?_);refine Exists.intro _ (And.intro (Le.refl _ _ _) ?_);refine Qbb (t:=Qgb) (ss:=fun o=>⟨[[.p (.sl false (h0_0.map Qaf)),.mh 1,.p (sV o.1),.p (bV o.2.1),.fn (.func 64) [] [.ptr 2 0]],[mpD (fun x =>.agg (Qap x)) iV o.2.2.1],[.p (iV o.2.2.2)]],[]⟩) h ?_;exact⟨[],rfl,.refl _,.refl _,rfl⟩
theorem Qo7:∀ (p1:(List UInt8)) (p2:(List Qab)) (p3:(List Qah)) (h0_0:(List Qae)) (h0_2:(List UInt8)) (h0_3:Bool) (h1_0:(List (Qag×Int))) (h2_0:Int) (o:(List UInt8)×Bool×(List (Qag×Int))×Int),Qa0 p1 p2 p3 h0_0 h0_2 h0_3 h1_0 h2_0=some o→CallOK Tryz.prog 85 [.ptr 0 0,.p (sV p1),.p (.sl false (p2.map Qaa)),.p (.sl false (p3.map Qam))] ⟨[[.p (.sl false (h0_0.map Qaf)),.mh 1,.p (sV h0_2),.p (bV h0_3),.fn (.func 64) [] [.ptr 2 0]],[mpD (fun x =>.agg (Qap x)) iV h1_0],[.p (iV h2_0)]],[]⟩ (Qdl o) ⟨[[.p (.sl false (h0_0.map Qaf)),.mh 1,.p (sV o.1),.p (bV o.2.1),.fn (.func 64) [] [.ptr 2 0]],[mpD (fun x =>.agg (Qap x)) iV o.2.2.1],[.p (iV o.2.2.2)]],[]⟩:=fun p1 p2 p3 h0_0 h0_2 h0_3 h1_0 h2_0=>(Qnv h0_0).1 p1 p2 p3 h0_2 h0_3 h1_0 h2_0
def Qcr (p0:(List Qae)) (p1:(List UInt8)) (h0_0:Int):Option ((List UInt8)×Int×Int) :=
 Qkn p0>>=fun x1 =>
 if(x1.2 != 0) then
  some (x1.1,x1.2,h0_0)
 else
  Qhn p0 p1>>=fun x2 =>
  if(!x2.2) then
   some ([],4,h0_0)
  else
   Qa0 p1 x2.1 ([(Qah.mk [103,114,111,117,112] 0 false)]) p0 [] false [] h0_0>>=fun x3 =>
   if x3.2.1 then
    some (x3.1,205,x3.2.2.2)
   else
    some ([],0,x3.2.2.2)
theorem Qk0:∀ (p0:(List Qae)) (p1:(List UInt8)) (h0_0:Int) (o:(List UInt8)×Int×Int),Qcr p0 p1 h0_0=some o→CallOK Tryz.prog 61 [.p (.sl false (p0.map Qaf)),.p (sV p1),.fn (.func 64) [] [.ptr 0 0]] ⟨[[.p (iV h0_0)]],[]⟩ (Qbq o) ⟨[[.p (iV o.2.2)]],[]⟩:=by
 intro p0 p1 h0_0 o h;unfold Qcr at h;refine CallOK.ofB mixed tbOk Qks Tryz.func61 rfl (by kernel_rfl) (Nat.le_of_ble_eq_true rfl) rfl rfl rfl ?_;refine Qan [.sl false (p0.map Qaf)] Qeh h (fun x1 hy=>(Qvp p0 x1 hy)) (fun x1 hy h=>?_);refine Qac h (fun hb h=>?_) (fun hb h=>?_)
 ·refine Exists.intro _ (And.intro (Le.refl _ _ _) ?_);exact Qbb (t:=Qbq) (ss:=fun o=>⟨[[.p (iV o.2.2)]],[]⟩) h ⟨[],rfl,.refl _,.refl _,rfl⟩
 ·refine Qan [.sl false (p0.map Qaf),sV p1] Qfb h (fun x2 hy=>(Qje p0 p1 x2 hy)) (fun x2 hy h=>?_);refine Qac h (fun hb h=>?_) (fun hb h=>?_)
  ·refine Exists.intro _ (And.intro (Le.refl _ _ _) ?_);exact Qbb (t:=Qbq) (ss:=fun o=>⟨[[.p (iV o.2.2)]],[]⟩) h ⟨[],rfl,.refl _,.refl _,rfl⟩
  ·refine And.intro rfl (Exists.intro false ?_);refine Qaq _ _ h (fun x3 hy=>((Qo7 p1 x2.1 ([(Qah.mk [103,114,111,117,112] 0 false)]) p0 [] false [] h0_0 x3 hy).fr [2,1,0] [] rfl rfl rfl).weakC (.cons (.refl _) (.cons (.refl _) (.cons (.refl _) (.cons (.p (.not)) (.nil)))))) (fun x3 hy h=>?_);refine Qac h (fun hb h=>?_) (fun hb h=>?_)
   ·refine Exists.intro _ (And.intro (Le.refl _ _ _) ?_);exact Qbb (t:=Qbq) (ss:=fun o=>⟨[[.p (iV o.2.2)]],[]⟩) h ⟨[],rfl,.refl _,.refl _,rfl⟩
   ·refine Exists.intro _ (And.intro (Le.refl _ _ _) ?_);exact Qbb (t:=Qbq) (ss:=fun o=>⟨[[.p (iV o.2.2)]],[]⟩) h ⟨[],rfl,.refl _,.refl _,rfl⟩
def Qfy (p0:(List Qae)) (p1:(List UInt8)):Option (Bool) :=
 Qcr p0 p1 0>>=fun x1 =>
 ( if(x1.2.1==0) then
   some (decide (x1.2.2>0))
  else
   some false:Option (Bool))>>=fun o2 =>
 some o2
theorem Ql7:∀ (p0:(List Qae)) (p1:(List UInt8)) (o:Bool),Qfy p0 p1=some o→PCall Tryz.prog 29 [.sl false (p0.map Qaf),sV p1] (Qg6 o):=by
 intro p0 p1 o h;unfold Qfy at h;refine PCall.ofB mixed tbOk Qz5 Tryz.func29 rfl (by kernel_rfl) (Nat.le_of_ble_eq_true rfl) ?_;refine Qaq _ _ h (fun x1 hy=>((Qk0 p0 p1 0 x1 hy).fr [0] [] rfl rfl rfl)) (fun x1 hy h=>?_);refine Qaj h (fun o2 ho hk=>?_);refine Exists.intro (JP1 _ _ o2 .normal (Qxr x1)) (And.intro ?_ (Qa4 ?_))
 ·have h:=ho;refine Qac h (fun hb h=>?_) (fun hb h=>?_)
  ·refine JP1.a h ?_;exact Le.tz 1 0 rfl rfl rfl
  ·refine JP1.a h ?_;exact Le.tz 1 0 rfl rfl rfl
 ·have h:=hk;refine Qas (t:=Qg6) h ?_;exact .refl _
def Qdy:Option (Bool) :=
 Qd8 [123,123,32,115,101,99,114,101,116,40,34,107,34,41,32,125,125]>>=fun x1 =>
 Qd8 [123,123,32,108,101,116,32,97,32,61,32,117,112,112,101,114,40,115,101,99,114,101,116,40,34,107,34,41,41,32,125,125,123,123,32,101,110,100,32,125,125]>>=fun x2 =>
 Qen x1 [109]>>=fun x3 =>
 Qd8 [123,123,32,105,102,32,115,97,109,101,40,115,101,99,114,101,116,40,34,107,34,41,44,32,34,120,34,41,32,125,125,97,123,123,32,101,110,100,32,125,125]>>=fun x4 =>
 Qen x4 [109]>>=fun x5 =>
 Qen x2 [109]>>=fun x6 =>
 ( if(x3.2==0) then
   Qfy x1 [109]>>=fun x8 =>
   if x8 then
    if(x5.1==[109]) then
     if(x5.2==205) then
      if(x6.2==0) then
       Qfy x2 [109]>>=fun x9 =>
       some (!x9)
      else
       some false
     else
      some false
    else
     some false
   else
    some false
  else
   some false:Option (Bool))>>=fun o7 =>
 some o7
theorem Qmb:∀ (o:Bool),Qdy  = some o→PCall Tryz.prog 25 [] (Qfs o):=by
 intro o h;unfold Qdy at h;refine PCall.ofB mixed tbOk Qu2 Tryz.func25 rfl (by kernel_rfl) (Nat.le_of_ble_eq_true rfl) ?_;refine Qan [sV [123,123,32,115,101,99,114,101,116,40,34,107,34,41,32,125,125]] Qe4 h (fun x1 hy=>(Qjp [123,123,32,115,101,99,114,101,116,40,34,107,34,41,32,125,125] x1 hy)) (fun x1 hy h=>?_);refine Qan [sV [123,123,32,108,101,116,32,97,32,61,32,117,112,112,101,114,40,115,101,99,114,101,116,40,34,107,34,41,41,32,125,125,123,123,32,101,110,100,32,125,125]] Qe4 h (fun x2 hy=>(Qjp [123,123,32,108,101,116,32,97,32,61,32,117,112,112,101,114,40,115,101,99,114,101,116,40,34,107,34,41,41,32,125,125,123,123,32,101,110,100,32,125,125] x2 hy)) (fun x2 hy h=>?_);refine Qan [.sl false (x1.map Qaf),sV [109]] Qe5 h (fun x3 hy=>(Qic x1 [109] x3 hy)) (fun x3 hy h=>?_);refine Qan [sV [123,123,32,105,102,32,115,97,109,101,40,115,101,99,114,101,116,40,34,107,34,41,44,32,34,120,34,41,32,125,125,97,123,123,32,101,110,100,32,125,125]] Qe4 h (fun x4 hy=>(Qjp [123,123,32,105,102,32,115,97,109,101,40,115,101,99,114,101,116,40,34,107,34,41,44,32,34,120,34,41,32,125,125,97,123,123,32,101,110,100,32,125,125] x4 hy)) (fun x4 hy h=>?_);refine Qan [.sl false (x4.map Qaf),sV [109]] Qe5 h (fun x5 hy=>(Qic x4 [109] x5 hy)) (fun x5 hy h=>?_);refine Qan [.sl false (x2.map Qaf),sV [109]] Qe5 h (fun x6 hy=>(Qic x2 [109] x6 hy)) (fun x6 hy h=>?_);refine Qaj h (fun o7 ho hk=>?_);refine Exists.intro (JP1 _ _ o7 .normal (Qrz )) (And.intro ?_ (Qa4 ?_))
 ·have h:=ho;refine Qac h (fun hb h=>?_) (fun hb h=>?_)
  ·refine Qan [.sl false (x1.map Qaf),sV [109]] Qg6 h (fun x8 hy=>(Ql7 x1 [109] x8 hy)) (fun x8 hy h=>?_);refine Qac h (fun hb h=>?_) (fun hb h=>?_)
   ·refine Qac h (fun hb h=>?_) (fun hb h=>?_)
    ·refine Qac h (fun hb h=>?_) (fun hb h=>?_)
     ·refine Qac h (fun hb h=>?_) (fun hb h=>?_)
      ·refine Qan [.sl false (x2.map Qaf),sV [109]] Qg6 h (fun x9 hy=>(Ql7 x2 [109] x9 hy)) (fun x9 hy h=>?_);refine JP1.a h ?_;exact Le.tz 0 0 rfl rfl rfl
      ·refine JP1.a h ?_;exact Le.tz 0 0 rfl rfl rfl
     ·refine bF ?_;refine JP1.a h ?_;exact Le.tz 0 0 rfl rfl rfl
    ·refine bF ?_;refine bF ?_;refine JP1.a h ?_;exact Le.tz 0 0 rfl rfl rfl
   ·refine bF ?_;refine bF ?_;refine bF ?_;refine JP1.a h ?_;exact Le.tz 0 0 rfl rfl rfl
  ·refine bF ?_;refine bF ?_;refine bF ?_;refine bF ?_;refine JP1.a h ?_;exact Le.tz 0 0 rfl rfl rfl
 ·have h:=hk;refine Qas (t:=Qfs) h ?_;exact .refl _
def Qci (p0:(List Qae)) (p1:(List UInt8)):Option (Bool) :=
 Qe7 p0 p1>>=fun x1 =>
 if(!x1.2) then
  Qdy>>=fun x2 =>
  some x2
 else
  Qen x1.1 p1>>=fun x3 =>
  Qtx x1.1 p1>>=fun x4 =>
  ( if(x3.1==x4.1) then
    if(x3.2==x4.2) then
     Qfy x1.1 p1>>=fun x6 =>
     Qty x1.1 p1>>=fun x7 =>
     if(x6==x7) then
      Qdy>>=fun x8 =>
      some x8
     else
      some false
    else
     some false
   else
    some false:Option (Bool))>>=fun o5 =>
  some o5
theorem Qmj:∀ (p0:(List Qae)) (p1:(List UInt8)) (o:Bool),Qci p0 p1=some o→PCall Tryz.prog 6 [.sl false (p0.map Qaf),sV p1] (Qd7 o):=by
 intro p0 p1 o h;unfold Qci at h;refine PCall.ofB mixed tbOk Qmi Tryz.func6 rfl (by kernel_rfl) (Nat.le_of_ble_eq_true rfl) ?_;refine Qan [.sl false (p0.map Qaf),sV p1] Qfr h (fun x1 hy=>(Qu4 p0 p1 x1 hy)) (fun x1 hy h=>?_);refine Qac h (fun hb h=>?_) (fun hb h=>?_)
 ·refine Qan [] Qfs h (fun x2 hy=>(Qmb x2 hy)) (fun x2 hy h=>?_);refine Qas (t:=Qd7) h ?_;exact .refl _
 ·refine Qan [.sl false (x1.1.map Qaf),sV p1] Qe5 h (fun x3 hy=>(Qic x1.1 p1 x3 hy)) (fun x3 hy h=>?_);refine Qan [.sl false (x1.1.map Qaf),sV p1] Qwe h (fun x4 hy=>(Qacw x1.1 p1 x4 hy)) (fun x4 hy h=>?_);refine Qaj h (fun o5 ho hk=>?_);refine Exists.intro (JP1 _ _ o5 .normal (Qlo )) (And.intro ?_ (Qa4 ?_))
  ·have h:=ho;refine Qac h (fun hb h=>?_) (fun hb h=>?_)
   ·refine Qac h (fun hb h=>?_) (fun hb h=>?_)
    ·refine Qan [.sl false (x1.1.map Qaf),sV p1] Qg6 h (fun x6 hy=>(Ql7 x1.1 p1 x6 hy)) (fun x6 hy h=>?_);refine Qan [.sl false (x1.1.map Qaf),sV p1] Qwf h (fun x7 hy=>(Qacx x1.1 p1 x7 hy)) (fun x7 hy h=>?_);refine Qac h (fun hb h=>?_) (fun hb h=>?_)
     ·refine Qan [] Qfs h (fun x8 hy=>(Qmb x8 hy)) (fun x8 hy h=>?_);refine JP1.a h ?_;exact Le.tz 0 0 rfl rfl rfl
     ·refine JP1.a h ?_;exact Le.tz 0 0 rfl rfl rfl
    ·refine bF ?_;refine JP1.a h ?_;exact Le.tz 0 0 rfl rfl rfl
   ·refine bF ?_;refine bF ?_;refine JP1.a h ?_;exact Le.tz 0 0 rfl rfl rfl
  ·have h:=hk;refine Qas (t:=Qd7) h ?_;exact .refl _
end Go.Proofs.YtfgegilhjlnohaaGreat
end

noncomputable section
namespace Go.Proofs.YtfgegilhjlnohaaGreat
open Go.RowKit
set_option linter.unusedSimpArgs false
set_option linter.unusedVariables false
mutual
def nn:Qab→Nat
 | ⟨_,_,_,_,a,b,c⟩=>1+nns a+nns b+nns c
def nns:List Qab→Nat
 | []=>0
 | x::r=>nn x+nns r
end
mutual
def dp:Qab→Nat
 | ⟨_,_,_,_,a,b,c⟩=>1+max (dps a) (max (dps b) (dps c))
def dps:List Qab→Nat
 | []=>0
 | x::r=>max (dp x) (dps r)
end
mutual
def sm:Qab→Prop
 | ⟨_,s,t,_,a,b,c⟩=>s.length≤40∧t.length≤60∧sms a∧sms b∧sms c
def sms:List Qab→Prop
 | []=>True
 | x::r=>sm x∧sms r
end
theorem Qi0(x:Qab):nn x=1+nns x.L+nns x.Then+nns x.Else:=by cases x; rw[nn]
theorem Qakp(x:Qab):dp x=1+max (dps x.L) (max (dps x.Then) (dps x.Else)):=by cases x; rw[dp]
theorem Qap1(x:Qab):sm x↔(x.Name.length≤40∧x.Text.length≤60∧sms x.L∧sms x.Then∧sms x.Else):=by cases x; rw[sm]
theorem Qj7(x:Qab):1≤nn x:=by rw[Qi0]; omega
theorem Qev:∀ l:List Qab,l.length≤nns l
 | []=>by simp[nns]
 | x::r=>by have:=Qev r; have:=Qj7 x; simp[nns]; omega
theorem Qe9:∀ {l:List Qab} {x:Qab},x ∈ l→nn x≤nns l
 | y::r,x,h=>by
  rcases List.mem_cons.1 h with rfl | h
  ·simp[nns]
  ·have:=Qe9 h; simp[nns]; omega
def Qoh(g:List Qab→Nat→List Qab×Nat):List Qab→Nat→List Qab×Nat
 | [],n=>([],n)
 | x::r,n=>if n=0 then([],0) else
  (⟨x.Kind,x.Name.take 40,x.Text.take 60,x.N,(g x.L (n-1)).1,(g x.Then (g x.L (n-1)).2).1,(g x.Else (g x.Then (g x.L (n-1)).2).2).1⟩ ::
   (Qoh g r (g x.Else (g x.Then (g x.L (n-1)).2).2).2).1,(Qoh g r (g x.Else (g x.Then (g x.L (n-1)).2).2).2).2)
def Qh2:Nat→List Qab→Nat→List Qab×Nat
 | 0,_,n=>([],n)
 | d+1,l,n=>Qoh (Qh2 d) l n
def LG(d:Nat)(g:List Qab→Nat→List Qab×Nat):Prop:=∀ (l:List Qab) (n:Nat),nns (g l n).1+(g l n).2=n∧dps (g l n).1≤d∧sms (g l n).1
theorem Qakq{d:Nat}{g:List Qab→Nat→List Qab×Nat}(hg:LG d g):LG (d+1) (Qoh g):=fun l=>by
 induction l with
 | nil=>intro n; simp[Qoh,nns,dps,sms]
 | cons x r ih =>
  intro n;unfold Qoh;split
  ·subst_vars; simp[nns,dps,sms]
  ·obtain⟨a1,a2,a3⟩:=hg x.L (n-1);obtain⟨b1,b2,b3⟩:=hg x.Then (g x.L (n-1)).2;obtain⟨c1,c2,c3⟩:=hg x.Else (g x.Then (g x.L (n-1)).2).2;obtain⟨d1,d2,d3⟩:=ih (g x.Else (g x.Then (g x.L (n-1)).2).2).2;simp only[nns,Qi0,dps,Qakp,sms,Qap1];refine⟨by omega,by omega,⟨?_,?_,a3,b3,c3⟩,d3⟩
   ·simp; omega
   ·simp; omega
theorem Qp4:∀ d,LG d (Qh2 d)
 | 0=>fun l n=>by simp[Qh2,nns,dps,sms]
 | d+1=>Qakq (Qp4 d)
theorem Qaok{l:List UInt8}{k:Nat}:(l.take (if(k:Int)<(l.length:Int) then(k:Int) else(l.length:Int)).toNat).drop (0:Int).toNat=l.take k:=by
 split
 ·simp
 ·simp;rw[List.take_of_length_le (by omega)]
theorem Qakr(l:List UInt8)(k:Nat):cutL l 0 (if(k:Int)<(l.length:Int) then(k:Int) else(l.length:Int))=some (l.take k):=by
 rw[Qol (by omega) (by split<;>omega) (by split<;>omega),Qaok]
def LIs(g:List Qab→Nat→List Qab×Nat)(f:List Qab→Int→Option (List Qab×Int)):Prop:=∀ (l:List Qab) (n:Nat),n≤100→f l n=some ((g l n).1,((g l n).2:Int))
theorem Qamt{d:Nat}(hd:d+1≤15)(hf:LIs (Qh2 d) (fun l n=>Qbi l d n))(l:List Qab):∀ k,k≤l.length→∀ (n:Nat) (acc:List Qab),acc.length=k→k+n≤100 →
  Qcc l ((d+1:Nat):Int) n acc k=some (((Qoh (Qh2 d) (l.drop k) n).2:Int),acc++(Qoh (Qh2 d) (l.drop k) n).1):=by
 refine upto ?_ fun k hk ih=>?_
 ·intro n acc _ _;rw[Qcc];simp[Qoh]
 ·intro n acc ha hn;rw[Qcc,Qct hk];have h40:=Qakr (l[k].Name) 40;have h60:=Qakr (l[k].Text) 60;simp only[ltI,hk,decide_true,if_true];by_cases h0:n=0
  ·subst h0;simp[Qoh]
  ·have e1:wr (((d+1:Nat):Int)-1)=d:=by rw[Qhh (by omega) (by omega)]; omega
   have e2:wr ((n:Int)-1)=((n-1:Nat):Int):=by rw[Qhh (by omega) (by omega)]; omega
   have hpos:decide ((n:Int)>0)=true:=decide_eq_true (by omega);have hpos2:decide (((d+1:Nat):Int)>0)=true:=decide_eq_true (by omega);simp only[hpos,hpos2,if_true,Qad,Qbc,getE hk,e1,e2];rw[show(40:Int)=((40:Nat):Int) from rfl,h40,Qad,show(60:Int)=((60:Nat):Int) from rfl,h60,Qad];obtain⟨a1,-,-⟩:=Qp4 d l[k].L (n-1);have f1:=hf l[k].L (n-1) (by omega);obtain⟨b1,-,-⟩:=Qp4 d l[k].Then (Qh2 d l[k].L (n-1)).2;have f2:=hf l[k].Then (Qh2 d l[k].L (n-1)).2 (by omega);obtain⟨c1,-,-⟩:=Qp4 d l[k].Else (Qh2 d l[k].Then (Qh2 d l[k].L (n-1)).2).2;have f3:=hf l[k].Else (Qh2 d l[k].Then (Qh2 d l[k].L (n-1)).2).2 (by omega);simp only at f1 f2 f3;simp only[f1,f2,f3,Qad];rw[Qhw (by simp; omega) (by simp; omega),Qad,Qba (by omega)];rw[ih _ _ (by simp[ha]) (by omega),Qoh,if_neg h0];simp
theorem Qagj:∀ d,d≤15→LIs (Qh2 d) (fun l n=>Qbi l (d:Nat) n)
 | 0,_=>fun l n hn=>by
  have h0:decide (((0:Nat):Int)>0)=false:=rfl;show Qbi l ((0:Nat):Int) n=_;rw[Qbi,Qcc];simp only[h0,Qad];have e:∀ b c:Bool,(if b=true then if c=true then some false else some false else some false:Option Bool)=some false:=fun b c=>by cases b<;>cases c<;>rfl
  rw[e];rfl
 | d+1,h=>fun l n hn=>by
  have:=Qamt h (Qagj d (by omega)) l 0 (by omega) n [] rfl (by omega);show Qbi l ((d+1:Nat):Int) n=_;rw[Qbi];rw[show((0:Nat):Int)=0 from rfl] at this;rw[this];simp[Qh2]
section
end
section
end
def Qzm(c:UInt8):Bool:=decide (97≤c.toNat)&&decide (c.toNat≤122)
def digB(c:UInt8):Bool:=decide (48≤c.toNat)&&decide (c.toNat≤57)
def letB(c:UInt8):Bool:=Qzm c||(digB c||c.toNat==95)
def Qaol:List UInt8→Bool
 | []=>false
 | c::_=>decide (97≤c.toNat)
theorem Q6b(c:UInt8)(r:List UInt8):Qaol (c::r)=decide (97≤c.toNat):=rfl
def Qo8(s:List UInt8):Bool := !(s==[])&&(decide (s.length≤32)&&(Qaol s&&s.all letB))
theorem geN(n k:Nat):decide ((n:Int) ≥ (k:Int))=decide (k≤n):=by
 by_cases h:k≤n
 ·rw[decide_eq_true h,decide_eq_true (by omega:(n:Int) ≥ k)]
 ·rw[decide_eq_false h,decide_eq_false (by omega)]
theorem leN(n k:Nat):decide ((n:Int)≤(k:Int))=decide (n≤k):=by
 by_cases h:n≤k
 ·rw[decide_eq_true h,decide_eq_true (by omega:(n:Int)≤k)]
 ·rw[decide_eq_false h,decide_eq_false (by omega)]
theorem eqN(n k:Nat):((n:Int)==(k:Int))=(n==k):=by
 by_cases h:n=k
 ·subst h; simp
 ·rw[beq_eq_false_iff_ne.2 h,beq_eq_false_iff_ne.2 (by omega)]
theorem Qap2(c:UInt8):Qpv (c.toNat:Int)=some (digB c):=by
 have a:=geN c.toNat 48;have b:=leN c.toNat 57;rw[Qpv];rw[show(48:Int)=((48:Nat):Int) from rfl,show(57:Int)=((57:Nat):Int) from rfl,a,b,digB];cases decide (48≤c.toNat)<;>rfl
theorem Qap3(c:UInt8):Qf0 (c.toNat:Int)=some (digB c):=by
 have a:=geN c.toNat 48;have b:=leN c.toNat 57;rw[Qf0];rw[show(48:Int)=((48:Nat):Int) from rfl,show(57:Int)=((57:Nat):Int) from rfl,a,b,digB];cases decide (48≤c.toNat)<;>rfl
theorem Qanh(c:UInt8):Qf1 (c.toNat:Int)=some (Qzm c):=by
 have a:=geN c.toNat 97;have b:=leN c.toNat 122;rw[Qf1];rw[show(97:Int)=((97:Nat):Int) from rfl,show(122:Int)=((122:Nat):Int) from rfl,a,b,Qzm];cases decide (97≤c.toNat)<;>rfl
theorem Qaom(c:UInt8):Qpw (c.toNat:Int)=some (letB c):=by
 have a:=geN c.toNat 97;have b:=leN c.toNat 122;have d:=eqN c.toNat 95;rw[Qpw,Qap2];rw[show(97:Int)=((97:Nat):Int) from rfl,show(122:Int)=((122:Nat):Int) from rfl,show(95:Int)=((95:Nat):Int) from rfl,a,b,d,letB,Qzm];simp only[Qad];cases decide (97≤c.toNat)<;>cases decide (c.toNat≤122)<;>cases digB c<;>cases (c.toNat==95)<;>rfl
theorem Qap4(s:List UInt8)(hs:s.length<9223372036854775807):∀ k,k≤s.length→Qii s k=some (if(s.drop k).all letB then .inl () else .inr ()):=by
 refine upto ?_ fun k hk ih=>?_
 ·rw[Qii]; simp
 ·rw[Qii,Qba (by omega),ih];simp only[ltI,hk,decide_true,if_true,Qbc,getE hk,Qad,Qaom];rw[Qct hk,List.all_cons];cases letB s[k]<;>rfl
theorem Qap5(s:List UInt8)(hs:s.length<9223372036854775807):Qqr s=some (Qo8 s):=by
 have h:=Qap4 s hs 0 (by omega);rw[Qqr,show(0:Int)=((0:Nat):Int) from rfl,h,List.drop_zero,Qo8];have e:=leN s.length 32;rw[show(32:Int)=((32:Nat):Int) from rfl,e];cases ha:s.all letB with
 | false=>cases (s==[])<;>cases decide (s.length≤32)<;>cases Qaol s<;>rfl
 | true =>
  cases s with
  | nil=>rfl
  | cons c r =>
   have g:=geN c.toNat 97;rw[show(97:Int)=((97:Nat):Int) from rfl];simp only[if_true,Qad,Qbc,List.getElem?_cons_zero,g,Q6b];have e0:((c::r)==([]:List UInt8))=false:=rfl;rw[e0];cases decide ((c::r).length≤32)<;>simp
theorem Qamu{c:UInt8}(h:letB c=true):Qzm c=decide (97≤c.toNat):=by
 unfold letB Qzm digB at *;by_cases h1:97≤c.toNat
 ·rw[decide_eq_true h1] at h ⊢;simp at h ⊢;omega
 ·rw[decide_eq_false h1]; rfl
theorem Qap6(s:List UInt8)(hs:s.length<9223372036854775807):∀ k,k≤s.length→Qeq s k=some (if(s.drop k).all letB then .inl () else .inr ()):=by
 refine upto ?_ fun k hk ih=>?_
 ·rw[Qeq]; simp
 ·have d:=eqN s[k].toNat 95;rw[Qeq,Qba (by omega),ih];simp only[ltI,hk,decide_true,if_true,Qbc,getE hk,Qad,Qanh,Qap3];rw[Qct hk,List.all_cons,letB];have e:(((s[k].toNat:Nat):Int) != 95) = !(s[k].toNat==95):=by rw[← d]; rfl
  rw[e];cases Qzm s[k]<;>cases digB s[k]<;>cases (s[k].toNat==95)<;>rfl
theorem Qap7(s:List UInt8)(hs:s.length<9223372036854775807):Qia s=some (Qo8 s):=by
 have h:=Qap6 s hs 0 (by omega);rw[Qia,show(0:Int)=((0:Nat):Int) from rfl,h,List.drop_zero,Qo8];cases s with
 | nil=>rfl
 | cons c r =>
  have e1:decide ((((c::r).length:Nat):Int)<1)=false:=decide_eq_false (by simp; omega);have e2:decide ((((c::r).length:Nat):Int)>32) = !(decide ((c::r).length≤32)):=by
   by_cases h:(c::r).length≤32
   ·rw[decide_eq_true h,decide_eq_false (by omega)]; rfl
   ·rw[decide_eq_false h,decide_eq_true (by omega)]; rfl
  simp only[e1,e2,Bool.false_eq_true,if_false,Qbc,List.getElem?_cons_zero,Qad,Qanh,Q6b];have e0:((c::r)==([]:List UInt8))=false:=rfl;rw[e0];cases ha:(c::r).all letB with
  | true =>
   have hl:letB c=true:=by rw[List.all_cons,Bool.and_eq_true] at ha; exact ha.1
   rw[Qamu hl];cases decide ((c::r).length≤32)<;>cases decide (97≤c.toNat)<;>rfl
  | false=>cases decide ((c::r).length≤32)<;>cases decide (97≤c.toNat)<;>cases Qzm c<;>rfl
theorem Qaon(a b:List UInt8):s2b (a++b)=s2b a++s2b b:=by simp[s2b]
theorem Q20(a:List UInt8):(s2b a).length=a.length:=by simp[s2b]
theorem Qaoo(l:List UInt8):b2s (s2b l)=some l:=by
 unfold b2s s2b;rw[if_pos]
 ·rw[List.map_map];congr 1;have:∀ c:UInt8,((fun n:Int=>UInt8.ofNat n.toNat) ∘ fun c:UInt8=>(c.toNat:Int)) c=c:=fun c=>by simp
  rw[show((fun n:Int=>UInt8.ofNat n.toNat) ∘ fun c:UInt8=>(c.toNat:Int))=id from funext this,List.map_id]
 ·rw[List.all_eq_true];intro n hn;obtain⟨c,-,rfl⟩:=List.mem_map.1 hn;have:=c.toNat_lt;simp only[decide_eq_true_eq];omega
def kws:List (List UInt8):=[[105,102],[101,108,115,101],[101,110,100],[101,97,99,104],[105,110],[108,101,116],[117,115,101],[116,114,117,101],[102,97,108,115,101],[115,101,99,114,101,116]]
def Qh3(s:List UInt8):Bool := !(kws.any (· == s))&&Qo8 s
theorem Qaop(s:List UInt8)(hs:s.length<9223372036854775807):Qjg s=some (Qh3 s):=by
 have c:∀ a:List UInt8,(a==s)=(s==a):=fun a=>by rw[Bool.beq_comm]
 rw[Qjg,Qap5 s hs,Qh3];simp only[kws,List.any_cons,List.any_nil,c];generalize (s==[105,102])=a1;generalize (s==[101,108,115,101])=a2;generalize (s==[101,110,100])=a3;generalize (s==[101,97,99,104])=a4;generalize (s==[105,110])=a5;generalize (s==[108,101,116])=a6;generalize (s==[117,115,101])=a7;generalize (s==[116,114,117,101])=a8;generalize (s==[102,97,108,115,101])=a9;generalize (s==[115,101,99,114,101,116])=a10;generalize Qo8 s=b;cases a1
 ·cases a2
  ·cases a3
   ·cases a4
    ·cases a5
     ·cases a6
      ·cases a7
       ·cases a8
        ·cases a9
         ·cases a10<;>cases b<;>rfl
         ·rfl
        ·rfl
       ·rfl
      ·rfl
     ·rfl
    ·rfl
   ·rfl
  ·rfl
 ·rfl
theorem Qap8(s:List UInt8)(l:List (List UInt8))(hl:l.length<9223372036854775807):∀ k,k≤l.length→Qd4 s l k=some (if(l.drop k).any (· == s) then .inr () else .inl ()):=by
 refine upto ?_ fun k hk ih=>?_
 ·rw[Qd4]; simp
 ·rw[Qd4,Qba (by omega),ih];simp only[ltI,hk,decide_true,if_true,Qbc,getE hk,Qad];rw[Qct hk,List.any_cons];cases (l[k]==s)<;>rfl
theorem Qaoq(s:List UInt8)(hs:s.length<9223372036854775807):Qhl s=some (Qh3 s):=by
 have h:=Qap8 s kws (by decide) 0 (by omega);rw[Qhl,Qtb];simp only[Qad,Qap7 s hs];rw[show(0:Int)=((0:Nat):Int) from rfl];show(Qd4 s kws _>>=_)=_;rw[h,List.drop_zero,Qh3];cases kws.any (· == s)<;>rfl
theorem Q9e{s:List UInt8}(h:Qo8 s=true):(s==[])=false:=by
 unfold Qo8 at h;cases hs:(s==[]) with
 | false=>rfl
 | true=>rw[hs] at h; cases h
theorem Q21{s:List UInt8}(h:Qh3 s=true):Qo8 s=true:=by
 unfold Qh3 at h;cases hw:Qo8 s with
 | true=>rfl
 | false=>rw[hw] at h; simp at h
def hasB:List UInt8→Bool
 | []=>false
 | c::r=>(c==123&&r.head? == some 123)||hasB r
theorem pre2(l:List UInt8):([123,123]:List UInt8).isPrefixOf l=(match l with | []=>false | c::r=>c==123&&r.head? == some 123):=by
 match l with
 | []=>rfl
 | [c]=>simp[List.isPrefixOf]
 | c::d::r =>
  simp only[List.isPrefixOf,List.head?_cons];have e1:(123==c)=(c==123):=Bool.beq_comm;have e2:(123==d)=(d==123):=Bool.beq_comm;rw[e1,e2];cases (c==123)<;>cases hd:(d==123)<;>simp_all
theorem Qacy:∀ l:List UInt8,decide (Lib.index l [123,123] ≥ 0)=hasB l
 | []=>rfl
 | c::r=>by
  have ih:=Qacy r;have hg:=Lib.index_ge r [123,123];have hp2:([123,123]:List UInt8).isPrefixOf (c::r)=(c==123&&r.head? == some 123):=pre2 (c::r);unfold Lib.index;rw[hp2,hasB];generalize (c==123&&r.head? == some 123)=b;cases b with
  | true=>rfl
  | false =>
   simp only[Bool.false_or];by_cases h1:Lib.index r [123,123] = -1
   ·rw[h1] at ih ⊢;rw[← ih]; rfl
   ·rw[if_neg (by decide),if_neg (by simpa using h1),← ih,decide_eq_true (by omega),decide_eq_true (by omega)]
theorem tHas(s:List UInt8)(hs:s.length<4294967281):Qf2 s [123,123]=some (hasB s):=by
 rw[Qf2,Qmh,Qc1,Qsd hs];simp only[Qad,Qacy]
theorem Qaor(s:List UInt8)(k:Nat)(hk:k<s.length)(hs:s.length<4294967281):Qe3 s [123,123] k=some (match s.drop k with | []=>false | c::r=>c==123&&r.head? == some 123):=by
 have e1:decide ((k:Int) ≥ 0)=true:=decide_eq_true (by omega);have e2:decide ((k:Int)≤(s.length:Int))=true:=decide_eq_true (by omega);have e3:wr ((s.length:Int)-k)=((s.length-k:Nat):Int):=by rw[Qhh (by omega) (by omega)]; omega
 have e4:wr ((k:Int)+(([123,123]:List UInt8).length:Int))=((k+2:Nat):Int):=by rw[Qhh (by simp; omega) (by simp; omega)]; simp
 rw[Qe3,e1,e2,e3,e4];simp only[if_true];by_cases h2:2≤s.length-k
 ·have e5:decide (((([123,123]:List UInt8).length:Nat):Int)≤((s.length-k:Nat):Int))=true:=decide_eq_true (by simp; omega);rw[e5,Qol (by omega) (by omega) (by omega)];simp only[if_true,Qad];have hk1:k+1<s.length:=by omega
  have e6:(s.take (k+2)).drop k=[s[k],s[k+1]]:=by
   apply List.ext_getElem
   ·simp; omega
   ·intro i h1 h2;simp at h1 h2
    match i,h2 with
    | 0,_=>simp
    | 1,_=>simp
  rw[Int.toNat_natCast,Int.toNat_natCast,e6,Qct hk,Qct hk1];simp only[List.head?_cons];have:(([s[k],s[k+1]]:List UInt8)==[123,123])=(s[k]==123&&(some s[k+1]==some 123)):=by
   have e:(some s[k+1]==some (123:UInt8))=(s[k+1]==123):=rfl;rw[e,List.cons_beq_cons,List.cons_beq_cons];show(s[k]==123&&(s[k+1]==123&&true))=_;rw[Bool.and_true]
  rw[this]
 ·have e5:decide (((([123,123]:List UInt8).length:Nat):Int)≤((s.length-k:Nat):Int))=false:=decide_eq_false (by simp; omega);rw[e5,Qct hk];have:s.drop (k+1)=[]:=List.drop_eq_nil_of_le (by omega);rw[this];simp
theorem Qamv(s:List UInt8)(hs:s.length<4294967281):∀ k,k≤s.length→Qfl s [123,123] k=some (if hasB (s.drop k) then .inr () else .inl ()):=by
 refine upto ?_ fun k hk ih=>?_
 ·rw[Qfl]; simp[hasB]
 ·rw[Qfl,Qba (by omega),ih,Qaor s k hk hs];simp only[ltI,hk,decide_true,if_true,Qad];rw[Qct hk,hasB];show(if(s[k]==123&&(s.drop (k+1)).head? == some 123)=true then _ else _)=_;generalize (s[k]==123&&(s.drop (k+1)).head? == some 123)=b;cases b<;>rfl
theorem Qaos(s:List UInt8)(hs:s.length<4294967281):Qps s [123,123]=some (hasB s):=by
 have h:=Qamv s hs 0 (by omega);rw[Qps,show(0:Int)=((0:Nat):Int) from rfl,h,List.drop_zero];cases hasB s<;>rfl
def endB(s:List UInt8):Bool:=s.getLast? == some 123
theorem tEnd(s:List UInt8)(hs:s.length<4294967281):Qco s [123]=some (endB s):=by
 rw[Qco,Qce,endB];cases hl:s.getLast? with
 | none =>
  have:s=[]:=List.getLast?_eq_none_iff.1 hl;subst this;rfl
 | some c =>
  have hne:s≠[]:=fun h=>by subst h; cases hl
  have hpos:0<s.length:=List.length_pos_iff.2 hne;have e1:decide ((s.length:Int) ≥ ((([123]:List UInt8).length:Nat):Int))=true:=decide_eq_true (by simp; omega);have e2:wr ((s.length:Int)-((([123]:List UInt8).length:Nat):Int))=((s.length-1:Nat):Int):=by rw[Qhh (by simp; omega) (by simp; omega)]; simp; omega
  rw[e1,e2,Qol (by omega) (by omega) (by omega)];simp only[if_true,Qad,Int.toNat_natCast,List.take_length];have e3:s.drop (s.length-1)=[c]:=by
   have h1:s.length-1<s.length:=by omega
   rw[Qct h1,List.drop_eq_nil_of_le (by omega)];rw[List.getLast?_eq_getElem?,getE h1] at hl;cases hl; rfl
  rw[e3];simp
theorem rEnd(s:List UInt8)(hs:s.length<4294967281)(hne:(s==[])=false):(idx s (wr ((s.length:Int)-1))>>=fun x=>some ((x.toNat:Int)==123))=some (endB s):=by
 have hne:s≠[]:=fun h=>by subst h; cases hne
 have hpos:0<s.length:=List.length_pos_iff.2 hne;have e2:wr ((s.length:Int)-1)=((s.length-1:Nat):Int):=by rw[Qhh (by omega) (by omega)]; omega
 have h1:s.length-1<s.length:=by omega
 rw[e2,Qbc,getE h1,Qad,endB,List.getLast?_eq_getElem?,getE h1];have d:=eqN s[s.length-1].toNat 123;rw[show(123:Int)=((123:Nat):Int) from rfl,d];congr 1;by_cases h:s[s.length-1]=123
 ·rw[h]; rfl
 ·have:s[s.length-1].toNat≠123:=fun e=>h (UInt8.toNat_inj.1 (by rw[e]; rfl))
  rw[beq_eq_false_iff_ne.2 this]
  symm
  rw[beq_eq_false_iff_ne];intro e; exact h (Option.some.inj e)
mutual
def allN(Q:Qab→Prop):Qab→Prop
 | ⟨k,s,t,n,a,b,c⟩=>Q ⟨k,s,t,n,a,b,c⟩∧allL Q a∧allL Q b∧allL Q c
def allL(Q:Qab→Prop):List Qab→Prop
 | []=>True
 | x::r=>allN Q x∧allL Q r
end
theorem Qo9(Q:Qab→Prop)(x:Qab):allN Q x↔(Q x∧allL Q x.L∧allL Q x.Then∧allL Q x.Else):=by cases x; rw[allN]
theorem Qq0{Q:Qab→Prop}:∀ {l:List Qab} {x:Qab},x ∈ l→allL Q l→allN Q x
 | y::r,x,h,hs=>by
  rw[allL] at hs;rcases List.mem_cons.1 h with rfl | h
  ·exact hs.1
  ·exact Qq0 h hs.2
theorem Qaks{R Q:Qab→Prop}(h:∀ x:Qab,x.Name.length≤40→x.Text.length≤60→R x→Q x):∀ n (l:List Qab),nns l≤n→sms l→allL R l→allL Q l:=by
 intro n
 induction n with
 | zero=>intro l hn _; cases l with
  | nil=>intro _; rw[allL]; trivial
  | cons x r=>have:=Qj7 x; simp[nns] at hn; omega
 | succ n ih =>
  intro l
  induction l with
  | nil=>intro _ _ _; rw[allL]; trivial
  | cons x r ihr =>
   intro hn hs hr;rw[nns,Qi0] at hn;rw[sms,Qap1] at hs;obtain⟨⟨h1,h2,h3,h4,h5⟩,h6⟩:=hs;rw[allL,Qo9] at hr ⊢;obtain⟨⟨g1,g2,g3,g4⟩,g5⟩:=hr;exact⟨⟨h x h1 h2 g1,ih _ (by omega) h3 g2,ih _ (by omega) h4 g3,ih _ (by omega) h5 g4⟩,ihr (by omega) h6 g5⟩
structure okNd (x:Qab):Prop where
 nm:x.Name.length≤1000000
 tx:x.Text.length≤1000000
 rg : -9223372036854775808≤x.N∧x.N≤9223372036854775807
 qt:x.Kind=1→∃ q,Qlk x.Text=some q∧Qni x.Text=some q
def Q6c (s:List UInt8):List UInt8×Bool:=(Qlk s).getD ([],false)
def zl(l:List Qab):Bool:=l.length==0
mutual
def Q45:Qab→Bool
 | ⟨k,s,t,n,a,b,c⟩ =>
  if k==1 then(Q6c t).2&&(s==[]&&(n==0&&(zl a&&(zl b&&zl c)))) else
  if k==2 then s==[]&&(t==[]&&(zl a&&(zl b&&zl c))) else
  if k==3 then(n==0||n==1)&&(s==[]&&(t==[]&&(zl a&&(zl b&&zl c)))) else
  if k==4 then Qh3 s&&(t==[]&&(n==0&&(zl a&&(zl b&&zl c)))) else
  if k==5 then Qo8 s&&(a.length==1&&(Qdw a&&(t==[]&&(n==0&&(zl b&&zl c))))) else
  if k==6 then Qh3 s&&(decide (a.length≤3)&&(Qdw a&&(t==[]&&(n==0&&(zl b&&zl c))))) else
  if k==7 then Qo8 s&&(t==[]&&(n==0&&(zl a&&(zl b&&zl c)))) else false
def Qdw:List Qab→Bool
 | []=>true
 | x::r=>Q45 x&&Qdw r
end
theorem Qxx(x:Qab):Q45 x =
  if x.Kind==1 then(Q6c x.Text).2&&(x.Name==[]&&(x.N==0&&(zl x.L&&(zl x.Then&&zl x.Else)))) else
  if x.Kind==2 then x.Name==[]&&(x.Text==[]&&(zl x.L&&(zl x.Then&&zl x.Else))) else
  if x.Kind==3 then(x.N==0||x.N==1)&&(x.Name==[]&&(x.Text==[]&&(zl x.L&&(zl x.Then&&zl x.Else)))) else
  if x.Kind==4 then Qh3 x.Name&&(x.Text==[]&&(x.N==0&&(zl x.L&&(zl x.Then&&zl x.Else)))) else
  if x.Kind==5 then Qo8 x.Name&&(x.L.length==1&&(Qdw x.L&&(x.Text==[]&&(x.N==0&&(zl x.Then&&zl x.Else))))) else
  if x.Kind==6 then Qh3 x.Name&&(decide (x.L.length≤3)&&(Qdw x.L&&(x.Text==[]&&(x.N==0&&(zl x.Then&&zl x.Else))))) else
  if x.Kind==7 then Qo8 x.Name&&(x.Text==[]&&(x.N==0&&(zl x.L&&(zl x.Then&&zl x.Else)))) else false:=by cases x; rw[Q45]
theorem zI(l:List Qab):((l.length:Int)==0)=zl l:=eqN l.length 0
theorem gI(l:List Qab):decide ((l.length:Int)>0) = !zl l:=by
 unfold zl;by_cases h:l.length=0
 ·rw[h]; rfl
 ·rw[beq_eq_false_iff_ne.2 h,decide_eq_true (by omega)]; rfl
theorem oneI(l:List Qab):((l.length:Int)==1)=(l.length==1):=eqN l.length 1
theorem low1(a:BitVec 64):a &&& ~~~1#64=0#64↔(a=0#64∨a=1#64):=by
 constructor
 ·intro h;have hb:∀ i,0<i→a.getLsbD i=false:=fun i hi=>by
   have:=congrArg (fun x:BitVec 64=>x.getLsbD i) h;simp only[BitVec.getLsbD_and,BitVec.getLsbD_not,BitVec.getLsbD_zero] at this;by_cases h64:i<64
   ·have h1:(1#64).getLsbD i=false:=by simp[BitVec.getLsbD_one]; omega
    rw[h1] at this;simpa [h64] using this
   ·exact BitVec.getLsbD_of_ge a i (by omega)
  cases h0:a.getLsbD 0 with
  | false =>
   left;apply BitVec.eq_of_getLsbD_eq;intro i _;by_cases hi:i=0
   ·subst hi; rw[h0]; simp
   ·rw[hb i (by omega)]; simp
  | true =>
   right;apply BitVec.eq_of_getLsbD_eq;intro i _;by_cases hi:i=0
   ·subst hi; rw[h0]; simp
   ·rw[hb i (by omega)]; simp[BitVec.getLsbD_one]; omega
 ·rintro (h | h)<;>subst h<;>decide
theorem ofI{n:Int}(h1 : -9223372036854775808≤n)(h2:n≤9223372036854775807)(m:Int)(h3:0≤m)(h4:m≤1):BitVec.ofInt 64 n=BitVec.ofInt 64 m↔n=m:=by
 constructor
 ·intro h;have:=congrArg BitVec.toInt h;rw[BitVec.toInt_ofInt,BitVec.toInt_ofInt,Int.bmod_def,Int.bmod_def] at this;simp only[show(((2:Nat) ^ 64:Nat):Int)=18446744073709551616 from rfl] at this;split at this<;>split at this<;>omega
 ·intro h; rw[h]
theorem Qari(m:Nat)(h:m<18446744073709551616):(IntKind.i64.wrap (m:Int)=0)↔m=0:=by
 rw[IntKind.wrap_i64];omega
theorem Qap9(n:Int)(h1 : -9223372036854775808≤n)(h2:n≤9223372036854775807):((bits .andNot .i64 n 1)==0)=(n==0||n==1):=by
 have hw:=Qari (BitVec.ofInt 64 n &&& ~~~(BitVec.ofInt 64 1)).toNat (BitVec.isLt _);have e:bits .andNot .i64 n 1=IntKind.i64.wrap ((BitVec.ofInt 64 n &&& ~~~(BitVec.ofInt 64 1)).toNat:Int):=rfl;have e2:(BitVec.ofInt 64 n &&& ~~~(BitVec.ofInt 64 1)).toNat=0↔(n=0∨n=1):=by
  have z:(BitVec.ofInt 64 n &&& ~~~(BitVec.ofInt 64 1)).toNat=0↔BitVec.ofInt 64 n &&& ~~~1#64=0#64:=by
   constructor
   ·intro h; exact BitVec.eq_of_toNat_eq h
   ·intro h; exact congrArg BitVec.toNat h
  rw[z,low1];have a0:=ofI h1 h2 0 (by omega) (by omega);have a1:=ofI h1 h2 1 (by omega) (by omega);rw[← a0,← a1];exact Iff.rfl
 rw[e2] at hw;rw[e];by_cases h:n=0∨n=1
 ·rw[hw.2 h];rcases h with h | h<;>subst h<;>rfl
 ·have:¬ IntKind.i64.wrap ((BitVec.ofInt 64 n &&& ~~~(BitVec.ofInt 64 1)).toNat:Int)=0:=fun k=>h (hw.1 k)
  rw[beq_eq_false_iff_ne.2 this];simp only[not_or] at h;rw[beq_eq_false_iff_ne.2 h.1,beq_eq_false_iff_ne.2 h.2];rfl
section
variable (n:Nat) (ih:∀ x:Qab,nn x≤n→allN okNd x→Qf3 x=some (Q45 x))
include ih
theorem Qaqa(l:List Qab)(h:nns l≤n)(ho:allL okNd l)(hl:l.length<9223372036854775807):∀ k,k≤l.length→∃ r,Qay l k=some r ∧
  (match r with | .inl _=>Qdw (l.drop k)=true | .inr v=>0≤v∧Qdw (l.drop k)=false):=by
 refine upto ?_ fun k hk ihk=>?_
 ·rw[Qay];refine⟨.inl (),by simp,?_⟩;simp[Qdw]
 ·have hx:=Qe9 (List.getElem_mem hk);rw[Qay,Qba (by omega)];simp only[ltI,hk,decide_true,if_true,Qbc,getE hk,Qad,Qv9,ih l[k] (by omega) (Qq0 (List.getElem_mem hk) ho)];rw[Qct hk];simp only[Qdw];cases he:Q45 l[k] with
  | true =>
   obtain⟨r,h1,h2⟩:=ihk;refine⟨r,by simpa using h1,?_⟩;simpa using h2
  | false=>exact⟨.inr k,by simp,by omega,rfl⟩
end
theorem Qarj:∀ n (x:Qab),n<1000000000→nn x≤n→allN okNd x→Qf3 x=some (Q45 x):=by
 intro n
 induction n with
 | zero=>intro x _ h; have:=Qj7 x; omega
 | succ n ih =>
  intro x hb h ho;rw[Qi0] at h;obtain⟨hq,ho1,-,-⟩:=(Qo9 okNd x).1 ho;have hnm:=hq.nm;rw[Qf3,Qix,Qxx,Qaop x.Name (by omega),Qap5 x.Name (by omega)];simp only[Qad,gI,Qap9 _ hq.rg.1 hq.rg.2];have e2:(x.N != 0) = !(x.N==0):=rfl;have e3:((x.L.length:Int)==0)=zl x.L:=zI x.L;have e4:((x.L.length:Int)==1)=(x.L.length==1):=oneI x.L;simp only[e2,e3,e4];by_cases k1:x.Kind=1
  ·obtain⟨q,q1,q2⟩:=hq.qt k1;simp only[k1,beq_self_eq_true,if_true,q1,Qad,Q6c,Option.getD_some];generalize (x.Name==[])=a1;generalize (x.Text==[])=a2;generalize (x.N==0)=a3;generalize zl x.L=a4;generalize zl x.Then=a5;generalize zl x.Else=a6;cases q.2<;>cases a1<;>cases a2<;>cases a3<;>cases a4<;>cases a5<;>cases a6<;>rfl
  by_cases k2:x.Kind=2
  ·simp only[k2,beq_self_eq_true,if_true,show((2:Int)==1)=false from rfl,Bool.false_eq_true,if_false];generalize (x.Name==[])=a1;generalize (x.Text==[])=a2;generalize (x.N==0)=a3;generalize zl x.L=a4;generalize zl x.Then=a5;generalize zl x.Else=a6;cases a1<;>cases a2<;>cases a3<;>cases a4<;>cases a5<;>cases a6<;>rfl
  by_cases k3:x.Kind=3
  ·simp only[k3,beq_self_eq_true,if_true,show((3:Int)==1)=false from rfl,show((3:Int)==2)=false from rfl,Bool.false_eq_true,if_false];generalize (x.N==0||x.N==1)=a0;generalize (x.Name==[])=a1;generalize (x.Text==[])=a2;generalize (x.N==0)=a3;generalize zl x.L=a4;generalize zl x.Then=a5;generalize zl x.Else=a6;cases a0<;>cases a1<;>cases a2<;>cases a3<;>cases a4<;>cases a5<;>cases a6<;>rfl
  have nw:Qh3 x.Name=true→(x.Name==[])=false:=fun h=>Q9e (Q21 h)
  have ww:Qo8 x.Name=true→(x.Name==[])=false:=fun h=>Q9e h
  by_cases k4:x.Kind=4
  ·simp only[k4,beq_self_eq_true,if_true,show((4:Int)==1)=false from rfl,show((4:Int)==2)=false from rfl,show((4:Int)==3)=false from rfl,Bool.false_eq_true,if_false];cases hn:Qh3 x.Name with
   | false=>rfl
   | true =>
    rw[nw hn];generalize (x.Text==[])=a2;generalize (x.N==0)=a3;generalize zl x.L=a4;generalize zl x.Then=a5;generalize zl x.Else=a6;cases a2<;>cases a3<;>cases a4<;>cases a5<;>cases a6<;>rfl
  by_cases k7:x.Kind=7
  ·simp only[k7,beq_self_eq_true,if_true,show((7:Int)==1)=false from rfl,show((7:Int)==2)=false from rfl,show((7:Int)==3)=false from rfl,show((7:Int)==4)=false from rfl,show((7:Int)==5)=false from rfl,show((7:Int)==6)=false from rfl,Bool.false_eq_true,if_false];cases hn:Qo8 x.Name with
   | false=>rfl
   | true =>
    rw[ww hn];generalize (x.Text==[])=a2;generalize (x.N==0)=a3;generalize zl x.L=a4;generalize zl x.Then=a5;generalize zl x.Else=a6;cases a2<;>cases a3<;>cases a4<;>cases a5<;>cases a6<;>rfl
  have b1:(x.Kind==1)=false:=beq_eq_false_iff_ne.2 k1;have b2:(x.Kind==2)=false:=beq_eq_false_iff_ne.2 k2;have b3:(x.Kind==3)=false:=beq_eq_false_iff_ne.2 k3;have b4:(x.Kind==4)=false:=beq_eq_false_iff_ne.2 k4;have b7:(x.Kind==7)=false:=beq_eq_false_iff_ne.2 k7;simp only[b1,b2,b3,b4,b7,Bool.false_eq_true,if_false];by_cases k5:x.Kind=5
  ·simp only[k5,beq_self_eq_true,if_true];cases hn:Qo8 x.Name with
   | false=>rfl
   | true =>
    rw[ww hn];cases hl:(x.L.length==1) with
    | false =>
     generalize (x.Text==[])=a2;generalize (x.N==0)=a3;generalize zl x.Then=a5;generalize zl x.Else=a6;cases a2<;>cases a3<;>cases a5<;>cases a6<;>rfl
    | true =>
     have hl1:x.L.length=1:=by simpa using hl
     obtain⟨y,hy⟩:=List.length_eq_one_iff.1 hl1;have hy1:nn y≤n:=by have:=Qe9 (show y ∈ x.L by rw[hy]; simp); omega
     have hy2:allN okNd y:=Qq0 (show y ∈ x.L by rw[hy]; simp) ho1;rw[hy];simp only[Qaof,List.getElem?_cons_zero,Qad,ih y (by omega) hy1 hy2,Qdw,Bool.and_true];generalize (x.Text==[])=a2;generalize (x.N==0)=a3;generalize zl x.Then=a5;generalize zl x.Else=a6;generalize Q45 y=a7;cases a2<;>cases a3<;>cases a5<;>cases a6<;>cases a7<;>rfl
  by_cases k6:x.Kind=6
  ·simp only[k6,beq_self_eq_true,if_true,show((6:Int)==5)=false from rfl,Bool.false_eq_true,if_false];cases hn:Qh3 x.Name with
   | false=>rfl
   | true =>
    rw[nw hn];have hmin:((x.L.length:Int)==(if 3<(x.L.length:Int) then 3 else(x.L.length:Int)))=decide (x.L.length≤3):=by
     by_cases h3:x.L.length≤3
     ·rw[if_neg (by omega),decide_eq_true h3]; simp
     ·rw[if_pos (by omega),decide_eq_false h3,beq_eq_false_iff_ne.2 (by omega)]
    rw[hmin];have hll:=Qev x.L;obtain⟨r,hr,hp⟩:=Qaqa n (fun y=>ih y (by omega)) x.L (by omega) ho1 (by omega) 0 (by omega);rw[Qa9,Qbm,show(0:Int)=((0:Nat):Int) from rfl,hr];rw[List.drop_zero] at hp;cases r with
    | inl u =>
     simp only at hp;rw[hp];generalize (x.Text==[])=a2;generalize (x.N==((0:Nat):Int))=a3;generalize zl x.Then=a5;generalize zl x.Else=a6;generalize decide (x.L.length≤3)=a7;cases a2<;>cases a3<;>cases a5<;>cases a6<;>cases a7<;>rfl
    | inr v =>
     simp only at hp;have hv:decide (v ≥ ((0:Nat):Int))=true:=decide_eq_true (by omega);simp only[hp.2,Qad,hv];generalize (x.Text==[])=a2;generalize (x.N==((0:Nat):Int))=a3;generalize zl x.Then=a5;generalize zl x.Else=a6;generalize decide (x.L.length≤3)=a7;cases a2<;>cases a3<;>cases a5<;>cases a6<;>cases a7<;>rfl
  have b5:(x.Kind==5)=false:=beq_eq_false_iff_ne.2 k5;have b6:(x.Kind==6)=false:=beq_eq_false_iff_ne.2 k6;simp only[b5,b6,Bool.false_eq_true,if_false]
def Qamw(x:Qab)(p1 p2 p3 p4 p5:Bool):Bool:=(p1||x.Name==[])&&((p2||x.Text==[])&&((p3||x.N==0)&&((p4||zl x.L)&&((p5||zl x.Then)&&(x.Kind==10||zl x.Else)))))
theorem Qaqb(x:Qab)(p1 p2 p3 p4 p5:Bool):Qej x p1 p2 p3 p4 p5=some (Qamw x p1 p2 p3 p4 p5):=by
 unfold Qej Qamw;simp only[zI];generalize (x.Name==[])=a1;generalize (x.Text==[])=a2;generalize (x.N==0)=a3;generalize zl x.L=a4;generalize zl x.Then=a5;generalize zl x.Else=a6;generalize (x.Kind==10)=a7;have e:∀ b:Bool,(if a7=true then some true else some b:Option Bool)=some (a7||b):=fun b=>by cases a7<;>rfl
 simp only[e];generalize (a7||a6)=a8;cases p1<;>cases p2<;>cases p3<;>cases p4<;>cases p5<;>cases a1<;>(try rfl)<;>cases a2<;>(try rfl)<;>cases a3<;>(try rfl)<;>cases a4<;>(try rfl)<;>cases a5<;>rfl
section
variable (n:Nat) (ih:∀ x:Qab,nn x≤n→allN okNd x→Que x=some (Q45 x))
include ih
theorem Qaot(l:List Qab)(h:nns l≤n)(ho:allL okNd l)(hl:l.length<9223372036854775807):∀ k,k≤l.length→Qiw l k=some (if Qdw (l.drop k) then .inl () else .inr ()):=by
 refine upto ?_ fun k hk ihk=>?_
 ·rw[Qiw]; simp[Qdw]
 ·have hx:=Qe9 (List.getElem_mem hk);rw[Qiw,Qba (by omega),ihk];simp only[ltI,hk,decide_true,if_true,Qbc,getE hk,Qad,ih l[k] (by omega) (Qq0 (List.getElem_mem hk) ho)];rw[Qct hk,Qdw];cases Q45 l[k]<;>rfl
theorem Qani(l:List Qab)(h:nns l≤n)(ho:allL okNd l)(hl:l.length<9223372036854775807):Qnk l=some (Qdw l):=by
 have:=Qaot n ih l h ho hl 0 (by omega);rw[Qnk,show(0:Int)=((0:Nat):Int) from rfl,this,List.drop_zero];cases Qdw l<;>rfl
end
theorem Qark:∀ n (x:Qab),n<1000000000→nn x≤n→allN okNd x→Que x=some (Q45 x):=by
 intro n
 induction n with
 | zero=>intro x _ h; have:=Qj7 x; omega
 | succ n ih =>
  intro x hb h ho;rw[Qi0] at h;obtain⟨hq,ho1,-,-⟩:=(Qo9 okNd x).1 ho;have hnm:=hq.nm;have hll:=Qev x.L;have hex:=Qani n (fun y=>ih y (by omega)) x.L (by omega) ho1 (by omega);have el:decide ((x.L.length:Int)≤3)=decide (x.L.length≤3):=leN x.L.length 3;rw[Que,Qxx,Qaoq x.Name (by omega),Qap7 x.Name (by omega),hex];simp only[Qad,Qaqb,Qamw,oneI,el];by_cases k1:x.Kind=1
  ·obtain⟨q,q1,q2⟩:=hq.qt k1;have e10:(x.Kind==10)=false:=beq_eq_false_iff_ne.2 (by omega);simp only[e10];simp only[k1,beq_self_eq_true,if_true,q2,q1,Qad,Q6c,Option.getD_some];generalize (x.Name==[])=a1;generalize (x.N==0)=a3;generalize zl x.L=a4;generalize zl x.Then=a5;generalize zl x.Else=a6;cases q.2<;>cases a1<;>cases a3<;>cases a4<;>cases a5<;>cases a6<;>rfl
  have b1:(x.Kind==1)=false:=beq_eq_false_iff_ne.2 k1;by_cases h10:x.Kind=10
  ·simp only[h10]; rfl
  have e10:(x.Kind==10)=false:=beq_eq_false_iff_ne.2 h10;simp only[e10,b1,Bool.false_eq_true,if_false,Bool.false_or,Bool.true_or,Bool.true_and];generalize (x.Kind==2)=k2;generalize (x.Kind==3)=k3;generalize (x.Kind==4)=k4;generalize (x.Kind==5)=k5;generalize (x.Kind==6)=k6;generalize (x.Kind==7)=k7;generalize (x.Name==[])=a1;generalize (x.Text==[])=a2;generalize (x.N==0)=a3;generalize (x.N==1)=a8;generalize zl x.L=a4;generalize zl x.Then=a5;generalize zl x.Else=a6;generalize Qh3 x.Name=n1;generalize Qo8 x.Name=n2;generalize (x.L.length==1)=l1;generalize decide (x.L.length≤3)=l3;generalize Qdw x.L=ex;cases k2
  ·cases k3
   ·cases k4
    ·cases k5
     ·cases k6
      ·cases k7
       ·rfl
       ·cases n2<;>rfl
      ·cases n1<;>(try rfl)<;>cases l3<;>(try rfl)<;>cases ex<;>rfl
     ·cases n2<;>(try rfl)<;>cases l1<;>(try rfl)<;>cases ex<;>rfl
    ·cases n1<;>rfl
   ·cases a3<;>(try rfl)<;>cases a8<;>rfl
  ·rfl
def litB:List Qab→Bool
 | []=>false
 | x::_=>x.Kind==8
def Qah4(x:Qab)(r:List Qab)(inn:Bool):Bool:=x.Kind==8&&(litB r||((!r.isEmpty||inn)&&endB x.Text))
mutual
def Q46:Qab→Bool
 | ⟨k,s,t,n,a,b,c⟩ =>
  if k==8 then !(t==[])&&(!(hasB t)&&(s==[]&&(n==0&&(zl a&&(zl b&&zl c))))) else
  if k==9 then(a.length==1&&Qdw a)&&(s==[]&&(t==[]&&(n==0&&(zl b&&zl c)))) else
  if k==10 then(a.length==1&&Qdw a)&&((Qbw b true&&Qbw c true)&&(s==[]&&(t==[]&&n==0))) else
  if k==11||k==12 then Qh3 s&&((a.length==1&&Qdw a)&&(Qbw b true&&(t==[]&&(n==0&&zl c)))) else
  if k==13 then Qh3 s&&((a.length==1&&Qdw a)&&(t==[]&&(n==0&&(zl b&&zl c)))) else false
def Qbw:List Qab→Bool→Bool
 | [],_=>true
 | x::r,inn=>Q46 x&&(!(Qah4 x r inn)&&Qbw r inn)
end
theorem Qq1(x:Qab):Q46 x =
  if x.Kind==8 then !(x.Text==[])&&(!(hasB x.Text)&&(x.Name==[]&&(x.N==0&&(zl x.L&&(zl x.Then&&zl x.Else))))) else
  if x.Kind==9 then(x.L.length==1&&Qdw x.L)&&(x.Name==[]&&(x.Text==[]&&(x.N==0&&(zl x.Then&&zl x.Else)))) else
  if x.Kind==10 then(x.L.length==1&&Qdw x.L)&&((Qbw x.Then true&&Qbw x.Else true)&&(x.Name==[]&&(x.Text==[]&&x.N==0))) else
  if x.Kind==11||x.Kind==12 then Qh3 x.Name&&((x.L.length==1&&Qdw x.L)&&(Qbw x.Then true&&(x.Text==[]&&(x.N==0&&zl x.Else)))) else
  if x.Kind==13 then Qh3 x.Name&&((x.L.length==1&&Qdw x.L)&&(x.Text==[]&&(x.N==0&&(zl x.Then&&zl x.Else)))) else false:=by cases x; rw[Q46]
theorem Qxy{l:List Qab}(h:zl l=true):l=[]:=List.eq_nil_of_length_eq_zero (by simpa [zl] using h)
theorem Qacz(b:Bool):Qbw [] b=true:=by rw[Qbw]
theorem Qakt{x:Qab}(h:Q46 x=true)(hk:x.Kind=8):(x.Text==[])=false:=by
 rw[Qq1,hk] at h;simp only[beq_self_eq_true,if_true] at h;cases ht:(x.Text==[]) with
 | false=>rfl
 | true=>rw[ht] at h; cases h
theorem Qaqc(k n:Nat)(hk:k<n)(hn:n<9223372036854775807):((k:Int)==wr ((n:Int)-1))=(k+1==n):=by
 have e:wr ((n:Int)-1)=((n-1:Nat):Int):=by rw[Qhh (by omega) (by omega)]; omega
 rw[e,eqN];by_cases h:k+1=n
 ·rw[beq_iff_eq.2 h,beq_iff_eq.2 (by omega)]
 ·rw[beq_eq_false_iff_ne.2 h,beq_eq_false_iff_ne.2 (by omega)]
theorem Qaku{l:List Qab}{k:Nat}(hk:k<l.length):(l.drop (k+1)).isEmpty=(k+1==l.length):=by
 by_cases h:k+1=l.length
 ·rw[List.drop_eq_nil_of_le (by omega),beq_iff_eq.2 h]; rfl
 ·rw[beq_eq_false_iff_ne.2 h,Qct (by omega:k+1<l.length)]; rfl
theorem Qakv(l:List Qab)(k:Nat)(h:k+1<l.length):litB (l.drop (k+1))=(l[k+1].Kind==8):=by
 rw[Qct h]; rfl
section
variable (n:Nat) (hn:n<900000000) (ih:∀ x:Qab,nn x≤n→allN okNd x→Qtf x=some (Q46 x))
include hn ih
theorem Qaou(l:List Qab)(h:nns l≤n)(ho:allL okNd l)(top:Bool):∀ k,k≤l.length→Qhp l top k=some (if Qbw (l.drop k) (!top) then .inl () else .inr ()):=by
 have hl:=Qev l;refine upto ?_ fun k hk ihk=>?_
 ·rw[Qhp]; simp[Qbw]
 ·have hx:=Qe9 (List.getElem_mem hk);have ha:=Qq0 (List.getElem_mem hk) ho;have htx:=((Qo9 okNd l[k]).1 ha).1.tx;rw[Qhp,Qba (by omega),ihk];simp only[ltI,hk,decide_true,if_true,Qbc,getE hk,Qad,ih l[k] (by omega) ha,Qaqc k l.length hk (by omega),tEnd l[k].Text (by omega)];rw[Qct hk,Qbw,Qah4];rw[Qaku hk];cases hs:Q46 l[k] with
  | false=>rfl
  | true =>
   cases h8:(l[k].Kind==8) with
   | false=>simp
   | true =>
    by_cases hlast:k+1=l.length
    ·have e1:(k+1==l.length)=true:=beq_iff_eq.2 hlast;have e2:litB (l.drop (k+1))=false:=by rw[List.drop_eq_nil_of_le (by omega)]; rfl
     rw[e1,e2];cases top<;>cases endB l[k].Text<;>simp
    ·have e1:(k+1==l.length)=false:=beq_eq_false_iff_ne.2 hlast;have hk1:k+1<l.length:=by omega
     rw[e1,Qakv l k hk1,getE hk1];simp only[Qad];cases (l[k+1].Kind==8)<;>cases endB l[k].Text<;>cases top<;>simp
theorem Qakw(l:List Qab)(h:nns l≤n)(ho:allL okNd l)(top:Bool):Qiy l top=some (Qbw l (!top)):=by
 have:=Qaou n hn ih l h ho top 0 (by omega);rw[Qiy,show(0:Int)=((0:Nat):Int) from rfl,this,List.drop_zero];cases Qbw l (!top)<;>rfl
end
theorem Qarl:∀ n (x:Qab),n<900000000→nn x≤n→allN okNd x→Qtf x=some (Q46 x):=by
 intro n
 induction n with
 | zero=>intro x _ h; have:=Qj7 x; omega
 | succ n ih =>
  intro x hb h ho;rw[Qi0] at h;obtain⟨hq,ho1,ho2,ho3⟩:=(Qo9 okNd x).1 ho;have hnm:=hq.nm;have htx:=hq.tx;have ih' := fun y=>ih y (by omega)
  have t1:=Qakw n (by omega) ih' x.Then (by omega) ho2 false;have t2:=Qakw n (by omega) ih' x.Else (by omega) ho3 false;have e2:(x.N != 0) = !(x.N==0):=rfl;rw[Qtf,Qix,Qq1,Qaop x.Name (by omega),tHas x.Text (by omega),t1,t2];simp only[Qad,gI,e2,zI,oneI];obtain⟨ex,hex,hex2⟩:∃ ex:Bool,Qdw x.L=ex∧(x.L.length==1→(idx x.L 0>>=fun y=>Qf3 y)=some ex):=by
   refine⟨_,rfl,fun hl=>?_⟩;obtain⟨y,hy⟩:=List.length_eq_one_iff.1 (by simpa using hl:x.L.length=1);have hy1:nn y≤n:=by have:=Qe9 (show y ∈ x.L by rw[hy]; simp); omega
   have hy2:allN okNd y:=Qq0 (show y ∈ x.L by rw[hy]; simp) ho1;rw[hy];simp only[Qaof,List.getElem?_cons_zero,Qad,Qarj n y (by omega) hy1 hy2,Qdw,Bool.and_true]
  rw[hex];have hidx:∀ (f:Bool→Option Bool) (g:Qab→Option Bool),x.L.length=1→(∀ y,g y=Qf3 y>>=f)→(idx x.L 0>>=g)=f ex:=fun f g hl hg=>by
   have:=hex2 (by simpa using hl);obtain⟨y,hy⟩:=List.length_eq_one_iff.1 hl;rw[hy] at this ⊢;simp only[Qaof,List.getElem?_cons_zero,Qad] at this ⊢;rw[hg,this,Qad]
  have nw:Qh3 x.Name=true→(x.Name==[])=false:=fun h=>Q9e (Q21 h)
  by_cases k8:x.Kind=8
  ·simp only[k8,beq_self_eq_true,if_true];generalize (x.Name==[])=a1;generalize (x.Text==[])=a2;generalize (x.N==0)=a3;generalize zl x.L=a4;generalize zl x.Then=a5;generalize zl x.Else=a6;generalize hasB x.Text=hh;cases a1<;>(try (cases a2<;>cases hh<;>rfl))<;>cases a2<;>(try (cases hh<;>rfl))<;>cases a3<;>(try (cases hh<;>rfl))<;>cases a4<;>(try (cases hh<;>rfl))<;>cases a5<;>(try (cases hh<;>rfl))<;>cases a6<;>cases hh<;>rfl
  have b8:(x.Kind==8)=false:=beq_eq_false_iff_ne.2 k8;have hE:x.L.length=1→(idx x.L 0>>=fun y=>Qf3 y>>=fun b=>if b=true then if Qbw x.Then (!false)=true then some (Qbw x.Else (!false)) else some false else some false)=some (ex&&(Qbw x.Then true&&Qbw x.Else true)):=fun hl=>by
   rw[hidx (fun b=>if b=true then if Qbw x.Then (!false)=true then some (Qbw x.Else (!false)) else some false else some false) _ hl fun y=>rfl];show(if ex=true then if Qbw x.Then true=true then some (Qbw x.Else true) else some false else some false)=_;cases ex<;>cases Qbw x.Then true<;>rfl
  have hb5:zl x.Then=true→Qbw x.Then true=true:=fun h=>by rw[Qxy h,Qacz]
  have hb6:zl x.Else=true→Qbw x.Else true=true:=fun h=>by rw[Qxy h,Qacz]
  have half:∀ w th ot nmd:Bool,(if(w==nmd)=true then if((!x.Name==[])==w&&((!x.Text==[])==false&&((!x.N==0)==false&&((!zl x.Then)==th&&((!zl x.Else)==ot&&(x.L.length==1&&true))))))=true then
    idx x.L 0>>=fun y=>Qf3 y>>=fun b=>if b=true then if Qbw x.Then (!false)=true then some (Qbw x.Else (!false)) else some false else some false else some false else some false) =
    some ((w==nmd)&&(((!x.Name==[])==w)&&((x.Text==[])&&((x.N==0)&&(((!zl x.Then)==th)&&(((!zl x.Else)==ot)&&((x.L.length==1)&&(ex&&(Qbw x.Then true&&Qbw x.Else true))))))))):=fun w th ot nmd=>by
   have e0:∀ b:Bool,((!b)==false)=b:=fun b=>by cases b<;>rfl
   simp only[e0];cases hl:(x.L.length==1) with
   | true =>
    rw[hE (by simpa using hl)];generalize (ex&&(Qbw x.Then true&&Qbw x.Else true))=q;generalize ((!x.Name==[])==w)=q1;generalize (x.Text==[])=q2;generalize (x.N==0)=q3;generalize ((!zl x.Then)==th)=q4;generalize ((!zl x.Else)==ot)=q5;generalize (w==nmd)=q6;cases q6<;>(try rfl)<;>cases q1<;>(try rfl)<;>cases q2<;>(try rfl)<;>cases q3<;>(try rfl)<;>cases q4<;>(try rfl)<;>cases q5<;>rfl
   | false =>
    generalize ((!x.Name==[])==w)=q1;generalize (x.Text==[])=q2;generalize (x.N==0)=q3;generalize ((!zl x.Then)==th)=q4;generalize ((!zl x.Else)==ot)=q5;generalize (w==nmd)=q6;cases q6<;>(try rfl)<;>cases q1<;>(try rfl)<;>cases q2<;>(try rfl)<;>cases q3<;>(try rfl)<;>cases q4<;>(try rfl)<;>cases q5<;>rfl
  have bnd:∀ m:Option Bool,(m>>=fun o=>some o)=m:=fun m=>by cases m<;>rfl
  simp only[b8,Bool.false_eq_true,if_false];by_cases k9:x.Kind=9
  ·simp only[k9,beq_self_eq_true,if_true,Qad,show((9:Int)==11)=false from rfl,show((9:Int)==12)=false from rfl,show((9:Int)==13)=false from rfl,Bool.false_eq_true,if_false,bnd];have hh:=half false false false false;simp only[beq_self_eq_true,if_true,Bool.true_and] at hh;rw[hh];have e0:∀ b:Bool,((!b)==false)=b:=fun b=>by cases b<;>rfl
   simp only[e0];cases h5:zl x.Then with
   | false=>generalize (x.Name==[])=a1; generalize (x.Text==[])=a2; generalize (x.N==0)=a3; cases a1<;>cases a2<;>cases a3<;>simp
   | true=>cases h6:zl x.Else with
    | false=>generalize (x.Name==[])=a1; generalize (x.Text==[])=a2; generalize (x.N==0)=a3; cases a1<;>cases a2<;>cases a3<;>simp
    | true =>
     rw[hb5 h5,hb6 h6];generalize (x.Name==[])=a1; generalize (x.Text==[])=a2; generalize (x.N==0)=a3; generalize (x.L.length==1)=l1;cases a1<;>cases a2<;>cases a3<;>cases l1<;>cases ex<;>rfl
  have b9:(x.Kind==9)=false:=beq_eq_false_iff_ne.2 k9;simp only[b9,Bool.false_eq_true,if_false];by_cases k10:x.Kind=10
  ·simp only[k10,beq_self_eq_true,if_true,Qad,show((10:Int)==11)=false from rfl,show((10:Int)==12)=false from rfl,show((10:Int)==13)=false from rfl,Bool.false_eq_true,if_false,bnd];have hh:=half false (!zl x.Then) (!zl x.Else) false;simp only[beq_self_eq_true,if_true,Bool.true_and] at hh ⊢;rw[hh];have e0:∀ b:Bool,((!b)==false)=b:=fun b=>by cases b<;>rfl
   simp only[e0];generalize (x.Name==[])=a1; generalize (x.Text==[])=a2; generalize (x.N==0)=a3; generalize (x.L.length==1)=l1; generalize zl x.Then=a5; generalize zl x.Else=a6; generalize Qbw x.Then true=bt; generalize Qbw x.Else true=be;cases a5<;>cases a6<;>cases a1<;>cases a2<;>cases a3<;>cases l1<;>cases ex<;>cases bt<;>cases be<;>rfl
  have b10:(x.Kind==10)=false:=beq_eq_false_iff_ne.2 k10;simp only[b10,Bool.false_eq_true,if_false];have e11:(if(x.Kind==11)=true then some (x.Kind==11) else some (x.Kind==12):Option Bool)=some (x.Kind==11||x.Kind==12):=by cases (x.Kind==11)<;>rfl
  rw[e11];cases h11:(x.Kind==11||x.Kind==12) with
  | true =>
   have e12:(if(x.Kind==11)=true then some true else if(x.Kind==12)=true then some true else some (x.Kind==13):Option Bool)=some true:=by
    revert h11; cases (x.Kind==11)<;>cases (x.Kind==12)<;>intro h<;>first | rfl | cases h
   rw[e12];simp only[Qad,if_true,bnd];rw[half (Qh3 x.Name) (!zl x.Then) false true];have e0:∀ b:Bool,((!b)==false)=b:=fun b=>by cases b<;>rfl
   simp only[e0];cases hn:Qh3 x.Name with
   | false=>rfl
   | true =>
    rw[nw hn];cases h6:zl x.Else with
    | false=>generalize (x.Text==[])=a2; generalize (x.N==0)=a3; generalize zl x.Then=a5; cases a2<;>cases a3<;>cases a5<;>simp
    | true =>
     rw[hb6 h6];generalize (x.Text==[])=a2; generalize (x.N==0)=a3; generalize (x.L.length==1)=l1; generalize zl x.Then=a5; generalize Qbw x.Then true=bt;cases a5<;>cases a2<;>cases a3<;>cases l1<;>cases ex<;>cases bt<;>rfl
  | false =>
   have e12:(if(x.Kind==11)=true then some true else if(x.Kind==12)=true then some true else some (x.Kind==13):Option Bool)=some (x.Kind==13):=by
    revert h11; cases (x.Kind==11)<;>cases (x.Kind==12)<;>intro h<;>first | rfl | cases h
   rw[e12];simp only[Qad,Bool.false_eq_true,if_false];by_cases k13:x.Kind=13
   ·simp only[k13,beq_self_eq_true,if_true,Qad,bnd];rw[half (Qh3 x.Name) false false true];have e0:∀ b:Bool,((!b)==false)=b:=fun b=>by cases b<;>rfl
    simp only[e0];cases hn:Qh3 x.Name with
    | false=>rfl
    | true =>
     rw[nw hn];cases h5:zl x.Then with
     | false=>generalize (x.Text==[])=a2; generalize (x.N==0)=a3; cases a2<;>cases a3<;>simp
     | true=>cases h6:zl x.Else with
      | false=>generalize (x.Text==[])=a2; generalize (x.N==0)=a3; cases a2<;>cases a3<;>simp
      | true =>
       rw[hb5 h5,hb6 h6];generalize (x.Text==[])=a2; generalize (x.N==0)=a3; generalize (x.L.length==1)=l1;cases a2<;>cases a3<;>cases l1<;>cases ex<;>rfl
   ·have b13:(x.Kind==13)=false:=beq_eq_false_iff_ne.2 k13;simp only[b13,Bool.false_eq_true,if_false,Qad]
section
variable (n:Nat) (hn:n<900000000) (ih:∀ x:Qab,nn x≤n→allN okNd x→Qw9 x=some (Q46 x))
include hn ih
theorem Qaov(l:List Qab)(h:nns l≤n)(ho:allL okNd l)(inn:Bool):∀ k,k≤l.length→Qgq l inn k=some (if Qbw (l.drop k) inn then .inl () else .inr ()):=by
 have hl:=Qev l;refine upto ?_ fun k hk ihk=>?_
 ·rw[Qgq]; simp[Qbw]
 ·have hx:=Qe9 (List.getElem_mem hk);have ha:=Qq0 (List.getElem_mem hk) ho;have htx:=((Qo9 okNd l[k]).1 ha).1.tx;rw[Qgq,Qba (by omega),ihk];simp only[ltI,hk,decide_true,if_true,Qbc,getE hk,Qad,ih l[k] (by omega) ha,Qaqc k l.length hk (by omega)];rw[Qct hk,Qbw,Qah4];rw[Qaku hk];cases hs:Q46 l[k] with
  | false=>rfl
  | true =>
   cases h8:(l[k].Kind==8) with
   | false =>
    have:(l[k].Kind != 8)=true:=by rw[bne,h8]; rfl
    rw[this];simp
   | true =>
    have h8' : (l[k].Kind != 8)=false:=by rw[bne,h8]; rfl
    rw[h8', rEnd l[k].Text (by omega) (Qakt hs (by simpa using h8))];by_cases hlast:k+1=l.length
    ·have e1:(k+1==l.length)=true:=beq_iff_eq.2 hlast;have e2:litB (l.drop (k+1))=false:=by rw[List.drop_eq_nil_of_le (by omega)]; rfl
     rw[e1,e2];cases inn<;>cases endB l[k].Text<;>simp
    ·have e1:(k+1==l.length)=false:=beq_eq_false_iff_ne.2 hlast;have hk1:k+1<l.length:=by omega
     rw[e1,Qakv l k hk1,getE hk1];simp only[Qad];cases (l[k+1].Kind==8)<;>cases endB l[k].Text<;>cases inn<;>simp
theorem Qakx(l:List Qab)(h:nns l≤n)(ho:allL okNd l)(inn:Bool):Qjd l inn=some (Qbw l inn):=by
 have:=Qaov n hn ih l h ho inn 0 (by omega);rw[Qjd,show(0:Int)=((0:Nat):Int) from rfl,this,List.drop_zero];cases Qbw l inn<;>rfl
end
theorem Qarm:∀ n (x:Qab),n<900000000→nn x≤n→allN okNd x→Qw9 x=some (Q46 x):=by
 intro n
 induction n with
 | zero=>intro x _ h; have:=Qj7 x; omega
 | succ n ih =>
  intro x hb h ho;rw[Qi0] at h;obtain⟨hq,ho1,ho2,ho3⟩:=(Qo9 okNd x).1 ho;have hnm:=hq.nm;have htx:=hq.tx;have hll:=Qev x.L;have ih' := fun y=>ih y (by omega)
  have t1:=Qakx n (by omega) ih' x.Then (by omega) ho2 true;have t2:=Qakx n (by omega) ih' x.Else (by omega) ho3 true;have hex:=Qani n (fun y hy=>Qark n y (by omega) hy) x.L (by omega) ho1 (by omega);rw[Qw9,Qq1,Qaoq x.Name (by omega),Qaos x.Text (by omega),t1,t2,hex];simp only[Qad,oneI,Qaqb,Qamw];have e1:(if(x.L.length==1)=true then some (Qdw x.L) else some false:Option Bool)=some (x.L.length==1&&Qdw x.L):=by cases (x.L.length==1)<;>rfl
  rw[e1];simp only[Qad];generalize (x.L.length==1&&Qdw x.L)=one;by_cases k8:x.Kind=8
  ·have e10:(x.Kind==10)=false:=beq_eq_false_iff_ne.2 (by omega);simp only[e10];simp only[k8,beq_self_eq_true,if_true];generalize (x.Name==[])=a1;generalize (x.Text==[])=a2;generalize (x.N==0)=a3;generalize zl x.L=a4;generalize zl x.Then=a5;generalize zl x.Else=a6;generalize hasB x.Text=hh;cases a2<;>(try rfl)<;>cases hh<;>(try rfl)<;>cases a1<;>(try rfl)<;>cases a3<;>rfl
  have b8:(x.Kind==8)=false:=beq_eq_false_iff_ne.2 k8;simp only[b8,Bool.false_eq_true,if_false];by_cases k10:x.Kind=10
  ·simp only[k10,beq_self_eq_true,if_true,show((10:Int)==9)=false from rfl,Bool.false_eq_true,if_false];generalize (x.Name==[])=a1;generalize (x.Text==[])=a2;generalize (x.N==0)=a3;generalize Qbw x.Then true=bt;generalize Qbw x.Else true=be;generalize zl x.L=a4;generalize zl x.Then=a5;generalize zl x.Else=a6;cases one<;>(try rfl)<;>cases bt<;>(try rfl)<;>cases be<;>(try rfl)<;>cases a1<;>(try rfl)<;>cases a2<;>(try rfl)<;>cases a3<;>rfl
  have b10:(x.Kind==10)=false:=beq_eq_false_iff_ne.2 k10;simp only[b10,Bool.false_eq_true,if_false];have e11:(if(x.Kind==11)=true then some (x.Kind==11) else some (x.Kind==12):Option Bool)=some (x.Kind==11||x.Kind==12):=by cases (x.Kind==11)<;>rfl
  rw[e11];simp only[Qad];have nw:Qh3 x.Name=true→(x.Name==[])=false:=fun h=>Q9e (Q21 h)
  generalize (x.Kind==9)=k9;generalize (x.Kind==11||x.Kind==12)=k11;generalize (x.Kind==13)=k13;generalize (x.Name==[])=a1;generalize Qh3 x.Name=nm;generalize (x.Text==[])=a2;generalize (x.N==0)=a3;generalize Qbw x.Then true=bt;generalize Qbw x.Else true=be;generalize zl x.L=a4;generalize zl x.Then=a5;generalize zl x.Else=a6;cases k9
  ·cases k11
   ·cases k13
    ·rfl
    ·cases nm<;>(try rfl)<;>cases one<;>(try rfl)<;>cases a2<;>(try rfl)<;>cases a3<;>rfl
   ·cases nm<;>(try rfl)<;>cases one<;>(try rfl)<;>cases bt<;>(try rfl)<;>cases a2<;>(try rfl)<;>cases a3<;>rfl
  ·cases one<;>(try rfl)<;>cases a1<;>(try rfl)<;>cases a2<;>(try rfl)<;>cases a3<;>rfl
def maxD(l:List (Qab×Int))(m:Int):Int:=l.foldl (fun m x=>if x.2>m then x.2 else m) m
theorem Q0w(a b:List (Qab×Int))(m:Int):maxD (a++b) m=maxD b (maxD a m):=by unfold maxD; rw[List.foldl_append]
theorem Qanj(x1:List Qab×Int):∀ (l:List (Qab×Int)) (m:Int),Qg1 x1 l m=some (maxD l m)
 | [],m=>by rw[Qg1]; rfl
 | x::r,m=>by rw[Qg1,Qanj x1 r]; rfl
theorem Qaky(x1:List Qab×Int):∀ (l:List (Qab×Int)) (m:Nat),m+l.length<9223372036854775807→Qfn x1 l m=some ((m+l.length:Nat):Int)
 | [],m,_=>by rw[Qfn]; rfl
 | x::r,m,h=>by
  simp at h;rw[Qfn,Qba (by omega),Qaky x1 r (m+1) (by omega)];simp; omega
theorem Qamx(p0:List Qab)(p1 v12:Int)(x3:Qab)(v28:Int)(x7:List Qab×Int):∀ l:List (Qab×Int),Qfo p0 p1 v12 x3 v28 x7 l=some (l,())
 | []=>by rw[Qfo]
 | x::r=>by
  obtain⟨⟨k,s,t,n,a,b,c⟩,d⟩:=x;rw[Qfo,Qamx p0 p1 v12 x3 v28 x7 r]; rfl
def Qamy(d:Nat)(k dep:Nat)(o:Option (List (Qab×Int)×Unit)):Prop:=∃ out,o=some (out,())∧out.length=k∧∀ m:Int,(d:Int)-1≤m→maxD out m=max m ((d:Int)-1+dep)
section
variable (n:Nat) (ih:∀ (l:List Qab) (d:Nat),nns l≤n→n+d≤1000000000→Qamy d (nns l) (dps l) (Qf7 l d))
include ih
theorem Qarn(l:List Qab)(d:Nat)(v:Int)(x:Qab)(hx:nn x≤n+1)(hd:n+1+d≤1000000000) :
  Qamy (d+1) (nns x.L+nns x.Then+nns x.Else) (max (dps x.L) (max (dps x.Then) (dps x.Else))) (Qcj l d v x 0):=by
 rw[Qi0] at hx;have ed:wr ((d:Int)+1)=((d+1:Nat):Int):=Qba (by omega);obtain⟨o1,a1,a2,a3⟩:=ih x.L (d+1) (by omega) (by omega);obtain⟨o2,b1,b2,b3⟩:=ih x.Then (d+1) (by omega) (by omega);obtain⟨o3,c1,c2,c3⟩:=ih x.Else (d+1) (by omega) (by omega);have s3:Qcj l d v x 3=some ([],()):=by rw[Qcj]; rfl
 have s2:Qcj l d v x 2=some (o3++[],()):=by
  rw[Qcj];have e:wr ((2:Int)+1)=3:=by rw[Qhh (by omega) (by omega)]; rfl
  have g:idx ([x.L,x.Then,x.Else]:List (List Qab)) 2=some x.Else:=Qaef _ 2;rw[g,e,s3];simp only[Qad,Qk7,ed,c1,Qamx,show decide ((2:Int)<3)=true from rfl,if_true]
 have s1:Qcj l d v x 1=some (o2++(o3++[]),()):=by
  rw[Qcj];have e:wr ((1:Int)+1)=2:=by rw[Qhh (by omega) (by omega)]; rfl
  have g:idx ([x.L,x.Then,x.Else]:List (List Qab)) 1=some x.Then:=Qaef _ 1;rw[g,e,s2];simp only[Qad,Qk7,ed,b1,Qamx,show decide ((1:Int)<3)=true from rfl,if_true]
 have s0:Qcj l d v x 0=some (o1++(o2++(o3++[])),()):=by
  rw[Qcj];have e:wr ((0:Int)+1)=1:=by rw[Qhh (by omega) (by omega)]; rfl
  have g:idx ([x.L,x.Then,x.Else]:List (List Qab)) 0=some x.L:=Qaef _ 0;rw[g,e,s1];simp only[Qad,Qk7,ed,a1,Qamx,show decide ((0:Int)<3)=true from rfl,if_true]
 refine⟨_,s0,by simp; omega,fun m hm=>?_⟩;rw[List.append_nil,Q0w,Q0w,a3 m hm,b3 _ (by omega),c3 _ (by omega)];omega
theorem Qaro(l:List Qab)(d:Nat)(hl:nns l≤n+1)(hd:n+1+d≤1000000000):∀ k,k≤l.length→Qamy d (nns (l.drop k)) (dps (l.drop k)) (Qfp l d k):=by
 have hlen:=Qev l;refine upto ?_ fun k hk ihk=>?_
 ·rw[Qfp,List.drop_length];refine⟨[],by simp,by simp[nns],fun m hm=>?_⟩;simp[maxD,dps]; omega
 ·have hx:=Qe9 (List.getElem_mem hk);obtain⟨o1,a1,a2,a3⟩:=Qarn n ih l d k l[k] (by omega) hd;obtain⟨o2,b1,b2,b3⟩:=ihk;rw[Qfp,Qba (by omega)];simp only[ltI,hk,decide_true,if_true,Qbc,getE hk,Qad,a1,b1];rw[Qct hk];refine⟨_,rfl,?_,fun m hm=>?_⟩
  ·simp[nns,Qi0,a2,b2]; omega
  ·show maxD ([(l[k],(d:Int))]++(o1++o2)) m=_;have e0:maxD [(l[k],(d:Int))] m=max m d:=by
    show(if(d:Int)>m then(d:Int) else m)=_;split<;>omega
   rw[Q0w,Q0w,e0,a3 _ (by omega),b3 _ (by omega),dps,Qakp];omega
end
theorem tAll:∀ n (l:List Qab) (d:Nat),nns l≤n→n+d≤1000000000→Qamy d (nns l) (dps l) (Qf7 l d):=by
 intro n
 induction n with
 | zero =>
  intro l d h _;have hl:l=[]:=List.eq_nil_of_length_eq_zero (by have:=Qev l; omega);subst hl;rw[Qf7,Qfp];refine⟨[],by simp,by simp[nns],fun m hm=>?_⟩;simp[maxD,dps]; omega
 | succ n ih =>
  intro l d h hd;obtain⟨o,a1,a2,a3⟩:=Qaro n ih l d h hd 0 (by omega);rw[List.drop_zero] at a2 a3;refine⟨o,?_,a2,a3⟩;rw[Qf7,show(0:Int)=((0:Nat):Int) from rfl,a1];simp
theorem Qarp(l:List Qab)(h:nns l≤900000000):Qtd l=some (dps l:Int):=by
 obtain⟨o,a1,a2,a3⟩:=tAll 900000000 l 1 h (by omega);rw[Qtd,Qk7];simp only[Qad];rw[show(1:Int)=((1:Nat):Int) from rfl,a1];simp only[Qad,Qanj];rw[a3 0 (by omega)];congr 1;omega
theorem Qaqd(l:List Qab)(h:nns l≤900000000):Qpu l=some (nns l:Int):=by
 obtain⟨o,a1,a2,a3⟩:=tAll 900000000 l 1 h (by omega);have:=Qaky (l,((1:Nat):Int)) o 0 (by omega);rw[Qpu,Qk7];simp only[Qad];rw[show(1:Int)=((1:Nat):Int) from rfl,a1];simp only[Qad];rw[show(0:Int)=((0:Nat):Int) from rfl,this];simp[a2]
theorem Qakz:∀ m (l:List Qab),nns l≤m→dps l≤nns l:=by
 intro m
 induction m with
 | zero =>
  intro l h;have hl:l=[]:=List.eq_nil_of_length_eq_zero (by have:=Qev l; omega);subst hl; simp[dps]
 | succ m ihm =>
  intro l
  induction l with
  | nil=>intro _; simp[dps]
  | cons x r ihr =>
   intro h;rw[nns,Qi0] at h;have h1:=ihm x.L (by omega);have h2:=ihm x.Then (by omega);have h3:=ihm x.Else (by omega);have h4:=ihr (by omega);rw[dps,Qakp,nns,Qi0];omega
section
variable (n:Nat) (hn:n≤900000000) (ih:∀ l:List Qab,nns l≤n→Qfj l=some (dps l:Int)∧Qd3 l=some (nns l:Int))
include hn ih
theorem Qaqe(l:List Qab)(h:nns l≤n+1):∀ k,k≤l.length→∀ v:Nat,v≤1000000000→Qfk l v k=some ((max v (dps (l.drop k)):Nat):Int):=by
 have hl:=Qev l;refine upto ?_ fun k hk ihk=>?_
 ·intro v _; rw[Qfk]; simp[dps]
 ·intro v hv;have hx:=Qe9 (List.getElem_mem hk);rw[Qi0] at hx;have d1:=Qakz _ l[k].L (Nat.le_refl _);have d2:=Qakz _ l[k].Then (Nat.le_refl _);have d3:=Qakz _ l[k].Else (Nat.le_refl _);have em:(if(dps l[k].Else:Int)>(if(dps l[k].Then:Int)>(dps l[k].L:Int) then(dps l[k].Then:Int) else(dps l[k].L:Int)) then(dps l[k].Else:Int) else(if(dps l[k].Then:Int)>(dps l[k].L:Int) then(dps l[k].Then:Int) else(dps l[k].L:Int)))=((max (dps l[k].L) (max (dps l[k].Then) (dps l[k].Else)):Nat):Int):=by
   split<;>split at * <;> omega
  rw[Qfk,Qba (by omega)];simp only[ltI,hk,decide_true,if_true,Qbc,getE hk,Qad,(ih l[k].L (by omega)).1,(ih l[k].Then (by omega)).1,(ih l[k].Else (by omega)).1];rw[em];have ew:wr (1+((max (dps l[k].L) (max (dps l[k].Then) (dps l[k].Else)):Nat):Int))=((dp l[k]:Nat):Int):=by
   rw[Qhh (by omega) (by omega),Qakp]; omega
  rw[ew];have ei:(if((dp l[k]:Nat):Int)>(v:Int) then((dp l[k]:Nat):Int) else(v:Int))=((max v (dp l[k]):Nat):Int):=by split<;>omega
  have hdp:dp l[k]≤1000000000:=by rw[Qakp]; omega
  rw[ei,ihk (max v (dp l[k])) (by omega),Qct hk,dps];congr 2;omega
theorem Qaow(l:List Qab)(h:nns l≤n+1):∀ k,k≤l.length→∀ v:Nat,v+nns (l.drop k)≤1000000000→Qei l v k=some ((v+nns (l.drop k):Nat):Int):=by
 have hl:=Qev l;refine upto ?_ fun k hk ihk=>?_
 ·intro v _; rw[Qei]; simp[nns]
 ·intro v hv;have hx:=Qe9 (List.getElem_mem hk);rw[Qi0] at hx;rw[Qct hk,nns,Qi0] at hv;rw[Qei,Qba (i:=k) (by omega)];simp only[ltI,hk,decide_true,if_true,Qbc,getE hk,Qad,(ih l[k].L (by omega)).2,(ih l[k].Then (by omega)).2,(ih l[k].Else (by omega)).2];have ew:wr ((wr ((wr ((wr ((v:Int)+1))+(nns l[k].L:Int)))+(nns l[k].Then:Int)))+(nns l[k].Else:Int))=((v+nn l[k]:Nat):Int):=by
   rw[Qhh (n:=(v:Int)+1) (by omega) (by omega),Qhh (n:=(v:Int)+1+(nns l[k].L:Int)) (by omega) (by omega),Qhh (n:=(v:Int)+1+(nns l[k].L:Int)+(nns l[k].Then:Int)) (by omega) (by omega),Qhh (by omega) (by omega),Qi0];omega
  rw[ew,ihk (v+nn l[k]) (by rw[Qi0]; omega),Qct hk,nns];congr 2;omega
end
theorem rDC:∀ n (l:List Qab),n≤900000000→nns l≤n→Qfj l=some (dps l:Int)∧Qd3 l=some (nns l:Int):=by
 intro n
 induction n with
 | zero =>
  intro l _ h;have hl:l=[]:=List.eq_nil_of_length_eq_zero (by have:=Qev l; omega);subst hl;rw[Qfj,Qd3,Qfk,Qei];simp[dps,nns]
 | succ n ih =>
  intro l hn h;have h1:=Qaqe n (by omega) (fun l hl=>ih l (by omega) hl) l h 0 (by omega) 0 (by omega);have h2:=Qaow n (by omega) (fun l hl=>ih l (by omega) hl) l h 0 (by omega) 0 (by rw[List.drop_zero]; omega);rw[Qfj,Qd3,show(0:Int)=((0:Nat):Int) from rfl,h1,h2];simp
def isP (l:List Qab):Bool:=decide (dps l≤12)&&(decide (nns l≤1024)&&Qbw l false)
theorem tIs(l:List Qab)(h:nns l≤800000000)(ho:allL okNd l):Q2j l=some (isP l):=by
 have e1:decide ((dps l:Int)≤12)=decide (dps l≤12):=leN _ 12;have e2:decide ((nns l:Int)≤1024)=decide (nns l≤1024):=leN _ 1024;have hb:=Qakw 800000000 (by omega) (fun x hx=>Qarl 800000000 x (by omega) hx) l h ho true;rw[Q2j,Qarp l (by omega),Qaqd l (by omega),hb,isP];simp only[Qad,e1,e2];cases decide (dps l≤12)<;>cases decide (nns l≤1024)<;>rfl
theorem rIs(l:List Qab)(h:nns l≤800000000)(ho:allL okNd l):Qab6 l=some (isP l):=by
 have e1:decide ((dps l:Int)≤12)=decide (dps l≤12):=leN _ 12;have e2:decide ((nns l:Int)≤1024)=decide (nns l≤1024):=leN _ 1024;have hb:=Qakx 800000000 (by omega) (fun x hx=>Qarm 800000000 x (by omega) hx) l h ho false;obtain⟨hd,hc⟩:=rDC 800000000 l (by omega) h;rw[Qab6,hd,hc,hb,isP];simp only[Qad,e1,e2];cases decide (dps l≤12)<;>cases decide (nns l≤1024)<;>cases Qbw l false<;>rfl
abbrev room:Nat:=100000000000
section
end
def Qcx(c:UInt8):Bool:=decide (128≤c.toNat)&&decide (c.toNat<192)
def Qj0(n:Nat):Bool:=decide (n≤1114111) && !(decide (55296≤n)&&decide (n≤57343))
def Qamz(c:UInt8)(r:List UInt8):Nat×Nat :=
  if c.toNat<128 then(c.toNat,1)
  else if 192≤c.toNat∧c.toNat<224 then
   match r with
   | c1::_=>if Qcx c1=true∧128≤(c.toNat-192)*64+(c1.toNat-128) then((c.toNat-192)*64+(c1.toNat-128),2) else(65533,1)
   | _=>(65533,1)
  else if 224≤c.toNat∧c.toNat<240 then
   match r with
   | c1::c2::_=>if Qcx c1=true∧Qcx c2=true∧2048≤((c.toNat-224)*64+(c1.toNat-128))*64+(c2.toNat-128)∧Qj0 (((c.toNat-224)*64+(c1.toNat-128))*64+(c2.toNat-128))=true then(((c.toNat-224)*64+(c1.toNat-128))*64+(c2.toNat-128),3) else(65533,1)
   | _=>(65533,1)
  else if 240≤c.toNat∧c.toNat<248 then
   match r with
   | c1::c2::c3::_=>if Qcx c1=true∧Qcx c2=true∧Qcx c3=true∧65536≤(((c.toNat-240)*64+(c1.toNat-128))*64+(c2.toNat-128))*64+(c3.toNat-128)∧Qj0 ((((c.toNat-240)*64+(c1.toNat-128))*64+(c2.toNat-128))*64+(c3.toNat-128))=true then((((c.toNat-240)*64+(c1.toNat-128))*64+(c2.toNat-128))*64+(c3.toNat-128),4) else(65533,1)
   | _=>(65533,1)
  else(65533,1)
def Qlp:List UInt8→Nat×Nat
 | []=>(0,0)
 | c::r=>Qamz c r
theorem Q22{n:Int}(h1 : -2147483648≤n)(h2:n≤2147483647):IntKind.i32.wrap n=n:=by
 simp[IntKind.wrap,IntKind.bits,IntKind.signed];omega
theorem Qaqf{n:Int}(h1:0≤n)(h2:n≤255):IntKind.u8.wrap n=n:=by
 simp[IntKind.wrap,IntKind.bits,IntKind.signed];omega
theorem Qarq:∀ c:Fin 256,bits .and .u8 ((c.1:Nat):Int) 63=((c.1 % 64:Nat):Int):=by decide +kernel
theorem Qaqg:∀ c:Fin 256,(bits .and .u8 ((c.1:Nat):Int) 192 != 128) = !(decide (128≤c.1)&&decide (c.1<192)):=by decide +kernel
theorem Qarr:∀ c:Fin 256,bits .and .u8 ((c.1:Nat):Int) 31=((c.1 % 32:Nat):Int):=by decide +kernel
theorem Qars:∀ c:Fin 256,bits .and .u8 ((c.1:Nat):Int) 15=((c.1 % 16:Nat):Int):=by decide +kernel
theorem and7:∀ c:Fin 256,bits .and .u8 ((c.1:Nat):Int) 7=((c.1 % 8:Nat):Int):=by decide +kernel
theorem or64(a b:Nat)(ha:a<1000000)(hb:b<64):bits .or .i32 (IntKind.i32.wrap ((a:Int)*2 ^ (min (6:Int).toNat (IntKind.i32.bits)))) (IntKind.i32.wrap (b:Int))=((a*64+b:Nat):Int):=by
 have e1:IntKind.i32.wrap ((a:Int)*2 ^ (min (6:Int).toNat (IntKind.i32.bits)))=((a*64:Nat):Int):=by
  have:(min (6:Int).toNat (IntKind.i32.bits))=6:=rfl;rw[this,Q22 (by omega) (by omega)]; omega
 rw[e1,Q22 (by omega) (by omega)];have e2:(2:Nat) ^ 6*a+b=2 ^ 6*a ||| b:=Nat.two_pow_add_eq_or_of_lt (by omega) a
 have e3:a*64 ||| b=a*64+b:=by
  have:(2:Nat) ^ 6*a=a*64:=by omega
  rw[this] at e2; omega
 show IntKind.i32.wrap ((BitVec.ofInt 32 ((a*64:Nat):Int) ||| BitVec.ofInt 32 (b:Int)).toNat:Int)=_;rw[BitVec.toNat_or,BitVec.ofInt_natCast,BitVec.ofInt_natCast,BitVec.toNat_ofNat,BitVec.toNat_ofNat,Nat.mod_eq_of_lt (by omega),Nat.mod_eq_of_lt (by omega),e3,Q22 (by omega) (by omega)]
theorem b63(c:UInt8):bits .and .u8 (c.toNat:Int) 63=((c.toNat % 64:Nat):Int):=Qarq ⟨c.toNat,c.toNat_lt⟩
theorem b192(c:UInt8):(bits .and .u8 (c.toNat:Int) 192 != 128) = !Qcx c:=Qaqg ⟨c.toNat,c.toNat_lt⟩
theorem b31(c:UInt8):bits .and .u8 (c.toNat:Int) 31=((c.toNat % 32:Nat):Int):=Qarr ⟨c.toNat,c.toNat_lt⟩
theorem b15(c:UInt8):bits .and .u8 (c.toNat:Int) 15=((c.toNat % 16:Nat):Int):=Qars ⟨c.toNat,c.toNat_lt⟩
theorem b7(c:UInt8):bits .and .u8 (c.toNat:Int) 7=((c.toNat % 8:Nat):Int):=and7 ⟨c.toNat,c.toNat_lt⟩
theorem Qam0{c:UInt8}(h:Qcx c=true):c.toNat % 64=c.toNat-128:=by
 unfold Qcx at h;simp at h;omega
def Q23:Nat→List UInt8→Nat→Option Nat
 | 0,_,v=>some v
 | _+1,[],_=>none
 | m+1,c::r,v=>if Qcx c=true then Q23 m r (v*64+(c.toNat-128)) else none
set_option maxRecDepth 20000 in
theorem Qaqh(l:List UInt8)(m:Nat)(hm:m≤l.length)(hm3:m≤3):∀ (d k v:Nat),k+d=m→((k=0→v<64)∧(k≤1→v<4096)∧(k≤2→v<262144)) →
  Qij l m v k=some (match Q23 d (l.drop k) v with | some n =>.inl (n:Int) | none =>.inr ()):=by
 intro d
 induction d with
 | zero =>
  intro k v hk _;rw[Qij,ltI,decide_eq_false (by omega:¬ k<m)];rfl
 | succ d ih =>
  intro k v hk hv;have hkl:k<l.length:=by omega
  have:decide ((k:Int)<(m:Int))=true:=decide_eq_true (by omega);rw[Qij];simp only[this,if_true,Qbc,getE hkl,Qad,b192,b63];rw[or64 v _ (by omega) (Nat.mod_lt _ (by omega)),Qba (by omega),Qct hkl];unfold Q23;cases hc:Qcx l[k] with
  | false=>rfl
  | true =>
   rw[Qam0 hc];have hlt:l[k].toNat-128<64:=by unfold Qcx at hc; simp at hc; omega
   have hv2:(k+1=0→v*64+(l[k].toNat-128)<64)∧(k+1≤1→v*64+(l[k].toNat-128)<4096)∧(k+1≤2→v*64+(l[k].toNat-128)<262144):=by omega
   simp only[Bool.not_true,Bool.false_eq_true,if_false,if_true];exact ih (k+1) _ (by omega) hv2
theorem Qart(l:List UInt8)(m v:Nat)(hm3:m≤3)(hv:v<64):Quf l v m=some (match (if l.length<m then none else Q23 m l v) with | some n=>((n:Int),true) | none=>(0,false)):=by
 rw[Quf,ltI];by_cases h:l.length<m
 ·rw[decide_eq_true h,if_pos h]; rfl
 ·rw[decide_eq_false h,if_neg h];have:=Qaqh l m (by omega) hm3 m 0 v (by omega) (by omega);rw[List.drop_zero] at this;rw[show(0:Int)=((0:Nat):Int) from rfl,this];cases Q23 m l v<;>rfl
theorem tIsR(n:Nat):Q6a (n:Int)=some (Qj0 n):=by
 have a:decide ((n:Int) ≥ 0)=true:=decide_eq_true (by omega);have b:decide ((n:Int)≤1114111)=decide (n≤1114111):=by
  by_cases h:n≤1114111
  ·rw[decide_eq_true h,decide_eq_true (by omega)]
  ·rw[decide_eq_false h,decide_eq_false (by omega)]
 rw[Q6a,a,b,Qj0];by_cases h1:n<55296
 ·rw[decide_eq_true (show(n:Int)<55296 by omega),decide_eq_true (show n≤1114111 by omega),decide_eq_false (show ¬ 55296≤n by omega)]; rfl
 ·rw[decide_eq_false (show ¬ (n:Int)<55296 by omega),decide_eq_true (show 55296≤n by omega)];by_cases h2:n≤57343
  ·rw[decide_eq_false (show ¬ (n:Int)>57343 by omega),decide_eq_true h2,decide_eq_true (show n≤1114111 by omega)]; rfl
  ·rw[decide_eq_true (show(n:Int)>57343 by omega),decide_eq_false h2];cases decide (n≤1114111)<;>rfl
theorem rIsR(n:Nat):Qn6 (n:Int)=some (Qj0 n):=by
 have a:decide ((n:Int) ≥ 0)=true:=decide_eq_true (by omega);have b:decide ((n:Int)≤1114111)=decide (n≤1114111):=by
  by_cases h:n≤1114111
  ·rw[decide_eq_true h,decide_eq_true (by omega)]
  ·rw[decide_eq_false h,decide_eq_false (by omega)]
 have c:decide ((n:Int) ≥ 55296)=decide (55296≤n):=by
  by_cases h:55296≤n
  ·rw[decide_eq_true h,decide_eq_true (by omega)]
  ·rw[decide_eq_false h,decide_eq_false (by omega)]
 have d:decide ((n:Int)≤57343)=decide (n≤57343):=by
  by_cases h:n≤57343
  ·rw[decide_eq_true h,decide_eq_true (by omega)]
  ·rw[decide_eq_false h,decide_eq_false (by omega)]
 rw[Qn6,a,b,c,d,Qj0];cases decide (n≤1114111)<;>cases decide (55296≤n)<;>cases decide (n≤57343)<;>rfl
theorem ltC(c:UInt8)(k:Nat):decide ((c.toNat:Int)<(k:Int))=decide (c.toNat<k):=ltI _ _
theorem geC(c:UInt8)(k:Nat):decide ((c.toNat:Int) ≥ (k:Int))=decide (k≤c.toNat):=by
 by_cases h:k≤c.toNat
 ·rw[decide_eq_true h,decide_eq_true (by omega)]
 ·rw[decide_eq_false h,decide_eq_false (by omega)]
def endP(o:Option Nat)(least m:Nat):Nat×Nat:=match o with
 | some n=>if least≤n∧Qj0 n=true then(n,m+1) else(65533,1)
 | none=>(65533,1)
set_option maxRecDepth 20000 in
theorem Qaru(s:List UInt8)(k:Nat)(hk:k<s.length)(hs:s.length<9223372036854775807):Qxb s k=some (((Qlp (s.drop k)).1:Int),((Qlp (s.drop k)).2:Int)):=by
 have d1:decide ((k:Int)<0)=false:=decide_eq_false (by omega);have d2:decide ((k:Int) ≥ (s.length:Int))=false:=decide_eq_false (by omega);have hc:=s[k].toNat_lt;have hr:cutL s (wr ((k:Int)+1)) (s.length:Int)=some (s.drop (k+1)):=by
  rw[Qba (by omega),Qol (by omega) (by omega) (by omega)];simp
 rw[Qxb,d1,d2,hr,Qct hk];have l128:=ltC s[k] 128;have g192:=geC s[k] 192;have l224:=ltC s[k] 224;have g224:=geC s[k] 224;have l240:=ltC s[k] 240;have g240:=geC s[k] 240;have l248:=ltC s[k] 248;have b1:∀ a b:Bool,(if a=true then some b else some false:Option Bool)=some (a&&b):=fun a b=>by cases a<;>rfl
 simp only[Bool.false_eq_true,if_false,Qad,Qbc,getE hk];rw[show(128:Int)=((128:Nat):Int) from rfl,show(192:Int)=((192:Nat):Int) from rfl,show(224:Int)=((224:Nat):Int) from rfl,show(240:Int)=((240:Nat):Int) from rfl,show(248:Int)=((248:Nat):Int) from rfl,l128,g192,l224,g224,l240,g240,l248];simp only[b1,Qad];rw[Qlp];unfold Qamz;have fin:∀ (v least m:Nat),m≤3→v<64→(Quf (s.drop (k+1)) (v:Int) (m:Int)>>=fun x10 =>
   (if(!x10.2)=true then some true else if decide (x10.1<(least:Int))=true then some true else Q6a x10.1>>=fun x12=>some (!x12):Option Bool)>>=fun o11 =>
   if o11=true then some ((65533:Int),(1:Int)) else some (x10.1,wr ((m:Int)+1))) =
   some (((endP (if(s.drop (k+1)).length<m then none else Q23 m (s.drop (k+1)) v) least m).1:Int),((endP (if(s.drop (k+1)).length<m then none else Q23 m (s.drop (k+1)) v) least m).2:Int)):=fun v least m hm hv=>by
  rw[Qart _ m v hm hv];cases (if(s.drop (k+1)).length<m then none else Q23 m (s.drop (k+1)) v) with
  | none=>rfl
  | some n =>
   simp only[Qad,Bool.not_true,Bool.false_eq_true,if_false,ltI,tIsR,endP];by_cases h1:n<least
   ·rw[decide_eq_true h1,if_neg (fun h=>absurd h.1 (by omega):¬ (least≤n∧Qj0 n=true))]; rfl
   ·rw[decide_eq_false h1];cases hrn:Qj0 n with
    | true=>rw[if_pos (⟨by omega,rfl⟩:least≤n∧true=true),Qba (by omega)]; rfl
    | false=>rw[if_neg (fun h=>by cases h.2:¬ (least≤n∧false=true))]; rfl
 by_cases h1:s[k].toNat<128
 ·rw[decide_eq_true h1,if_pos h1];simp only[if_true,Qad];rw[Q22 (by omega) (by omega)]; rfl
 rw[decide_eq_false h1,if_neg h1];simp only[Bool.false_eq_true,if_false];have cc:∀ c:UInt8,Qcx c=true→c.toNat-128<64:=fun c h=>by unfold Qcx at h; simp at h; omega
 by_cases h2:192≤s[k].toNat∧s[k].toNat<224
 ·rw[decide_eq_true h2.1,decide_eq_true h2.2,if_pos h2,b31];simp only[Bool.and_true,if_true,Qad];rw[Q22 (by omega) (by omega)];have f:=fin (s[k].toNat % 32) 128 1 (by omega) (by omega);rw[show((1:Nat):Int)=1 from rfl] at f;rw[f];have e:s[k].toNat % 32=s[k].toNat-192:=by omega
  rw[e];cases s.drop (k+1) with
  | nil=>rfl
  | cons c1 r1 =>
   simp only[List.length_cons,if_neg (by omega:¬ r1.length+1<1),Q23];cases h:Qcx c1 with
   | false=>rfl
   | true =>
    have:=cc c1 h;have hr:Qj0 ((s[k].toNat-192)*64+(c1.toNat-128))=true:=by unfold Qj0; rw[decide_eq_true (by omega),decide_eq_false (by omega)]; rfl
    simp only[if_true,endP,hr,and_true,true_and]
 rw[if_neg h2];have d2:(decide (192≤s[k].toNat)&&decide (s[k].toNat<224))=false:=by
  rw[Bool.and_eq_false_iff];by_cases h:192≤s[k].toNat
  ·exact .inr (decide_eq_false (by omega))
  ·exact .inl (decide_eq_false h)
 rw[d2];simp only[Bool.false_eq_true,if_false];by_cases h3:224≤s[k].toNat∧s[k].toNat<240
 ·rw[decide_eq_true h3.1,decide_eq_true h3.2,if_pos h3,b15];simp only[Bool.and_true,if_true,Qad];rw[Q22 (by omega) (by omega)];have f:=fin (s[k].toNat % 16) 2048 2 (by omega) (by omega);rw[show((2:Nat):Int)=2 from rfl,show((2048:Nat):Int)=2048 from rfl] at f;rw[f];have e:s[k].toNat % 16=s[k].toNat-224:=by omega
  rw[e]
  match s.drop (k+1) with
  | []=>rfl
  | [c1]=>rfl
  | c1::c2::r1 =>
   simp only[List.length_cons,if_neg (by omega:¬ r1.length+1+1<2),Q23];cases h:Qcx c1 with
   | false=>rfl
   | true =>
    cases h' : Qcx c2 with
    | false=>simp[endP]
    | true=>simp only[if_true,endP,true_and]
 rw[if_neg h3];have d3:(decide (224≤s[k].toNat)&&decide (s[k].toNat<240))=false:=by
  rw[Bool.and_eq_false_iff];by_cases h:224≤s[k].toNat
  ·exact .inr (decide_eq_false (by omega))
  ·exact .inl (decide_eq_false h)
 rw[d3];simp only[Bool.false_eq_true,if_false];by_cases h4:240≤s[k].toNat∧s[k].toNat<248
 ·rw[decide_eq_true h4.1,decide_eq_true h4.2,if_pos h4,b7];simp only[Bool.and_true,if_true,Qad];rw[Q22 (by omega) (by omega)];have f:=fin (s[k].toNat % 8) 65536 3 (by omega) (by omega);rw[show((3:Nat):Int)=3 from rfl,show((65536:Nat):Int)=65536 from rfl] at f;rw[f];have e:s[k].toNat % 8=s[k].toNat-240:=by omega
  rw[e]
  match s.drop (k+1) with
  | []=>rfl
  | [c1]=>rfl
  | [c1,c2]=>rfl
  | c1::c2::c3::r1 =>
   simp only[List.length_cons,if_neg (by omega:¬ r1.length+1+1+1<3),Q23];cases h:Qcx c1 with
   | false=>rfl
   | true =>
    cases h' : Qcx c2 with
    | false=>simp[endP]
    | true =>
     cases h'' : Qcx c3 with
     | false=>simp[endP]
     | true=>simp only[if_true,endP,true_and]
 rw[if_neg h4];have d4:(decide (240≤s[k].toNat)&&decide (s[k].toNat<248))=false:=by
  rw[Bool.and_eq_false_iff];by_cases h:240≤s[k].toNat
  ·exact .inr (decide_eq_false (by omega))
  ·exact .inl (decide_eq_false h)
 rw[d4];rfl
theorem Q6d(l:List UInt8)(h:l≠[]):1≤(Qlp l).2∧(Qlp l).2≤l.length:=by
 cases l with
 | nil=>exact absurd rfl h
 | cons c r =>
  rw[Qlp];unfold Qamz;split
  ·simp
  ·split
   ·split
    ·split<;>simp
    ·simp
   ·split
    ·split
     ·split<;>simp
     ·simp
    ·split
     ·split
      ·split<;>simp
      ·simp
     ·simp
end Go.Proofs.YtfgegilhjlnohaaGreat
end
