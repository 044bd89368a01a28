/- The proof's texts, part 11 of 12: the walks by a logic in which data are by value, the plain laws, and at the end the law, for every input. -/
import Derived.Test.YtfgegilhjlnohaaGreatMgSecrecyHands10
import Derived.Lib.SlicesCompact

noncomputable section
set_option linter.unusedVariables false
set_option linter.unusedSimpArgs false
set_option maxRecDepth 100000
set_option maxHeartbeats 4000000
namespace Go.Proofs.YtfgegilhjlnohaaGreat
open Go.RowKit
mutual
def Qay (p1:(List UInt8)) (p2:(List Qaa)) (p3:(List Qak)) (h0_0:(List Qac)) (h0_2:(List UInt8)) (h0_3:Bool) (h1_0:(List (Qaf×Int))) (h2_0:Int):Option ((List UInt8)×Bool×(List (Qaf×Int))×Int) :=
 (Qav p1 p2 p3 h0_0 0 h0_2 h0_3 h1_0 h2_0)>>=fun o1 =>
 match o1 with
 | .inl y2 =>
  some (y2.1,y2.2.1,y2.2.2.1,y2.2.2.2)
 | .inr y3 =>
  some (y3.1,y3.2.1,y3.2.2.1,y3.2.2.2)
 partial_fixpoint
def Qav (p1:(List UInt8)) (p2:(List Qaa)) (p3:(List Qak)) (h0_0:(List Qac)) (v14:Int) (h0_2_:(List UInt8)) (h0_3_:Bool) (h1_0_:(List (Qaf×Int))) (h2_0_:Int):Option (((List UInt8)×Bool×(List (Qaf×Int))×Int)⊕((List UInt8)×Bool×(List (Qaf×Int))×Int)) :=
 if(decide (v14<(p2.length:Int))) then
  idx p2 v14>>=fun x4 =>
  if h0_3_ then
   some (.inr (h0_2_,h0_3_,h1_0_,h2_0_))
  else
   if(x4.Kind==8) then
    Qav p1 p2 p3 h0_0 (wr (v14+1)) h0_2_ h0_3_ h1_0_ h2_0_
   else
    idx x4.L 0>>=fun x5 =>
    Qd8 x5 p3>>=fun x6 =>
    Qbm p3>>=fun x7 =>
    ( if(x4.Kind==9) then
      if x6 then
       Qet h2_0_>>=fun x12 =>
       some (.inl (x7,x12))
      else
       some (.inl (x7,h2_0_))
     else
      ( if(x4.Kind==10) then
        some (x4.Kind==10)
       else
        some (x4.Kind==11):Option (Bool))>>=fun o13 =>
      if o13 then
       if x6 then
        some (.inr (.inr ()))
       else
        if(x4.Kind==11) then
         appL 32 x7 [(Qak.mk x4.Name 0 false)]>>=fun x14 =>
         some (.inl (x14,h2_0_))
        else
         some (.inl (x7,h2_0_))
      else
       if(x4.Kind==12) then
        appL 32 x7 [(Qak.mk x4.Name 0 x6)]>>=fun x15 =>
        some (.inl (x15,h2_0_))
       else
        if(x4.Kind==13) then
         Qb7 (Qaf.mk x4.Name x6) h0_0 h0_2_ h0_3_ h1_0_ h2_0_>>=fun x16 =>
         some (.inr (.inl (x16.1,x16.2.1,x16.2.2.1,x16.2.2.2)))
        else
         some (.inl (x7,h2_0_)):Option (((List Qak)×Int)⊕((List UInt8)×Bool×(List (Qaf×Int))×Int)⊕Unit))>>=fun o8 =>
    match o8 with
    | .inl y9 =>
     Qay p1 x4.Then y9.1 h0_0 h0_2_ h0_3_ h1_0_ y9.2>>=fun x17 =>
     Qay p1 x4.Else p3 h0_0 x17.1 x17.2.1 x17.2.2.1 x17.2.2.2>>=fun x18 =>
     Qav p1 p2 p3 h0_0 (wr (v14+1)) x18.1 x18.2.1 x18.2.2.1 x18.2.2.2
    | .inr (.inl y10) =>
     Qav p1 p2 p3 h0_0 (wr (v14+1)) y10.1 y10.2.1 y10.2.2.1 y10.2.2.2
    | .inr (.inr y11) =>
     some (.inr (p1,true,h1_0_,h2_0_))
 else
  some (.inl (h0_2_,h0_3_,h1_0_,h2_0_))
 partial_fixpoint
def Qb7 (p1:Qaf) (h0_0:(List Qac)) (h0_2:(List UInt8)) (h0_3:Bool) (h1_0:(List (Qaf×Int))) (h2_0:Int):Option ((List UInt8)×Bool×(List (Qaf×Int))×Int) :=
 if(decide (((mget (fun(a b:Qaf)=>(a.name_==b.name_&&(a.it_==b.it_&&true))) p1 h1_0).getD 0)>0)) then
  some (h0_2,h0_3,h1_0,h2_0)
 else
  Qf7 h0_0 p1.name_>>=fun x1 =>
  Qay p1.name_ x1.1 ([(Qak.mk [103,114,111,117,112] 0 false),(Qak.mk [105,116] 0 p1.it_)]) h0_0 h0_2 h0_3 (mset (fun(a b:Qaf)=>(a.name_==b.name_&&(a.it_==b.it_&&true))) p1 1 h1_0) h2_0>>=fun x2 =>
  some (x2.1,x2.2.1,x2.2.2.1,x2.2.2.2)
 partial_fixpoint
end
theorem Qlq:∀ (h0_0:(List Qac)),(∀ (p1:(List UInt8)) (p2:(List Qaa)) (p3:(List Qak)) (h0_2:(List UInt8)) (h0_3:Bool) (h1_0:(List (Qaf×Int))) (h2_0:Int) (o:(List UInt8)×Bool×(List (Qaf×Int))×Int),Qay p1 p2 p3 h0_0 h0_2 h0_3 h1_0 h2_0=some o→CallOK Tryz.prog 85 [.ptr 0 0,.p (sV p1),.p (.sl false (p2.map Qab)),.p (.sl false (p3.map Qar))] ⟨[[.p (.sl false (h0_0.map Qah)),.mh 1,.p (sV h0_2),.p (bV h0_3),.fn (.func 64) [] [.ptr 2 0]],[mpD (fun x =>.agg (Qam x)) iV h1_0],[.p (iV h2_0)]],[]⟩ (Qdd o) ⟨[[.p (.sl false (h0_0.map Qah)),.mh 1,.p (sV o.1),.p (bV o.2.1),.fn (.func 64) [] [.ptr 2 0]],[mpD (fun x =>.agg (Qam x)) iV o.2.2.1],[.p (iV o.2.2.2)]],[]⟩)∧(∀ (p1:(List UInt8)) (p2:(List Qaa)) (p3:(List Qak)) (v14:Int) (h0_2_:(List UInt8)) (h0_3_:Bool) (h1_0_:(List (Qaf×Int))) (h2_0_:Int) (o1:((List UInt8)×Bool×(List (Qaf×Int))×Int)⊕((List UInt8)×Bool×(List (Qaf×Int))×Int)),Qav p1 p2 p3 h0_0 v14 h0_2_ h0_3_ h1_0_ h2_0_=some o1→TL (3,0) Tryz.prog 93 Qlk (JP2 (3,0) 93 o1 (.exit 0) (Qfm p1 p2 p3 h0_0) .ret (Qfn p1 p2 p3 h0_0)) (Qbs p1 p2 p3 h0_0 v14 h0_2_ h0_3_ h1_0_ h2_0_))∧(∀ (p1:Qaf) (h0_2:(List UInt8)) (h0_3:Bool) (h1_0:(List (Qaf×Int))) (h2_0:Int) (o:(List UInt8)×Bool×(List (Qaf×Int))×Int),Qb7 p1 h0_0 h0_2 h0_3 h1_0 h2_0=some o→CallOK Tryz.prog 117 [.ptr 0 0,.p (.agg [sV p1.name_,bV p1.it_])] ⟨[[.p (.sl false (h0_0.map Qah)),.mh 1,.p (sV h0_2),.p (bV h0_3),.fn (.func 64) [] [.ptr 2 0]],[mpD (fun x =>.agg (Qam x)) iV h1_0],[.p (iV h2_0)]],[]⟩ (Qfj o) ⟨[[.p (.sl false (h0_0.map Qah)),.mh 1,.p (sV o.1),.p (bV o.2.1),.fn (.func 64) [] [.ptr 2 0]],[mpD (fun x =>.agg (Qam x)) iV o.2.2.1],[.p (iV o.2.2.2)]],[]⟩):=by
 intro h0_0;refine Qay.mutual_partial_correctness h0_0 _ _ _ ?_ ?_ ?_
 ·intro Qav' iQav p1 p2 p3 h0_2 h0_3 h1_0 h2_0 o h;refine CallOK.ofB mixed tbOk Qgm Tryz.func85 rfl (by kernel_rfl) (Nat.le_of_ble_eq_true rfl) rfl rfl rfl ?_;refine view (Qej _ _) rfl ?_;refine Qal h (fun o1 ho hk=>?_);refine Exists.intro (JP2 _ _ o1 (.exit 0) (Qfm p1 p2 p3 h0_0) .ret (Qfn p1 p2 p3 h0_0)) (And.intro (Qk2 (τ := Qbs p1 p2 p3 h0_0 0 h0_2 h0_3 h1_0 h2_0) ?_ (TL.loop (iQav p1 p2 p3 0 h0_2 h0_3 h1_0 h2_0 o1 ho))) (Qjy (fun y2 hy=>?_) (fun y3 hy=>?_)))
  ·exact Le.tz 3 0 rfl rfl rfl
  ·have h:=(by rw[hy] at hk; exact hk);refine Exists.intro _ (And.intro (Le.refl _ _ _) ?_);refine Qa5 (t:=Qdd) (ss:=fun o=>⟨[[.p (.sl false (h0_0.map Qah)),.mh 1,.p (sV o.1),.p (bV o.2.1),.fn (.func 64) [] [.ptr 2 0]],[mpD (fun x =>.agg (Qam x)) iV o.2.2.1],[.p (iV o.2.2.2)]],[]⟩) h ?_;exact⟨[],rfl,.refl _,.refl _,rfl⟩
  ·have h:=(by rw[hy] at hk; exact hk);refine Exists.intro _ (And.intro (Le.refl _ _ _) ?_);refine Qa5 (t:=Qdd) (ss:=fun o=>⟨[[.p (.sl false (h0_0.map Qah)),.mh 1,.p (sV o.1),.p (bV o.2.1),.fn (.func 64) [] [.ptr 2 0]],[mpD (fun x =>.agg (Qam x)) iV o.2.2.1],[.p (iV o.2.2.2)]],[]⟩) h ?_;exact⟨[],rfl,.refl _,.refl _,rfl⟩
 ·intro Qay' Qav' Qb7' iQay iQav iQb7 p1 p2 p3 v14 h0_2_ h0_3_ h1_0_ h2_0_ o1 h;refine TL.round (Qas mixed tbOk (lv:=Qgm) _ _ _ ?_);refine Qae h (fun hb h=>?_) (fun hb h=>?_)
  ·refine Qco (l:=p2) (c:=Qab) (c' := Qbh) h Qap (fun _=>rfl) (by decide) (fun x4 hi h=>?_);refine Qae h (fun hb h=>?_) (fun hb h=>?_)
   ·exact JP2.b h (Le.trans (τ := ⟨[],⟨[[.p (.sl false (h0_0.map Qah)),.mh 1,.p (sV h0_2_),.p (bV h0_3_),.fn (.func 64) [] [.ptr 2 0]],[mpD (fun x =>.agg (Qam x)) iV h1_0_],[.p (iV h2_0_)],[.p (iV x4.Kind),.p (sV x4.Name),.p (sV x4.Text),.p (iV x4.N),.p (.sl false (x4.L.map Qab)),.p (.sl false (x4.Then.map Qab)),.p (.sl false (x4.Else.map Qab))]],[]⟩⟩) (Le.weak (.nil) (.refl _) rfl) (Le.tz 3 0 rfl rfl rfl))
   ·refine Qae h (fun hb h=>?_) (fun hb h=>?_)
    ·refine TL.le (τ := Qbs p1 p2 p3 h0_0 (wr (v14+1)) h0_2_ h0_3_ h1_0_ h2_0_) ?_ ((iQav p1 p2 p3 (wr (v14+1)) h0_2_ h0_3_ h1_0_ h2_0_ _ h));exact Le.tz 3 0 rfl rfl rfl
    ·refine Qco (l:=x4.L) (c:=Qab) (c' := Qbh) h Qap (fun _=>rfl) (by decide) (fun x5 hi h=>?_);refine Qat [.agg [iV x5.Kind,sV x5.Name,sV x5.Text,iV x5.N,.sl false (x5.L.map Qab),.sl false (x5.Then.map Qab),.sl false (x5.Else.map Qab)],.sl false (p3.map Qar)] Qcp h (fun x6 hy=>(Qqh x5 p3 x6 hy)) (fun x6 hy h=>?_);refine Qan _ _ h (fun x7 hy=>((Qd9 p3 x7 hy).fr [] [] rfl rfl rfl)) (fun x7 hy h=>?_);refine Qal h (fun o8 ho hk=>?_);refine Exists.intro (JP3 _ _ o8 .normal (Qlg p1 p2 p3 h0_0 v14 h0_2_ h0_3_ h1_0_ h2_0_ x4) (.exit 1) (Qlh p1 p2 p3 h0_0 v14 h0_2_ h0_3_ h1_0_ h2_0_ x4) .ret (Qli p1 p2 p3 h0_0 v14 h0_2_ h0_3_ h1_0_ h2_0_ x4)) (And.intro ?_ (Qaic (fun y9 hy=>?_) (fun y10 hy=>?_) (fun y11 hy=>?_)))
     ·have h:=ho;refine Qae h (fun hb h=>?_) (fun hb h=>?_)
      ·refine Qae h (fun hb h=>?_) (fun hb h=>?_)
       ·refine Qan _ _ h (fun x12 hy=>((Qt0 h2_0_ x12 hy).fr [2] [] rfl rfl rfl)) (fun x12 hy h=>?_);refine JP3.a h ?_;exact Le.tz 4 1 rfl rfl rfl
       ·refine JP3.a h ?_;exact Le.tz 4 1 rfl rfl rfl
      ·refine Qal h (fun o13 ho hk=>?_);refine Exists.intro (JP1 _ _ o13 .normal (Qlj p1 p2 p3 h0_0 v14 h0_2_ h0_3_ h1_0_ h2_0_ x4 x6 x7)) (And.intro ?_ (Qbb ?_))
       ·have h:=ho;refine Qae h (fun hb h=>?_) (fun hb h=>?_)
        ·refine JP1.a h ?_;exact Le.tz 4 1 rfl rfl rfl
        ·refine JP1.a h ?_;exact Le.tz 4 1 rfl rfl rfl
       ·have h:=hk;refine Qae h (fun hb h=>?_) (fun hb h=>?_)
        ·refine Qae h (fun hb h=>?_) (fun hb h=>?_)
         ·refine JP3.c h ?_;exact Le.tz 4 1 rfl rfl rfl
         ·refine Qae h (fun hb h=>?_) (fun hb h=>?_)
          ·refine Qn2 (a:=x7) (b:=[(Qak.mk x4.Name 0 false)]) (c:=Qar) h (.refl _) (fun _=>rfl) rfl (fun x14 hi h=>?_);refine JP3.a h ?_;exact Le.trans (τ := ⟨[(0,.ptr 0 0),(1,.p (sV p1)),(3,.p (.sl false (p3.map Qar))),(9,.ptr 3 0),(11,.x 0 2 (.sl 46 3 (x14.map Qar))),(12,.p (.sl false (p2.map Qab))),(13,.p (iV (p2.length:Int))),(14,.p (iV v14))],⟨[[.p (.sl false (h0_0.map Qah)),.mh 1,.p (sV h0_2_),.p (bV h0_3_),.fn (.func 64) [] [.ptr 2 0]],[mpD (fun x =>.agg (Qam x)) iV h1_0_],[.p (iV h2_0_)],[.p (iV x4.Kind),.p (sV x4.Name),.p (sV x4.Text),.p (iV x4.N),.p (.sl false (x4.L.map Qab)),.p (.sl false (x4.Then.map Qab)),.p (.sl false (x4.Else.map Qab))]],[2]⟩⟩) (Le.tz 4 1 rfl rfl rfl) ((Le.ver (.s 11) 0 2 1 rfl rfl rfl rfl).trans (Le.tz 4 1 rfl rfl rfl))
          ·refine JP3.a h ?_;exact Le.tz 4 1 rfl rfl rfl
        ·refine Qae h (fun hb h=>?_) (fun hb h=>?_)
         ·refine Qn2 (a:=x7) (b:=[(Qak.mk x4.Name 0 x6)]) (c:=Qar) h (.refl _) (fun _=>rfl) rfl (fun x15 hi h=>?_);refine JP3.a h ?_;exact Le.trans (τ := ⟨[(0,.ptr 0 0),(1,.p (sV p1)),(3,.p (.sl false (p3.map Qar))),(9,.ptr 3 0),(11,.x 0 2 (.sl 46 3 (x15.map Qar))),(12,.p (.sl false (p2.map Qab))),(13,.p (iV (p2.length:Int))),(14,.p (iV v14))],⟨[[.p (.sl false (h0_0.map Qah)),.mh 1,.p (sV h0_2_),.p (bV h0_3_),.fn (.func 64) [] [.ptr 2 0]],[mpD (fun x =>.agg (Qam x)) iV h1_0_],[.p (iV h2_0_)],[.p (iV x4.Kind),.p (sV x4.Name),.p (sV x4.Text),.p (iV x4.N),.p (.sl false (x4.L.map Qab)),.p (.sl false (x4.Then.map Qab)),.p (.sl false (x4.Else.map Qab))]],[2]⟩⟩) (Le.tz 4 1 rfl rfl rfl) ((Le.ver (.s 11) 0 2 1 rfl rfl rfl rfl).trans (Le.tz 4 1 rfl rfl rfl))
         ·refine Qae h (fun hb h=>?_) (fun hb h=>?_)
          ·refine Qan _ _ h (fun x16 hy=>((iQb7 (Qaf.mk x4.Name x6) h0_2_ h0_3_ h1_0_ h2_0_ x16 hy).fr [0,1,2] [] rfl rfl rfl)) (fun x16 hy h=>?_);refine JP3.b h ?_;exact Le.tz 4 1 rfl rfl rfl
          ·refine JP3.a h ?_;exact Le.tz 4 1 rfl rfl rfl
     ·have h:=(by rw[hy] at hk; exact hk);refine Exists.intro _ (And.intro (Le.frzv (.s 11) 0 1 rfl rfl rfl rfl) ?_);refine Qan _ _ h (fun x17 hy=>((iQay p1 x4.Then y9.1 h0_2_ h0_3_ h1_0_ y9.2 x17 hy).fr [0,1,2] [] rfl rfl rfl)) (fun x17 hy h=>?_);refine Qan _ _ h (fun x18 hy=>((iQay p1 x4.Else p3 x17.1 x17.2.1 x17.2.2.1 x17.2.2.2 x18 hy).fr [0,1,2] [] rfl rfl rfl)) (fun x18 hy h=>?_);refine TL.le (τ := Qbs p1 p2 p3 h0_0 (wr (v14+1)) x18.1 x18.2.1 x18.2.2.1 x18.2.2.2) ?_ ((iQav p1 p2 p3 (wr (v14+1)) x18.1 x18.2.1 x18.2.2.1 x18.2.2.2 _ h));exact Le.tz 3 0 rfl rfl rfl
     ·have h:=(by rw[hy] at hk; exact hk);refine TL.le (τ := Qbs p1 p2 p3 h0_0 (wr (v14+1)) y10.1 y10.2.1 y10.2.2.1 y10.2.2.2) ?_ ((iQav p1 p2 p3 (wr (v14+1)) y10.1 y10.2.1 y10.2.2.1 y10.2.2.2 _ h));exact Le.tz 3 0 rfl rfl rfl
     ·have h:=(by rw[hy] at hk; exact hk);exact JP2.b h (Le.tz 3 0 rfl rfl rfl)
  ·exact JP2.a h (Le.tz 3 0 rfl rfl rfl)
 ·intro Qay' iQay p1 h0_2 h0_3 h1_0 h2_0 o h;refine CallOK.ofB mixed tbOk Qof Tryz.func117 rfl (by kernel_rfl) (Nat.le_of_ble_eq_true rfl) rfl rfl rfl ?_;refine And.intro (by decide +kernel) (And.intro rfl ?_);refine And.intro rfl ?_;refine Qpo (l:=h1_0) (k:=p1) (fun(a b:Qaf)=>(a.name_==b.name_&&(a.it_==b.it_&&true))) (ck:=(fun x =>.agg (Qam x))) (ca:=iV) (z0:=0) (by exact rfl) (by exact rfl) (by exact rfl) (by exact fun _ _=>rfl) (by exact rfl) (by exact .refl _) ?_;refine Qae h (fun hb h=>?_) (fun hb h=>?_)
  ·refine Exists.intro _ (And.intro (Le.refl _ _ _) ?_);refine Qa5 (t:=Qfj) (ss:=fun o=>⟨[[.p (.sl false (h0_0.map Qah)),.mh 1,.p (sV o.1),.p (bV o.2.1),.fn (.func 64) [] [.ptr 2 0]],[mpD (fun x =>.agg (Qam x)) iV o.2.2.1],[.p (iV o.2.2.2)]],[]⟩) h ?_;exact⟨[],rfl,.refl _,.refl _,rfl⟩
  ·refine And.intro (by decide +kernel) (And.intro (by decide +kernel) (And.intro rfl ?_));refine Q5u (l:=h1_0) (k:=p1) (x:=1) (fun(a b:Qaf)=>(a.name_==b.name_&&(a.it_==b.it_&&true))) (ck:=(fun x =>.agg (Qam x))) (ca:=iV) (by exact rfl) (by exact rfl) (by exact rfl) (by exact .refl _) (by exact fun _ _=>rfl) ?_;refine And.intro (by decide +kernel) (And.intro rfl ?_);refine Qen [.sl false (h0_0.map Qah),sV p1.name_] Qew h (fun x1 hy=>(Qhq h0_0 p1.name_ x1 hy)) (fun x1 hy h=>?_);refine Qan _ _ h (fun x2 hy=>((iQay p1.name_ x1.1 ([(Qak.mk [103,114,111,117,112] 0 false),(Qak.mk [105,116] 0 p1.it_)]) h0_2 h0_3 (mset (fun(a b:Qaf)=>(a.name_==b.name_&&(a.it_==b.it_&&true))) p1 1 h1_0) h2_0 x2 hy).fr [0,1,2] [] rfl rfl rfl).weakC (.cons (.refl _) (.cons (.refl _) (.cons (.refl _) (.cons (.p (.not)) (.nil)))))) (fun x2 hy h=>?_);refine Exists.intro _ (And.intro (Le.refl _ _ _) ?_);refine Qa5 (t:=Qfj) (ss:=fun o=>⟨[[.p (.sl false (h0_0.map Qah)),.mh 1,.p (sV o.1),.p (bV o.2.1),.fn (.func 64) [] [.ptr 2 0]],[mpD (fun x =>.agg (Qam x)) iV o.2.2.1],[.p (iV o.2.2.2)]],[]⟩) h ?_;exact⟨[],rfl,.refl _,.refl _,rfl⟩
theorem Qmw:∀ (p1:(List UInt8)) (p2:(List Qaa)) (p3:(List Qak)) (h0_0:(List Qac)) (h0_2:(List UInt8)) (h0_3:Bool) (h1_0:(List (Qaf×Int))) (h2_0:Int) (o:(List UInt8)×Bool×(List (Qaf×Int))×Int),Qay p1 p2 p3 h0_0 h0_2 h0_3 h1_0 h2_0=some o→CallOK Tryz.prog 85 [.ptr 0 0,.p (sV p1),.p (.sl false (p2.map Qab)),.p (.sl false (p3.map Qar))] ⟨[[.p (.sl false (h0_0.map Qah)),.mh 1,.p (sV h0_2),.p (bV h0_3),.fn (.func 64) [] [.ptr 2 0]],[mpD (fun x =>.agg (Qam x)) iV h1_0],[.p (iV h2_0)]],[]⟩ (Qdd o) ⟨[[.p (.sl false (h0_0.map Qah)),.mh 1,.p (sV o.1),.p (bV o.2.1),.fn (.func 64) [] [.ptr 2 0]],[mpD (fun x =>.agg (Qam x)) iV o.2.2.1],[.p (iV o.2.2.2)]],[]⟩:=fun p1 p2 p3 h0_0 h0_2 h0_3 h1_0 h2_0=>(Qlq h0_0).1 p1 p2 p3 h0_2 h0_3 h1_0 h2_0
def Qcn (p0:(List Qac)) (p1:(List UInt8)) (h0_0:Int):Option ((List UInt8)×Int×Int) :=
 Qix p0>>=fun x1 =>
 if(x1.2 != 0) then
  some (x1.1,x1.2,h0_0)
 else
  Qf7 p0 p1>>=fun x2 =>
  if(!x2.2) then
   some ([],4,h0_0)
  else
   Qay p1 x2.1 ([(Qak.mk [103,114,111,117,112] 0 false)]) p0 [] false [] h0_0>>=fun x3 =>
   if x3.2.1 then
    some (x3.1,205,x3.2.2.2)
   else
    some ([],0,x3.2.2.2)
theorem Qi9:∀ (p0:(List Qac)) (p1:(List UInt8)) (h0_0:Int) (o:(List UInt8)×Int×Int),Qcn p0 p1 h0_0=some o→CallOK Tryz.prog 61 [.p (.sl false (p0.map Qah)),.p (sV p1),.fn (.func 64) [] [.ptr 0 0]] ⟨[[.p (iV h0_0)]],[]⟩ (Qbl o) ⟨[[.p (iV o.2.2)]],[]⟩:=by
 intro p0 p1 h0_0 o h;unfold Qcn at h;refine CallOK.ofB mixed tbOk Qi2 Tryz.func61 rfl (by kernel_rfl) (Nat.le_of_ble_eq_true rfl) rfl rfl rfl ?_;refine Qat [.sl false (p0.map Qah)] Qd7 h (fun x1 hy=>(Qrw p0 x1 hy)) (fun x1 hy h=>?_);refine Qae h (fun hb h=>?_) (fun hb h=>?_)
 ·refine Exists.intro _ (And.intro (Le.refl _ _ _) ?_);exact Qa5 (t:=Qbl) (ss:=fun o=>⟨[[.p (iV o.2.2)]],[]⟩) h ⟨[],rfl,.refl _,.refl _,rfl⟩
 ·refine Qat [.sl false (p0.map Qah),sV p1] Qew h (fun x2 hy=>(Qhq p0 p1 x2 hy)) (fun x2 hy h=>?_);refine Qae h (fun hb h=>?_) (fun hb h=>?_)
  ·refine Exists.intro _ (And.intro (Le.refl _ _ _) ?_);exact Qa5 (t:=Qbl) (ss:=fun o=>⟨[[.p (iV o.2.2)]],[]⟩) h ⟨[],rfl,.refl _,.refl _,rfl⟩
  ·refine And.intro rfl (Exists.intro false ?_);refine Qan _ _ h (fun x3 hy=>((Qmw p1 x2.1 ([(Qak.mk [103,114,111,117,112] 0 false)]) p0 [] false [] h0_0 x3 hy).fr [2,1,0] [] rfl rfl rfl).weakC (.cons (.refl _) (.cons (.refl _) (.cons (.refl _) (.cons (.p (.not)) (.nil)))))) (fun x3 hy h=>?_);refine Qae h (fun hb h=>?_) (fun hb h=>?_)
   ·refine Exists.intro _ (And.intro (Le.refl _ _ _) ?_);exact Qa5 (t:=Qbl) (ss:=fun o=>⟨[[.p (iV o.2.2)]],[]⟩) h ⟨[],rfl,.refl _,.refl _,rfl⟩
   ·refine Exists.intro _ (And.intro (Le.refl _ _ _) ?_);exact Qa5 (t:=Qbl) (ss:=fun o=>⟨[[.p (iV o.2.2)]],[]⟩) h ⟨[],rfl,.refl _,.refl _,rfl⟩
def Qec (p0:(List Qac)) (p1:(List UInt8)):Option (Bool) :=
 Qcn p0 p1 0>>=fun x1 =>
 ( if(x1.2.1==0) then
   some (decide (x1.2.2>0))
  else
   some false:Option (Bool))>>=fun o2 =>
 some o2
theorem Qgw:∀ (p0:(List Qac)) (p1:(List UInt8)) (o:Bool),Qec p0 p1=some o→PCall Tryz.prog 29 [.sl false (p0.map Qah),sV p1] (Qes o):=by
 intro p0 p1 o h;unfold Qec at h;refine PCall.ofB mixed tbOk Qv5 Tryz.func29 rfl (by kernel_rfl) (Nat.le_of_ble_eq_true rfl) ?_;refine Qan _ _ h (fun x1 hy=>((Qi9 p0 p1 0 x1 hy).fr [0] [] rfl rfl rfl)) (fun x1 hy h=>?_);refine Qal h (fun o2 ho hk=>?_);refine Exists.intro (JP1 _ _ o2 .normal (Qtv x1)) (And.intro ?_ (Qbb ?_))
 ·have h:=ho;refine Qae h (fun hb h=>?_) (fun hb h=>?_)
  ·refine JP1.a h ?_;exact Le.tz 1 0 rfl rfl rfl
  ·refine JP1.a h ?_;exact Le.tz 1 0 rfl rfl rfl
 ·have h:=hk;refine Qax (t:=Qes) h ?_;exact .refl _
def Qc4:Option (Bool) :=
 Qdw [123,123,32,115,101,99,114,101,116,40,34,107,34,41,32,125,125]>>=fun x1 =>
 Qdw [123,123,32,108,101,116,32,97,32,61,32,117,112,112,101,114,40,115,101,99,114,101,116,40,34,107,34,41,41,32,125,125,123,123,32,101,110,100,32,125,125]>>=fun x2 =>
 Qeb x1 [109]>>=fun x3 =>
 Qdw [123,123,32,105,102,32,115,97,109,101,40,115,101,99,114,101,116,40,34,107,34,41,44,32,34,120,34,41,32,125,125,97,123,123,32,101,110,100,32,125,125]>>=fun x4 =>
 Qeb x4 [109]>>=fun x5 =>
 Qeb x2 [109]>>=fun x6 =>
 ( if(x3.2==0) then
   Qec x1 [109]>>=fun x8 =>
   if x8 then
    if(x5.1==[109]) then
     if(x5.2==205) then
      if(x6.2==0) then
       Qec x2 [109]>>=fun x9 =>
       some (!x9)
      else
       some false
     else
      some false
    else
     some false
   else
    some false
  else
   some false:Option (Bool))>>=fun o7 =>
 some o7
theorem Qgh:∀ (o:Bool),Qc4  = some o→PCall Tryz.prog 25 [] (Qdv o):=by
 intro o h;unfold Qc4 at h;refine PCall.ofB mixed tbOk Qrg Tryz.func25 rfl (by kernel_rfl) (Nat.le_of_ble_eq_true rfl) ?_;refine Qat [sV [123,123,32,115,101,99,114,101,116,40,34,107,34,41,32,125,125]] Qeq h (fun x1 hy=>(Qhz [123,123,32,115,101,99,114,101,116,40,34,107,34,41,32,125,125] x1 hy)) (fun x1 hy h=>?_);refine Qat [sV [123,123,32,108,101,116,32,97,32,61,32,117,112,112,101,114,40,115,101,99,114,101,116,40,34,107,34,41,41,32,125,125,123,123,32,101,110,100,32,125,125]] Qeq h (fun x2 hy=>(Qhz [123,123,32,108,101,116,32,97,32,61,32,117,112,112,101,114,40,115,101,99,114,101,116,40,34,107,34,41,41,32,125,125,123,123,32,101,110,100,32,125,125] x2 hy)) (fun x2 hy h=>?_);refine Qat [.sl false (x1.map Qah),sV [109]] Qer h (fun x3 hy=>(Qgv x1 [109] x3 hy)) (fun x3 hy h=>?_);refine Qat [sV [123,123,32,105,102,32,115,97,109,101,40,115,101,99,114,101,116,40,34,107,34,41,44,32,34,120,34,41,32,125,125,97,123,123,32,101,110,100,32,125,125]] Qeq h (fun x4 hy=>(Qhz [123,123,32,105,102,32,115,97,109,101,40,115,101,99,114,101,116,40,34,107,34,41,44,32,34,120,34,41,32,125,125,97,123,123,32,101,110,100,32,125,125] x4 hy)) (fun x4 hy h=>?_);refine Qat [.sl false (x4.map Qah),sV [109]] Qer h (fun x5 hy=>(Qgv x4 [109] x5 hy)) (fun x5 hy h=>?_);refine Qat [.sl false (x2.map Qah),sV [109]] Qer h (fun x6 hy=>(Qgv x2 [109] x6 hy)) (fun x6 hy h=>?_);refine Qal h (fun o7 ho hk=>?_);refine Exists.intro (JP1 _ _ o7 .normal (Qpc )) (And.intro ?_ (Qbb ?_))
 ·have h:=ho;refine Qae h (fun hb h=>?_) (fun hb h=>?_)
  ·refine Qat [.sl false (x1.map Qah),sV [109]] Qes h (fun x8 hy=>(Qgw x1 [109] x8 hy)) (fun x8 hy h=>?_);refine Qae h (fun hb h=>?_) (fun hb h=>?_)
   ·refine Qae h (fun hb h=>?_) (fun hb h=>?_)
    ·refine Qae h (fun hb h=>?_) (fun hb h=>?_)
     ·refine Qae h (fun hb h=>?_) (fun hb h=>?_)
      ·refine Qat [.sl false (x2.map Qah),sV [109]] Qes h (fun x9 hy=>(Qgw x2 [109] x9 hy)) (fun x9 hy h=>?_);refine JP1.a h ?_;exact Le.tz 0 0 rfl rfl rfl
      ·refine JP1.a h ?_;exact Le.tz 0 0 rfl rfl rfl
     ·refine bF ?_;refine JP1.a h ?_;exact Le.tz 0 0 rfl rfl rfl
    ·refine bF ?_;refine bF ?_;refine JP1.a h ?_;exact Le.tz 0 0 rfl rfl rfl
   ·refine bF ?_;refine bF ?_;refine bF ?_;refine JP1.a h ?_;exact Le.tz 0 0 rfl rfl rfl
  ·refine bF ?_;refine bF ?_;refine bF ?_;refine bF ?_;refine JP1.a h ?_;exact Le.tz 0 0 rfl rfl rfl
 ·have h:=hk;refine Qax (t:=Qdv) h ?_;exact .refl _
def Qbd (p0:Int) (p1:Bool) (p2:Bool) (v8:(List Qac)) (v9:Int):Option ((List Qac)) :=
 if(decide (v9<(wr (1+((wr p0).tmod 14))))) then
  b2s [(IntKind.u8.wrap (wr ((wr (97+v9))-1)))]>>=fun x5 =>
  b2s [(IntKind.u8.wrap (wr (97+v9)))]>>=fun x6 =>
  appL 40 v8 ([(Qac.mk x6 ([(Qaa.mk 13 x5 [] 0 ([(Qaa.mk 4 [105,116] [] 0 [] [] [])]) [] [])]))])>>=fun x7 =>
  Qbd p0 p1 p2 x7 (wr (v9+1))
 else
  some v8
 partial_fixpoint
theorem Qux:∀ (p0:Int) (p1:Bool) (p2:Bool),(∀ (v8:(List Qac)) (v9:Int) (o4:(List Qac)),Qbd p0 p1 p2 v8 v9=some o4→TL (0,0) Tryz.prog 119 Qkb (JP1 (0,0) 119 o4 (.exit 0) (Qey p0 p1 p2)) (Qc8 p0 p1 p2 v8 v9)):=by
 intro p0 p1 p2;refine Qbd.partial_correctness p0 p1 p2 _ ?_;intro Qbd' iQbd v8 v9 o4 h;refine TL.round (Qas mixed tbOk (lv:=Qfw) _ _ _ ?_);refine vrfl ?_;refine And.intro (by decide) ?_;refine Qae h (fun hb h=>?_) (fun hb h=>?_)
 ·refine vrfl ?_;refine Qxs (l:=[(IntKind.u8.wrap (wr ((wr (97+v9))-1)))]) h (fun x5 hi h=>?_);refine vrfl ?_;refine Qxs (l:=[(IntKind.u8.wrap (wr (97+v9)))]) h (fun x6 hi h=>?_);refine Qn2 (a:=v8) (b:=[(Qac.mk x6 ([(Qaa.mk 13 x5 [] 0 ([(Qaa.mk 4 [105,116] [] 0 [] [] [])]) [] [])]))]) (c:=Qah) h (.cons (.cons (.refl _) (.cons (.no (.cons (.ceq (Qap _) (.cons (.refl _) (.cons (.refl _) (.cons (.refl _) (.cons (.refl _) (.cons (.no (.cons (.ceq (Qap _) (.cons (.refl _) (.cons (.refl _) (.cons (.refl _) (.cons (.refl _) (.cons (.not) (.cons (.not) (.cons (.not) (.nil))))))))) (.nil))) (.cons (.not) (.cons (.not) (.nil))))))))) (.nil))) (.nil))) (.nil)) (fun _=>rfl) rfl (fun x7 hi h=>?_);refine TL.le (τ := Qc8 p0 p1 p2 x7 (wr (v9+1))) ?_ ((iQbd x7 (wr (v9+1)) _ h));exact Le.trans (τ := ⟨[(0,.p (nV .u8 p0)),(1,.p (bV p1)),(2,.p (bV p2)),(7,.ptr 0 0),(8,.x 0 2 (.sl 56 2 (x7.map Qah))),(9,.p (iV (wr (v9+1))))],⟨[[.p (iV 4),.p (sV [105,116]),.p (sV []),.p (iV 0),.p (.sl true []),.p (.sl true []),.p (.sl true [])],[.p (iV 13),.p (sV x5),.p (sV []),.p (iV 0),.p (.sl true [[iV 4,sV [105,116],sV [],iV 0,.sl true [],.sl true [],.sl true []]]),.p (.sl true []),.p (.sl true [])]],[2]⟩⟩) (Le.tz 2 1 rfl rfl rfl) ((Le.ver (.s 8) 0 2 1 rfl rfl rfl rfl).trans (Le.tz 1 1 rfl rfl rfl))
 ·exact JP1.a h (Le.tz 1 1 rfl rfl rfl)
def Qck (p0:Int) (p1:Bool) (p2:Bool):Option (Bool) :=
 some ([(Qac.mk [97] ([(Qaa.mk 9 [] [] 0 ([(Qaa.mk 4 [105,116] [] 0 [] [] [])]) [] [])]))]:List Qac)>>=fun x1 =>
 ( if p2 then
   idx x1 0>>=fun x3 =>
   some (x1.set ((0:Int).toNat) (Qac.mk x3.Name ([(Qaa.mk 10 [] [] 0 ([(Qaa.mk 6 [110,111,116] [] 0 ([(Qaa.mk 4 [105,116] [] 0 [] [] [])]) [] [])]) [] [])])))
  else
   some x1:Option ((List Qac)))>>=fun o2 =>
 (Qbd p0 p1 p2 o2 1)>>=fun o4 =>
 ( if p1 then
   some (7,[107],0)
  else
   some (3,[],1):Option ((Int×(List UInt8)×Int)))>>=fun o8 =>
 idx o4 (wr ((o4.length:Int)-1))>>=fun x9 =>
 appL 40 o4 ([(Qac.mk [114,111,111,116] ([(Qaa.mk 13 x9.Name [] 0 ([(Qaa.mk o8.1 o8.2.1 [] o8.2.2 [] [] [])]) [] [])]))])>>=fun x10 =>
 Qeb x10 [114,111,111,116]>>=fun x11 =>
 ( if p1 then
   some p2
  else
   some false:Option (Bool))>>=fun o12 =>
 if o12 then
  ( if(x11.1==[97]) then
    if(x11.2==205) then
     Qec x10 [114,111,111,116]>>=fun x14 =>
     if(!x14) then
      Qc4>>=fun x15 =>
      some x15
     else
      some false
    else
     some false
   else
    some false:Option (Bool))>>=fun o13 =>
  some o13
 else
  ( if(x11.1==[]) then
    if(x11.2==0) then
     Qec x10 [114,111,111,116]>>=fun x17 =>
     if p1 then
      if(x17==(!p2)) then
       Qc4>>=fun x18 =>
       some x18
      else
       some false
     else
      if(x17==false) then
       Qc4>>=fun x19 =>
       some x19
      else
       some false
    else
     some false
   else
    some false:Option (Bool))>>=fun o16 =>
  some o16
theorem Qlm:∀ (p0:Int) (p1:Bool) (p2:Bool) (o:Bool),Qck p0 p1 p2=some o→PCall Tryz.prog 8 [nV .u8 p0,bV p1,bV p2] (Qd4 o):=by
 intro p0 p1 p2 o h;unfold Qck at h;refine PCall.ofB mixed tbOk Qfw Tryz.func8 rfl (by kernel_rfl) (Nat.le_of_ble_eq_true rfl) ?_;refine Qal h (fun x1 hx1 h=>?_);refine Exists.intro (x1.map Qah) (And.intro (by cases hx1; exact .cons (.cons (.refl _) (.cons (.no (.cons (.ceq (Qap _) (.cons (.refl _) (.cons (.refl _) (.cons (.refl _) (.cons (.refl _) (.cons (.no (.cons (.ceq (Qap _) (.cons (.refl _) (.cons (.refl _) (.cons (.refl _) (.cons (.refl _) (.cons (.not) (.cons (.not) (.cons (.not) (.nil))))))))) (.nil))) (.cons (.not) (.cons (.not) (.nil))))))))) (.nil))) (.nil))) (.nil)) ?_);refine Qal h (fun o2 ho hk=>?_);refine Exists.intro (JP1 _ _ o2 .normal (Qka p0 p1 p2)) (And.intro ?_ (Qbb ?_))
 ·have h:=ho;refine Qae h (fun hb h=>?_) (fun hb h=>?_)
  ·refine Qr4 (l:=x1) (c:=Qah) (c' := Qah) h rfl (fun _=>rfl) (fun _=>rfl) (by decide) (fun x3 hi h=>?_);refine And.intro rfl ?_;refine And.intro rfl (And.intro (Nat.le_of_ble_eq_true rfl) (And.intro rfl (And.intro rfl (Exists.intro ((x1.set ((0:Int).toNat) (Qac.mk x3.Name ([(Qaa.mk 10 [] [] 0 ([(Qaa.mk 6 [110,111,116] [] 0 ([(Qaa.mk 4 [105,116] [] 0 [] [] [])]) [] [])]) [] [])]))).map Qah) (And.intro (Qaf5 (.cons (.refl _) (.cons (.no (.cons (.ceq (Qap _) (.cons (.refl _) (.cons (.refl _) (.cons (.refl _) (.cons (.refl _) (.cons (.no (.cons (.ceq (Qap _) (.cons (.refl _) (.cons (.refl _) (.cons (.refl _) (.cons (.refl _) (.cons (.no (.cons (.ceq (Qap _) (.cons (.refl _) (.cons (.refl _) (.cons (.refl _) (.cons (.refl _) (.cons (.not) (.cons (.not) (.cons (.not) (.nil))))))))) (.nil))) (.cons (.not) (.cons (.not) (.nil))))))))) (.nil))) (.cons (.not) (.cons (.not) (.nil))))))))) (.nil))) (.nil)))) ?_)))));refine JP1.a h ?_;exact Le.trans (τ := ⟨[(0,.p (nV .u8 p0)),(1,.p (bV p1)),(2,.p (bV p2)),(7,.ptr 0 0),(8,.x 0 2 (.sl 56 2 ((x1.set ((0:Int).toNat) (Qac.mk x3.Name ([(Qaa.mk 10 [] [] 0 ([(Qaa.mk 6 [110,111,116] [] 0 ([(Qaa.mk 4 [105,116] [] 0 [] [] [])]) [] [])]) [] [])]))).map Qah)))],⟨[[.p (iV 4),.p (sV [105,116]),.p (sV []),.p (iV 0),.p (.sl true []),.p (.sl true []),.p (.sl true [])]],[2]⟩⟩) (Le.tz 1 1 rfl rfl rfl) ((Le.ver (.s 8) 0 2 1 rfl rfl rfl rfl).trans (Le.tz 1 1 rfl rfl rfl))
  ·refine JP1.a h ?_;exact Le.tz 1 1 rfl rfl rfl
 ·have h:=hk;refine Qal h (fun o4 ho hk=>?_);refine Exists.intro (JP1 _ _ o4 (.exit 0) (Qey p0 p1 p2)) (And.intro (Qk2 (τ := Qc8 p0 p1 p2 o2 1) ?_ (TL.loop (Qux p0 p1 p2 o2 1 o4 ho))) (Qbb ?_))
  ·exact Le.tz 1 1 rfl rfl rfl
  have h:=hk;refine Qal h (fun o8 ho hk=>?_);refine Exists.intro (JP1 _ _ o8 .normal (Qkc p1 p2 o4)) (And.intro ?_ (Qbb ?_))
  ·have h:=ho;refine Qae h (fun hb h=>?_) (fun hb h=>?_)
   ·refine JP1.a h ?_;exact Le.tz 2 1 rfl rfl rfl
   ·refine JP1.a h ?_;exact Le.tz 2 1 rfl rfl rfl
  ·have h:=hk;refine And.intro (by decide +kernel) (And.intro (by decide +kernel) (And.intro rfl ?_));refine And.intro rfl ?_;refine And.intro rfl (Exists.intro _ (And.intro (List.length_map _) ?_));refine And.intro rfl ?_;refine Qr4 (l:=o4) (c:=Qah) (c' := Qah) h rfl (fun _=>rfl) (fun _=>rfl) (by decide) (fun x9 hi h=>?_);refine And.intro rfl ?_;refine And.intro rfl ?_;refine And.intro rfl ?_;refine And.intro rfl (And.intro (Nat.le_of_ble_eq_true rfl) ?_);refine Qn2 (a:=o4) (b:=[(Qac.mk [114,111,111,116] ([(Qaa.mk 13 x9.Name [] 0 ([(Qaa.mk o8.1 o8.2.1 [] o8.2.2 [] [] [])]) [] [])]))]) (c:=Qah) h (.cons (.cons (.refl _) (.cons (.no (.cons (.ceq (Qap _) (.cons (.refl _) (.cons (.refl _) (.cons (.refl _) (.cons (.refl _) (.cons (.no (.cons (.ceq (Qap _) (.cons (.refl _) (.cons (.refl _) (.cons (.refl _) (.cons (.refl _) (.cons (.not) (.cons (.not) (.cons (.not) (.nil))))))))) (.nil))) (.cons (.not) (.cons (.not) (.nil))))))))) (.nil))) (.nil))) (.nil)) (fun _=>rfl) rfl (fun x10 hi h=>?_);refine Exists.intro _ (And.intro (Le.trans (τ := ⟨[(1,.p (bV p1)),(2,.p (bV p2)),(8,.x 0 2 (.sl 56 2 (x10.map Qah)))],⟨[[.p (iV 4),.p (sV [105,116]),.p (sV []),.p (iV 0),.p (.sl true []),.p (.sl true []),.p (.sl true [])],[.p (iV o8.1),.p (sV o8.2.1),.p (sV []),.p (iV o8.2.2),.p (.sl true []),.p (.sl true []),.p (.sl true [])]],[2]⟩⟩) (Le.tz 2 1 rfl rfl rfl) (Le.frzv (.s 8) 0 2 rfl rfl rfl rfl)) ?_)
   refine Qat [.sl false (x10.map Qah),sV [114,111,111,116]] Qer h (fun x11 hy=>(Qgv x10 [114,111,111,116] x11 hy)) (fun x11 hy h=>?_);refine Qal h (fun o12 ho hk=>?_);refine Exists.intro (JP1 _ _ o12 .normal (Qkd p1 p2 o8 x10 x11)) (And.intro ?_ (Qbb ?_))
   ·have h:=ho;refine Qae h (fun hb h=>?_) (fun hb h=>?_)
    ·refine JP1.a h ?_;exact Le.tz 2 1 rfl rfl rfl
    ·refine JP1.a h ?_;exact Le.tz 2 1 rfl rfl rfl
   ·have h:=hk;refine Qae h (fun hb h=>?_) (fun hb h=>?_)
    ·refine Qal h (fun o13 ho hk=>?_);refine Exists.intro (JP1 _ _ o13 .normal (Qke o8)) (And.intro ?_ (Qbb ?_))
     ·have h:=ho;refine Qae h (fun hb h=>?_) (fun hb h=>?_)
      ·refine Qae h (fun hb h=>?_) (fun hb h=>?_)
       ·refine Qat [.sl false (x10.map Qah),sV [114,111,111,116]] Qes h (fun x14 hy=>(Qgw x10 [114,111,111,116] x14 hy)) (fun x14 hy h=>?_);refine Qae h (fun hb h=>?_) (fun hb h=>?_)
        ·refine Qat [] Qdv h (fun x15 hy=>(Qgh x15 hy)) (fun x15 hy h=>?_);refine JP1.a h ?_;exact Le.tz 2 1 rfl rfl rfl
        ·refine JP1.a h ?_;exact Le.tz 2 1 rfl rfl rfl
       ·refine bF ?_;refine JP1.a h ?_;exact Le.tz 2 1 rfl rfl rfl
      ·refine bF ?_;refine bF ?_;refine JP1.a h ?_;exact Le.tz 2 1 rfl rfl rfl
     ·have h:=hk;refine Qax (t:=Qd4) h ?_;exact .refl _
    ·refine Qal h (fun o16 ho hk=>?_);refine Exists.intro (JP1 _ _ o16 .normal (Qkf o8)) (And.intro ?_ (Qbb ?_))
     ·have h:=ho;refine Qae h (fun hb h=>?_) (fun hb h=>?_)
      ·refine Qae h (fun hb h=>?_) (fun hb h=>?_)
       ·refine Qat [.sl false (x10.map Qah),sV [114,111,111,116]] Qes h (fun x17 hy=>(Qgw x10 [114,111,111,116] x17 hy)) (fun x17 hy h=>?_);refine Qae h (fun hb h=>?_) (fun hb h=>?_)
        ·refine Qae h (fun hb h=>?_) (fun hb h=>?_)
         ·refine Qat [] Qdv h (fun x18 hy=>(Qgh x18 hy)) (fun x18 hy h=>?_);refine JP1.a h ?_;exact Le.tz 2 1 rfl rfl rfl
         ·refine JP1.a h ?_;exact Le.tz 2 1 rfl rfl rfl
        ·refine Qae h (fun hb h=>?_) (fun hb h=>?_)
         ·refine Qat [] Qdv h (fun x19 hy=>(Qgh x19 hy)) (fun x19 hy h=>?_);refine JP1.a h ?_;exact Le.tz 2 1 rfl rfl rfl
         ·refine JP1.a h ?_;exact Le.tz 2 1 rfl rfl rfl
       ·refine bF ?_;refine JP1.a h ?_;exact Le.tz 2 1 rfl rfl rfl
      ·refine bF ?_;refine bF ?_;refine JP1.a h ?_;exact Le.tz 2 1 rfl rfl rfl
     ·have h:=hk;refine Qax (t:=Qd4) h ?_;exact .refl _
end Go.Proofs.YtfgegilhjlnohaaGreat
end

noncomputable section
namespace Go.Proofs.YtfgegilhjlnohaaGreat
open Go.RowKit
set_option linter.unusedSimpArgs false
set_option linter.unusedVariables false
mutual
def nn:Qaa→Nat
 | ⟨_,_,_,_,a,b,c⟩=>1+nns a+nns b+nns c
def nns:List Qaa→Nat
 | []=>0
 | x::r=>nn x+nns r
end
mutual
def dp:Qaa→Nat
 | ⟨_,_,_,_,a,b,c⟩=>1+max (dps a) (max (dps b) (dps c))
def dps:List Qaa→Nat
 | []=>0
 | x::r=>max (dp x) (dps r)
end
mutual
def sm:Qaa→Prop
 | ⟨_,s,t,_,a,b,c⟩=>s.length≤40∧t.length≤60∧sms a∧sms b∧sms c
def sms:List Qaa→Prop
 | []=>True
 | x::r=>sm x∧sms r
end
theorem Qt1(x:Qaa):nn x=1+nns x.L+nns x.Then+nns x.Else:=by cases x; rw[nn]
theorem Qajj(x:Qaa):dp x=1+max (dps x.L) (max (dps x.Then) (dps x.Else)):=by cases x; rw[dp]
theorem Qajk(x:Qaa):sm x↔(x.Name.length≤40∧x.Text.length≤60∧sms x.L∧sms x.Then∧sms x.Else):=by cases x; rw[sm]
theorem Qqi(x:Qaa):1≤nn x:=by rw[Qt1]; omega
theorem Qln:∀ l:List Qaa,l.length≤nns l
 | []=>by simp[nns]
 | x::r=>by have:=Qln r; have:=Qqi x; simp[nns]; omega
theorem Qlo:∀ {l:List Qaa} {x:Qaa},x ∈ l→nn x≤nns l
 | y::r,x,h=>by
  rcases List.mem_cons.1 h with rfl | h
  ·simp[nns]
  ·have:=Qlo h; simp[nns]; omega
section
end
section
end
def Qaga(c:UInt8):Bool:=decide (97≤c.toNat)&&decide (c.toNat≤122)
def digB(c:UInt8):Bool:=decide (48≤c.toNat)&&decide (c.toNat≤57)
def letB(c:UInt8):Bool:=Qaga c||(digB c||c.toNat==95)
def Qahf:List UInt8→Bool
 | []=>false
 | c::_=>decide (97≤c.toNat)
theorem Qabg(c:UInt8)(r:List UInt8):Qahf (c::r)=decide (97≤c.toNat):=rfl
def Qoi(s:List UInt8):Bool := !(s==[])&&(decide (s.length≤32)&&(Qahf s&&s.all letB))
theorem geN(n k:Nat):decide ((n:Int) ≥ (k:Int))=decide (k≤n):=by
 by_cases h:k≤n
 ·rw[decide_eq_true h,decide_eq_true (by omega:(n:Int) ≥ k)]
 ·rw[decide_eq_false h,decide_eq_false (by omega)]
theorem leN(n k:Nat):decide ((n:Int)≤(k:Int))=decide (n≤k):=by
 by_cases h:n≤k
 ·rw[decide_eq_true h,decide_eq_true (by omega:(n:Int)≤k)]
 ·rw[decide_eq_false h,decide_eq_false (by omega)]
theorem eqN(n k:Nat):((n:Int)==(k:Int))=(n==k):=by
 by_cases h:n=k
 ·subst h; simp
 ·rw[beq_eq_false_iff_ne.2 h,beq_eq_false_iff_ne.2 (by omega)]
theorem Qaik(c:UInt8):Qng (c.toNat:Int)=some (digB c):=by
 have a:=geN c.toNat 48;have b:=leN c.toNat 57;rw[Qng];rw[show(48:Int)=((48:Nat):Int) from rfl,show(57:Int)=((57:Nat):Int) from rfl,a,b,digB];cases decide (48≤c.toNat)<;>rfl
theorem Qahg(c:UInt8):Qnh (c.toNat:Int)=some (letB c):=by
 have a:=geN c.toNat 97;have b:=leN c.toNat 122;have d:=eqN c.toNat 95;rw[Qnh,Qaik];rw[show(97:Int)=((97:Nat):Int) from rfl,show(122:Int)=((122:Nat):Int) from rfl,show(95:Int)=((95:Nat):Int) from rfl,a,b,d,letB,Qaga];simp only[Qad];cases decide (97≤c.toNat)<;>cases decide (c.toNat≤122)<;>cases digB c<;>cases (c.toNat==95)<;>rfl
theorem Qail(s:List UInt8)(hs:s.length<9223372036854775807):∀ k,k≤s.length→Qg3 s k=some (if(s.drop k).all letB then .inl () else .inr ()):=by
 refine upto ?_ fun k hk ih=>?_
 ·rw[Qg3]; simp
 ·rw[Qg3,Qcb (by omega),ih];simp only[ltI,hk,decide_true,if_true,Qcf,getE hk,Qad,Qahg];rw[Qgf hk,List.all_cons];cases letB s[k]<;>rfl
theorem Qaim(s:List UInt8)(hs:s.length<9223372036854775807):Qoa s=some (Qoi s):=by
 have h:=Qail s hs 0 (by omega);rw[Qoa,show(0:Int)=((0:Nat):Int) from rfl,h,List.drop_zero,Qoi];have e:=leN s.length 32;rw[show(32:Int)=((32:Nat):Int) from rfl,e];cases ha:s.all letB with
 | false=>cases (s==[])<;>cases decide (s.length≤32)<;>cases Qahf s<;>rfl
 | true =>
  cases s with
  | nil=>rfl
  | cons c r =>
   have g:=geN c.toNat 97;rw[show(97:Int)=((97:Nat):Int) from rfl];simp only[if_true,Qad,Qcf,List.getElem?_cons_zero,g,Qabg];have e0:((c::r)==([]:List UInt8))=false:=rfl;rw[e0];cases decide ((c::r).length≤32)<;>simp
theorem Qahh(a b:List UInt8):s2b (a++b)=s2b a++s2b b:=by simp[s2b]
theorem Qy0(a:List UInt8):(s2b a).length=a.length:=by simp[s2b]
theorem Qahi(l:List UInt8):b2s (s2b l)=some l:=by
 unfold b2s s2b;rw[if_pos]
 ·rw[List.map_map];congr 1;have:∀ c:UInt8,((fun n:Int=>UInt8.ofNat n.toNat) ∘ fun c:UInt8=>(c.toNat:Int)) c=c:=fun c=>by simp
  rw[show((fun n:Int=>UInt8.ofNat n.toNat) ∘ fun c:UInt8=>(c.toNat:Int))=id from funext this,List.map_id]
 ·rw[List.all_eq_true];intro n hn;obtain⟨c,-,rfl⟩:=List.mem_map.1 hn;have:=c.toNat_lt;simp only[decide_eq_true_eq];omega
def kws:List (List UInt8):=[[105,102],[101,108,115,101],[101,110,100],[101,97,99,104],[105,110],[108,101,116],[117,115,101],[116,114,117,101],[102,97,108,115,101],[115,101,99,114,101,116]]
def Qgb(s:List UInt8):Bool := !(kws.any (· == s))&&Qoi s
theorem Qahj(s:List UInt8)(hs:s.length<9223372036854775807):Qhs s=some (Qgb s):=by
 have c:∀ a:List UInt8,(a==s)=(s==a):=fun a=>by rw[Bool.beq_comm]
 rw[Qhs,Qaim s hs,Qgb];simp only[kws,List.any_cons,List.any_nil,c];generalize (s==[105,102])=a1;generalize (s==[101,108,115,101])=a2;generalize (s==[101,110,100])=a3;generalize (s==[101,97,99,104])=a4;generalize (s==[105,110])=a5;generalize (s==[108,101,116])=a6;generalize (s==[117,115,101])=a7;generalize (s==[116,114,117,101])=a8;generalize (s==[102,97,108,115,101])=a9;generalize (s==[115,101,99,114,101,116])=a10;generalize Qoi s=b;cases a1
 ·cases a2
  ·cases a3
   ·cases a4
    ·cases a5
     ·cases a6
      ·cases a7
       ·cases a8
        ·cases a9
         ·cases a10<;>cases b<;>rfl
         ·rfl
        ·rfl
       ·rfl
      ·rfl
     ·rfl
    ·rfl
   ·rfl
  ·rfl
 ·rfl
theorem Q8e{s:List UInt8}(h:Qoi s=true):(s==[])=false:=by
 unfold Qoi at h;cases hs:(s==[]) with
 | false=>rfl
 | true=>rw[hs] at h; cases h
theorem Q6o{s:List UInt8}(h:Qgb s=true):Qoi s=true:=by
 unfold Qgb at h;cases hw:Qoi s with
 | true=>rfl
 | false=>rw[hw] at h; simp at h
def hasB:List UInt8→Bool
 | []=>false
 | c::r=>(c==123&&r.head? == some 123)||hasB r
theorem pre2(l:List UInt8):([123,123]:List UInt8).isPrefixOf l=(match l with | []=>false | c::r=>c==123&&r.head? == some 123):=by
 match l with
 | []=>rfl
 | [c]=>simp[List.isPrefixOf]
 | c::d::r =>
  simp only[List.isPrefixOf,List.head?_cons];have e1:(123==c)=(c==123):=Bool.beq_comm;have e2:(123==d)=(d==123):=Bool.beq_comm;rw[e1,e2];cases (c==123)<;>cases hd:(d==123)<;>simp_all
theorem Q6p:∀ l:List UInt8,decide (Lib.index l [123,123] ≥ 0)=hasB l
 | []=>rfl
 | c::r=>by
  have ih:=Q6p r;have hg:=Lib.index_ge r [123,123];have hp2:([123,123]:List UInt8).isPrefixOf (c::r)=(c==123&&r.head? == some 123):=pre2 (c::r);unfold Lib.index;rw[hp2,hasB];generalize (c==123&&r.head? == some 123)=b;cases b with
  | true=>rfl
  | false =>
   simp only[Bool.false_or];by_cases h1:Lib.index r [123,123] = -1
   ·rw[h1] at ih ⊢;rw[← ih]; rfl
   ·rw[if_neg (by decide),if_neg (by simpa using h1),← ih,decide_eq_true (by omega),decide_eq_true (by omega)]
theorem tHas(s:List UInt8)(hs:s.length<4294967281):Qfc s [123,123]=some (hasB s):=by
 rw[Qfc,Qkn,Qcw,Qr5 hs];simp only[Qad,Q6p]
def endB(s:List UInt8):Bool:=s.getLast? == some 123
theorem tEnd(s:List UInt8)(hs:s.length<4294967281):Qci s [123]=some (endB s):=by
 rw[Qci,Qb8,endB];cases hl:s.getLast? with
 | none =>
  have:s=[]:=List.getLast?_eq_none_iff.1 hl;subst this;rfl
 | some c =>
  have hne:s≠[]:=fun h=>by subst h; cases hl
  have hpos:0<s.length:=List.length_pos_iff.2 hne;have e1:decide ((s.length:Int) ≥ ((([123]:List UInt8).length:Nat):Int))=true:=decide_eq_true (by simp; omega);have e2:wr ((s.length:Int)-((([123]:List UInt8).length:Nat):Int))=((s.length-1:Nat):Int):=by rw[Qik (by simp; omega) (by simp; omega)]; simp; omega
  rw[e1,e2,Qxt (by omega) (by omega) (by omega)];simp only[if_true,Qad,Int.toNat_natCast,List.take_length];have e3:s.drop (s.length-1)=[c]:=by
   have h1:s.length-1<s.length:=by omega
   rw[Qgf h1,List.drop_eq_nil_of_le (by omega)];rw[List.getLast?_eq_getElem?,getE h1] at hl;cases hl; rfl
  rw[e3];simp
mutual
def allN(Q:Qaa→Prop):Qaa→Prop
 | ⟨k,s,t,n,a,b,c⟩=>Q ⟨k,s,t,n,a,b,c⟩∧allL Q a∧allL Q b∧allL Q c
def allL(Q:Qaa→Prop):List Qaa→Prop
 | []=>True
 | x::r=>allN Q x∧allL Q r
end
theorem Q3k(Q:Qaa→Prop)(x:Qaa):allN Q x↔(Q x∧allL Q x.L∧allL Q x.Then∧allL Q x.Else):=by cases x; rw[allN]
theorem Qt2{Q:Qaa→Prop}:∀ {l:List Qaa} {x:Qaa},x ∈ l→allL Q l→allN Q x
 | y::r,x,h,hs=>by
  rw[allL] at hs;rcases List.mem_cons.1 h with rfl | h
  ·exact hs.1
  ·exact Qt2 h hs.2
theorem Qadr{R Q:Qaa→Prop}(h:∀ x:Qaa,x.Name.length≤40→x.Text.length≤60→R x→Q x):∀ n (l:List Qaa),nns l≤n→sms l→allL R l→allL Q l:=by
 intro n
 induction n with
 | zero=>intro l hn _; cases l with
  | nil=>intro _; rw[allL]; trivial
  | cons x r=>have:=Qqi x; simp[nns] at hn; omega
 | succ n ih =>
  intro l
  induction l with
  | nil=>intro _ _ _; rw[allL]; trivial
  | cons x r ihr =>
   intro hn hs hr;rw[nns,Qt1] at hn;rw[sms,Qajk] at hs;obtain⟨⟨h1,h2,h3,h4,h5⟩,h6⟩:=hs;rw[allL,Q3k] at hr ⊢;obtain⟨⟨g1,g2,g3,g4⟩,g5⟩:=hr;exact⟨⟨h x h1 h2 g1,ih _ (by omega) h3 g2,ih _ (by omega) h4 g3,ih _ (by omega) h5 g4⟩,ihr (by omega) h6 g5⟩
structure okNd (x:Qaa):Prop where
 nm:x.Name.length≤1000000
 tx:x.Text.length≤1000000
 rg : -9223372036854775808≤x.N∧x.N≤9223372036854775807
 qt:x.Kind=1→∃ q,Qjo x.Text=some q∧Qp2 x.Text=some q
def Q6q (s:List UInt8):List UInt8×Bool:=(Qjo s).getD ([],false)
def zl(l:List Qaa):Bool:=l.length==0
mutual
def Qv9:Qaa→Bool
 | ⟨k,s,t,n,a,b,c⟩ =>
  if k==1 then(Q6q t).2&&(s==[]&&(n==0&&(zl a&&(zl b&&zl c)))) else
  if k==2 then s==[]&&(t==[]&&(zl a&&(zl b&&zl c))) else
  if k==3 then(n==0||n==1)&&(s==[]&&(t==[]&&(zl a&&(zl b&&zl c)))) else
  if k==4 then Qgb s&&(t==[]&&(n==0&&(zl a&&(zl b&&zl c)))) else
  if k==5 then Qoi s&&(a.length==1&&(Qeu a&&(t==[]&&(n==0&&(zl b&&zl c))))) else
  if k==6 then Qgb s&&(decide (a.length≤3)&&(Qeu a&&(t==[]&&(n==0&&(zl b&&zl c))))) else
  if k==7 then Qoi s&&(t==[]&&(n==0&&(zl a&&(zl b&&zl c)))) else false
def Qeu:List Qaa→Bool
 | []=>true
 | x::r=>Qv9 x&&Qeu r
end
theorem Qoj(x:Qaa):Qv9 x =
  if x.Kind==1 then(Q6q x.Text).2&&(x.Name==[]&&(x.N==0&&(zl x.L&&(zl x.Then&&zl x.Else)))) else
  if x.Kind==2 then x.Name==[]&&(x.Text==[]&&(zl x.L&&(zl x.Then&&zl x.Else))) else
  if x.Kind==3 then(x.N==0||x.N==1)&&(x.Name==[]&&(x.Text==[]&&(zl x.L&&(zl x.Then&&zl x.Else)))) else
  if x.Kind==4 then Qgb x.Name&&(x.Text==[]&&(x.N==0&&(zl x.L&&(zl x.Then&&zl x.Else)))) else
  if x.Kind==5 then Qoi x.Name&&(x.L.length==1&&(Qeu x.L&&(x.Text==[]&&(x.N==0&&(zl x.Then&&zl x.Else))))) else
  if x.Kind==6 then Qgb x.Name&&(decide (x.L.length≤3)&&(Qeu x.L&&(x.Text==[]&&(x.N==0&&(zl x.Then&&zl x.Else))))) else
  if x.Kind==7 then Qoi x.Name&&(x.Text==[]&&(x.N==0&&(zl x.L&&(zl x.Then&&zl x.Else)))) else false:=by cases x; rw[Qv9]
theorem zI(l:List Qaa):((l.length:Int)==0)=zl l:=eqN l.length 0
theorem gI(l:List Qaa):decide ((l.length:Int)>0) = !zl l:=by
 unfold zl;by_cases h:l.length=0
 ·rw[h]; rfl
 ·rw[beq_eq_false_iff_ne.2 h,decide_eq_true (by omega)]; rfl
theorem oneI(l:List Qaa):((l.length:Int)==1)=(l.length==1):=eqN l.length 1
theorem low1(a:BitVec 64):a &&& ~~~1#64=0#64↔(a=0#64∨a=1#64):=by
 constructor
 ·intro h;have hb:∀ i,0<i→a.getLsbD i=false:=fun i hi=>by
   have:=congrArg (fun x:BitVec 64=>x.getLsbD i) h;simp only[BitVec.getLsbD_and,BitVec.getLsbD_not,BitVec.getLsbD_zero] at this;by_cases h64:i<64
   ·have h1:(1#64).getLsbD i=false:=by simp[BitVec.getLsbD_one]; omega
    rw[h1] at this;simpa [h64] using this
   ·exact BitVec.getLsbD_of_ge a i (by omega)
  cases h0:a.getLsbD 0 with
  | false =>
   left;apply BitVec.eq_of_getLsbD_eq;intro i _;by_cases hi:i=0
   ·subst hi; rw[h0]; simp
   ·rw[hb i (by omega)]; simp
  | true =>
   right;apply BitVec.eq_of_getLsbD_eq;intro i _;by_cases hi:i=0
   ·subst hi; rw[h0]; simp
   ·rw[hb i (by omega)]; simp[BitVec.getLsbD_one]; omega
 ·rintro (h | h)<;>subst h<;>decide
theorem ofI{n:Int}(h1 : -9223372036854775808≤n)(h2:n≤9223372036854775807)(m:Int)(h3:0≤m)(h4:m≤1):BitVec.ofInt 64 n=BitVec.ofInt 64 m↔n=m:=by
 constructor
 ·intro h;have:=congrArg BitVec.toInt h;rw[BitVec.toInt_ofInt,BitVec.toInt_ofInt,Int.bmod_def,Int.bmod_def] at this;simp only[show(((2:Nat) ^ 64:Nat):Int)=18446744073709551616 from rfl] at this;split at this<;>split at this<;>omega
 ·intro h; rw[h]
theorem Qajl(m:Nat)(h:m<18446744073709551616):(IntKind.i64.wrap (m:Int)=0)↔m=0:=by
 rw[IntKind.wrap_i64];omega
theorem Qain(n:Int)(h1 : -9223372036854775808≤n)(h2:n≤9223372036854775807):((bits .andNot .i64 n 1)==0)=(n==0||n==1):=by
 have hw:=Qajl (BitVec.ofInt 64 n &&& ~~~(BitVec.ofInt 64 1)).toNat (BitVec.isLt _);have e:bits .andNot .i64 n 1=IntKind.i64.wrap ((BitVec.ofInt 64 n &&& ~~~(BitVec.ofInt 64 1)).toNat:Int):=rfl;have e2:(BitVec.ofInt 64 n &&& ~~~(BitVec.ofInt 64 1)).toNat=0↔(n=0∨n=1):=by
  have z:(BitVec.ofInt 64 n &&& ~~~(BitVec.ofInt 64 1)).toNat=0↔BitVec.ofInt 64 n &&& ~~~1#64=0#64:=by
   constructor
   ·intro h; exact BitVec.eq_of_toNat_eq h
   ·intro h; exact congrArg BitVec.toNat h
  rw[z,low1];have a0:=ofI h1 h2 0 (by omega) (by omega);have a1:=ofI h1 h2 1 (by omega) (by omega);rw[← a0,← a1];exact Iff.rfl
 rw[e2] at hw;rw[e];by_cases h:n=0∨n=1
 ·rw[hw.2 h];rcases h with h | h<;>subst h<;>rfl
 ·have:¬ IntKind.i64.wrap ((BitVec.ofInt 64 n &&& ~~~(BitVec.ofInt 64 1)).toNat:Int)=0:=fun k=>h (hw.1 k)
  rw[beq_eq_false_iff_ne.2 this];simp only[not_or] at h;rw[beq_eq_false_iff_ne.2 h.1,beq_eq_false_iff_ne.2 h.2];rfl
section
variable (n:Nat) (ih:∀ x:Qaa,nn x≤n→allN okNd x→Qfd x=some (Qv9 x))
include ih
theorem Qaio(l:List Qaa)(h:nns l≤n)(ho:allL okNd l)(hl:l.length<9223372036854775807):∀ k,k≤l.length→∃ r,Qaw l k=some r ∧
  (match r with | .inl _=>Qeu (l.drop k)=true | .inr v=>0≤v∧Qeu (l.drop k)=false):=by
 refine upto ?_ fun k hk ihk=>?_
 ·rw[Qaw];refine⟨.inl (),by simp,?_⟩;simp[Qeu]
 ·have hx:=Qlo (List.getElem_mem hk);rw[Qaw,Qcb (by omega)];simp only[ltI,hk,decide_true,if_true,Qcf,getE hk,Qad,Qsf,ih l[k] (by omega) (Qt2 (List.getElem_mem hk) ho)];rw[Qgf hk];simp only[Qeu];cases he:Qv9 l[k] with
  | true =>
   obtain⟨r,h1,h2⟩:=ihk;refine⟨r,by simpa using h1,?_⟩;simpa using h2
  | false=>exact⟨.inr k,by simp,by omega,rfl⟩
end
theorem Qajm:∀ n (x:Qaa),n<1000000000→nn x≤n→allN okNd x→Qfd x=some (Qv9 x):=by
 intro n
 induction n with
 | zero=>intro x _ h; have:=Qqi x; omega
 | succ n ih =>
  intro x hb h ho;rw[Qt1] at h;obtain⟨hq,ho1,-,-⟩:=(Q3k okNd x).1 ho;have hnm:=hq.nm;rw[Qfd,Qhe,Qoj,Qahj x.Name (by omega),Qaim x.Name (by omega)];simp only[Qad,gI,Qain _ hq.rg.1 hq.rg.2];have e2:(x.N != 0) = !(x.N==0):=rfl;have e3:((x.L.length:Int)==0)=zl x.L:=zI x.L;have e4:((x.L.length:Int)==1)=(x.L.length==1):=oneI x.L;simp only[e2,e3,e4];by_cases k1:x.Kind=1
  ·obtain⟨q,q1,q2⟩:=hq.qt k1;simp only[k1,beq_self_eq_true,if_true,q1,Qad,Q6q,Option.getD_some];generalize (x.Name==[])=a1;generalize (x.Text==[])=a2;generalize (x.N==0)=a3;generalize zl x.L=a4;generalize zl x.Then=a5;generalize zl x.Else=a6;cases q.2<;>cases a1<;>cases a2<;>cases a3<;>cases a4<;>cases a5<;>cases a6<;>rfl
  by_cases k2:x.Kind=2
  ·simp only[k2,beq_self_eq_true,if_true,show((2:Int)==1)=false from rfl,Bool.false_eq_true,if_false];generalize (x.Name==[])=a1;generalize (x.Text==[])=a2;generalize (x.N==0)=a3;generalize zl x.L=a4;generalize zl x.Then=a5;generalize zl x.Else=a6;cases a1<;>cases a2<;>cases a3<;>cases a4<;>cases a5<;>cases a6<;>rfl
  by_cases k3:x.Kind=3
  ·simp only[k3,beq_self_eq_true,if_true,show((3:Int)==1)=false from rfl,show((3:Int)==2)=false from rfl,Bool.false_eq_true,if_false];generalize (x.N==0||x.N==1)=a0;generalize (x.Name==[])=a1;generalize (x.Text==[])=a2;generalize (x.N==0)=a3;generalize zl x.L=a4;generalize zl x.Then=a5;generalize zl x.Else=a6;cases a0<;>cases a1<;>cases a2<;>cases a3<;>cases a4<;>cases a5<;>cases a6<;>rfl
  have nw:Qgb x.Name=true→(x.Name==[])=false:=fun h=>Q8e (Q6o h)
  have ww:Qoi x.Name=true→(x.Name==[])=false:=fun h=>Q8e h
  by_cases k4:x.Kind=4
  ·simp only[k4,beq_self_eq_true,if_true,show((4:Int)==1)=false from rfl,show((4:Int)==2)=false from rfl,show((4:Int)==3)=false from rfl,Bool.false_eq_true,if_false];cases hn:Qgb x.Name with
   | false=>rfl
   | true =>
    rw[nw hn];generalize (x.Text==[])=a2;generalize (x.N==0)=a3;generalize zl x.L=a4;generalize zl x.Then=a5;generalize zl x.Else=a6;cases a2<;>cases a3<;>cases a4<;>cases a5<;>cases a6<;>rfl
  by_cases k7:x.Kind=7
  ·simp only[k7,beq_self_eq_true,if_true,show((7:Int)==1)=false from rfl,show((7:Int)==2)=false from rfl,show((7:Int)==3)=false from rfl,show((7:Int)==4)=false from rfl,show((7:Int)==5)=false from rfl,show((7:Int)==6)=false from rfl,Bool.false_eq_true,if_false];cases hn:Qoi x.Name with
   | false=>rfl
   | true =>
    rw[ww hn];generalize (x.Text==[])=a2;generalize (x.N==0)=a3;generalize zl x.L=a4;generalize zl x.Then=a5;generalize zl x.Else=a6;cases a2<;>cases a3<;>cases a4<;>cases a5<;>cases a6<;>rfl
  have b1:(x.Kind==1)=false:=beq_eq_false_iff_ne.2 k1;have b2:(x.Kind==2)=false:=beq_eq_false_iff_ne.2 k2;have b3:(x.Kind==3)=false:=beq_eq_false_iff_ne.2 k3;have b4:(x.Kind==4)=false:=beq_eq_false_iff_ne.2 k4;have b7:(x.Kind==7)=false:=beq_eq_false_iff_ne.2 k7;simp only[b1,b2,b3,b4,b7,Bool.false_eq_true,if_false];by_cases k5:x.Kind=5
  ·simp only[k5,beq_self_eq_true,if_true];cases hn:Qoi x.Name with
   | false=>rfl
   | true =>
    rw[ww hn];cases hl:(x.L.length==1) with
    | false =>
     generalize (x.Text==[])=a2;generalize (x.N==0)=a3;generalize zl x.Then=a5;generalize zl x.Else=a6;cases a2<;>cases a3<;>cases a5<;>cases a6<;>rfl
    | true =>
     have hl1:x.L.length=1:=by simpa using hl
     obtain⟨y,hy⟩:=List.length_eq_one_iff.1 hl1;have hy1:nn y≤n:=by have:=Qlo (show y ∈ x.L by rw[hy]; simp); omega
     have hy2:allN okNd y:=Qt2 (show y ∈ x.L by rw[hy]; simp) ho1;rw[hy];simp only[Qag9,List.getElem?_cons_zero,Qad,ih y (by omega) hy1 hy2,Qeu,Bool.and_true];generalize (x.Text==[])=a2;generalize (x.N==0)=a3;generalize zl x.Then=a5;generalize zl x.Else=a6;generalize Qv9 y=a7;cases a2<;>cases a3<;>cases a5<;>cases a6<;>cases a7<;>rfl
  by_cases k6:x.Kind=6
  ·simp only[k6,beq_self_eq_true,if_true,show((6:Int)==5)=false from rfl,Bool.false_eq_true,if_false];cases hn:Qgb x.Name with
   | false=>rfl
   | true =>
    rw[nw hn];have hmin:((x.L.length:Int)==(if 3<(x.L.length:Int) then 3 else(x.L.length:Int)))=decide (x.L.length≤3):=by
     by_cases h3:x.L.length≤3
     ·rw[if_neg (by omega),decide_eq_true h3]; simp
     ·rw[if_pos (by omega),decide_eq_false h3,beq_eq_false_iff_ne.2 (by omega)]
    rw[hmin];have hll:=Qln x.L;obtain⟨r,hr,hp⟩:=Qaio n (fun y=>ih y (by omega)) x.L (by omega) ho1 (by omega) 0 (by omega);rw[Qa3,Qbg,show(0:Int)=((0:Nat):Int) from rfl,hr];rw[List.drop_zero] at hp;cases r with
    | inl u =>
     simp only at hp;rw[hp];generalize (x.Text==[])=a2;generalize (x.N==((0:Nat):Int))=a3;generalize zl x.Then=a5;generalize zl x.Else=a6;generalize decide (x.L.length≤3)=a7;cases a2<;>cases a3<;>cases a5<;>cases a6<;>cases a7<;>rfl
    | inr v =>
     simp only at hp;have hv:decide (v ≥ ((0:Nat):Int))=true:=decide_eq_true (by omega);simp only[hp.2,Qad,hv];generalize (x.Text==[])=a2;generalize (x.N==((0:Nat):Int))=a3;generalize zl x.Then=a5;generalize zl x.Else=a6;generalize decide (x.L.length≤3)=a7;cases a2<;>cases a3<;>cases a5<;>cases a6<;>cases a7<;>rfl
  have b5:(x.Kind==5)=false:=beq_eq_false_iff_ne.2 k5;have b6:(x.Kind==6)=false:=beq_eq_false_iff_ne.2 k6;simp only[b5,b6,Bool.false_eq_true,if_false]
section
variable (n:Nat) (ih:∀ x:Qaa,nn x≤n→allN okNd x→Q9t x=some (Qv9 x))
include ih
end
def litB:List Qaa→Bool
 | []=>false
 | x::_=>x.Kind==8
def Q6r(x:Qaa)(r:List Qaa)(inn:Bool):Bool:=x.Kind==8&&(litB r||((!r.isEmpty||inn)&&endB x.Text))
mutual
def Q8f:Qaa→Bool
 | ⟨k,s,t,n,a,b,c⟩ =>
  if k==8 then !(t==[])&&(!(hasB t)&&(s==[]&&(n==0&&(zl a&&(zl b&&zl c))))) else
  if k==9 then(a.length==1&&Qeu a)&&(s==[]&&(t==[]&&(n==0&&(zl b&&zl c)))) else
  if k==10 then(a.length==1&&Qeu a)&&((Qb4 b true&&Qb4 c true)&&(s==[]&&(t==[]&&n==0))) else
  if k==11||k==12 then Qgb s&&((a.length==1&&Qeu a)&&(Qb4 b true&&(t==[]&&(n==0&&zl c)))) else
  if k==13 then Qgb s&&((a.length==1&&Qeu a)&&(t==[]&&(n==0&&(zl b&&zl c)))) else false
def Qb4:List Qaa→Bool→Bool
 | [],_=>true
 | x::r,inn=>Q8f x&&(!(Q6r x r inn)&&Qb4 r inn)
end
theorem Qma(x:Qaa):Q8f x =
  if x.Kind==8 then !(x.Text==[])&&(!(hasB x.Text)&&(x.Name==[]&&(x.N==0&&(zl x.L&&(zl x.Then&&zl x.Else))))) else
  if x.Kind==9 then(x.L.length==1&&Qeu x.L)&&(x.Name==[]&&(x.Text==[]&&(x.N==0&&(zl x.Then&&zl x.Else)))) else
  if x.Kind==10 then(x.L.length==1&&Qeu x.L)&&((Qb4 x.Then true&&Qb4 x.Else true)&&(x.Name==[]&&(x.Text==[]&&x.N==0))) else
  if x.Kind==11||x.Kind==12 then Qgb x.Name&&((x.L.length==1&&Qeu x.L)&&(Qb4 x.Then true&&(x.Text==[]&&(x.N==0&&zl x.Else)))) else
  if x.Kind==13 then Qgb x.Name&&((x.L.length==1&&Qeu x.L)&&(x.Text==[]&&(x.N==0&&(zl x.Then&&zl x.Else)))) else false:=by cases x; rw[Q8f]
theorem Qt3{l:List Qaa}(h:zl l=true):l=[]:=List.eq_nil_of_length_eq_zero (by simpa [zl] using h)
theorem Qy1(b:Bool):Qb4 [] b=true:=by rw[Qb4]
theorem Qajn(k n:Nat)(hk:k<n)(hn:n<9223372036854775807):((k:Int)==wr ((n:Int)-1))=(k+1==n):=by
 have e:wr ((n:Int)-1)=((n-1:Nat):Int):=by rw[Qik (by omega) (by omega)]; omega
 rw[e,eqN];by_cases h:k+1=n
 ·rw[beq_iff_eq.2 h,beq_iff_eq.2 (by omega)]
 ·rw[beq_eq_false_iff_ne.2 h,beq_eq_false_iff_ne.2 (by omega)]
theorem Qahk{l:List Qaa}{k:Nat}(hk:k<l.length):(l.drop (k+1)).isEmpty=(k+1==l.length):=by
 by_cases h:k+1=l.length
 ·rw[List.drop_eq_nil_of_le (by omega),beq_iff_eq.2 h]; rfl
 ·rw[beq_eq_false_iff_ne.2 h,Qgf (by omega:k+1<l.length)]; rfl
theorem Qahl(l:List Qaa)(k:Nat)(h:k+1<l.length):litB (l.drop (k+1))=(l[k+1].Kind==8):=by
 rw[Qgf h]; rfl
section
variable (n:Nat) (hn:n<900000000) (ih:∀ x:Qaa,nn x≤n→allN okNd x→Qp6 x=some (Q8f x))
include hn ih
theorem Qahm(l:List Qaa)(h:nns l≤n)(ho:allL okNd l)(top:Bool):∀ k,k≤l.length→Qf9 l top k=some (if Qb4 (l.drop k) (!top) then .inl () else .inr ()):=by
 have hl:=Qln l;refine upto ?_ fun k hk ihk=>?_
 ·rw[Qf9]; simp[Qb4]
 ·have hx:=Qlo (List.getElem_mem hk);have ha:=Qt2 (List.getElem_mem hk) ho;have htx:=((Q3k okNd l[k]).1 ha).1.tx;rw[Qf9,Qcb (by omega),ihk];simp only[ltI,hk,decide_true,if_true,Qcf,getE hk,Qad,ih l[k] (by omega) ha,Qajn k l.length hk (by omega),tEnd l[k].Text (by omega)];rw[Qgf hk,Qb4,Q6r];rw[Qahk hk];cases hs:Q8f l[k] with
  | false=>rfl
  | true =>
   cases h8:(l[k].Kind==8) with
   | false=>simp
   | true =>
    by_cases hlast:k+1=l.length
    ·have e1:(k+1==l.length)=true:=beq_iff_eq.2 hlast;have e2:litB (l.drop (k+1))=false:=by rw[List.drop_eq_nil_of_le (by omega)]; rfl
     rw[e1,e2];cases top<;>cases endB l[k].Text<;>simp
    ·have e1:(k+1==l.length)=false:=beq_eq_false_iff_ne.2 hlast;have hk1:k+1<l.length:=by omega
     rw[e1,Qahl l k hk1,getE hk1];simp only[Qad];cases (l[k+1].Kind==8)<;>cases endB l[k].Text<;>cases top<;>simp
theorem Qads(l:List Qaa)(h:nns l≤n)(ho:allL okNd l)(top:Bool):Qhf l top=some (Qb4 l (!top)):=by
 have:=Qahm n hn ih l h ho top 0 (by omega);rw[Qhf,show(0:Int)=((0:Nat):Int) from rfl,this,List.drop_zero];cases Qb4 l (!top)<;>rfl
end
theorem Qajo:∀ n (x:Qaa),n<900000000→nn x≤n→allN okNd x→Qp6 x=some (Q8f x):=by
 intro n
 induction n with
 | zero=>intro x _ h; have:=Qqi x; omega
 | succ n ih =>
  intro x hb h ho;rw[Qt1] at h;obtain⟨hq,ho1,ho2,ho3⟩:=(Q3k okNd x).1 ho;have hnm:=hq.nm;have htx:=hq.tx;have ih' := fun y=>ih y (by omega)
  have t1:=Qads n (by omega) ih' x.Then (by omega) ho2 false;have t2:=Qads n (by omega) ih' x.Else (by omega) ho3 false;have e2:(x.N != 0) = !(x.N==0):=rfl;rw[Qp6,Qhe,Qma,Qahj x.Name (by omega),tHas x.Text (by omega),t1,t2];simp only[Qad,gI,e2,zI,oneI];obtain⟨ex,hex,hex2⟩:∃ ex:Bool,Qeu x.L=ex∧(x.L.length==1→(idx x.L 0>>=fun y=>Qfd y)=some ex):=by
   refine⟨_,rfl,fun hl=>?_⟩;obtain⟨y,hy⟩:=List.length_eq_one_iff.1 (by simpa using hl:x.L.length=1);have hy1:nn y≤n:=by have:=Qlo (show y ∈ x.L by rw[hy]; simp); omega
   have hy2:allN okNd y:=Qt2 (show y ∈ x.L by rw[hy]; simp) ho1;rw[hy];simp only[Qag9,List.getElem?_cons_zero,Qad,Qajm n y (by omega) hy1 hy2,Qeu,Bool.and_true]
  rw[hex];have hidx:∀ (f:Bool→Option Bool) (g:Qaa→Option Bool),x.L.length=1→(∀ y,g y=Qfd y>>=f)→(idx x.L 0>>=g)=f ex:=fun f g hl hg=>by
   have:=hex2 (by simpa using hl);obtain⟨y,hy⟩:=List.length_eq_one_iff.1 hl;rw[hy] at this ⊢;simp only[Qag9,List.getElem?_cons_zero,Qad] at this ⊢;rw[hg,this,Qad]
  have nw:Qgb x.Name=true→(x.Name==[])=false:=fun h=>Q8e (Q6o h)
  by_cases k8:x.Kind=8
  ·simp only[k8,beq_self_eq_true,if_true];generalize (x.Name==[])=a1;generalize (x.Text==[])=a2;generalize (x.N==0)=a3;generalize zl x.L=a4;generalize zl x.Then=a5;generalize zl x.Else=a6;generalize hasB x.Text=hh;cases a1<;>(try (cases a2<;>cases hh<;>rfl))<;>cases a2<;>(try (cases hh<;>rfl))<;>cases a3<;>(try (cases hh<;>rfl))<;>cases a4<;>(try (cases hh<;>rfl))<;>cases a5<;>(try (cases hh<;>rfl))<;>cases a6<;>cases hh<;>rfl
  have b8:(x.Kind==8)=false:=beq_eq_false_iff_ne.2 k8;have hE:x.L.length=1→(idx x.L 0>>=fun y=>Qfd y>>=fun b=>if b=true then if Qb4 x.Then (!false)=true then some (Qb4 x.Else (!false)) else some false else some false)=some (ex&&(Qb4 x.Then true&&Qb4 x.Else true)):=fun hl=>by
   rw[hidx (fun b=>if b=true then if Qb4 x.Then (!false)=true then some (Qb4 x.Else (!false)) else some false else some false) _ hl fun y=>rfl];show(if ex=true then if Qb4 x.Then true=true then some (Qb4 x.Else true) else some false else some false)=_;cases ex<;>cases Qb4 x.Then true<;>rfl
  have hb5:zl x.Then=true→Qb4 x.Then true=true:=fun h=>by rw[Qt3 h,Qy1]
  have hb6:zl x.Else=true→Qb4 x.Else true=true:=fun h=>by rw[Qt3 h,Qy1]
  have half:∀ w th ot nmd:Bool,(if(w==nmd)=true then if((!x.Name==[])==w&&((!x.Text==[])==false&&((!x.N==0)==false&&((!zl x.Then)==th&&((!zl x.Else)==ot&&(x.L.length==1&&true))))))=true then
    idx x.L 0>>=fun y=>Qfd y>>=fun b=>if b=true then if Qb4 x.Then (!false)=true then some (Qb4 x.Else (!false)) else some false else some false else some false else some false) =
    some ((w==nmd)&&(((!x.Name==[])==w)&&((x.Text==[])&&((x.N==0)&&(((!zl x.Then)==th)&&(((!zl x.Else)==ot)&&((x.L.length==1)&&(ex&&(Qb4 x.Then true&&Qb4 x.Else true))))))))):=fun w th ot nmd=>by
   have e0:∀ b:Bool,((!b)==false)=b:=fun b=>by cases b<;>rfl
   simp only[e0];cases hl:(x.L.length==1) with
   | true =>
    rw[hE (by simpa using hl)];generalize (ex&&(Qb4 x.Then true&&Qb4 x.Else true))=q;generalize ((!x.Name==[])==w)=q1;generalize (x.Text==[])=q2;generalize (x.N==0)=q3;generalize ((!zl x.Then)==th)=q4;generalize ((!zl x.Else)==ot)=q5;generalize (w==nmd)=q6;cases q6<;>(try rfl)<;>cases q1<;>(try rfl)<;>cases q2<;>(try rfl)<;>cases q3<;>(try rfl)<;>cases q4<;>(try rfl)<;>cases q5<;>rfl
   | false =>
    generalize ((!x.Name==[])==w)=q1;generalize (x.Text==[])=q2;generalize (x.N==0)=q3;generalize ((!zl x.Then)==th)=q4;generalize ((!zl x.Else)==ot)=q5;generalize (w==nmd)=q6;cases q6<;>(try rfl)<;>cases q1<;>(try rfl)<;>cases q2<;>(try rfl)<;>cases q3<;>(try rfl)<;>cases q4<;>(try rfl)<;>cases q5<;>rfl
  have bnd:∀ m:Option Bool,(m>>=fun o=>some o)=m:=fun m=>by cases m<;>rfl
  simp only[b8,Bool.false_eq_true,if_false];by_cases k9:x.Kind=9
  ·simp only[k9,beq_self_eq_true,if_true,Qad,show((9:Int)==11)=false from rfl,show((9:Int)==12)=false from rfl,show((9:Int)==13)=false from rfl,Bool.false_eq_true,if_false,bnd];have hh:=half false false false false;simp only[beq_self_eq_true,if_true,Bool.true_and] at hh;rw[hh];have e0:∀ b:Bool,((!b)==false)=b:=fun b=>by cases b<;>rfl
   simp only[e0];cases h5:zl x.Then with
   | false=>generalize (x.Name==[])=a1; generalize (x.Text==[])=a2; generalize (x.N==0)=a3; cases a1<;>cases a2<;>cases a3<;>simp
   | true=>cases h6:zl x.Else with
    | false=>generalize (x.Name==[])=a1; generalize (x.Text==[])=a2; generalize (x.N==0)=a3; cases a1<;>cases a2<;>cases a3<;>simp
    | true =>
     rw[hb5 h5,hb6 h6];generalize (x.Name==[])=a1; generalize (x.Text==[])=a2; generalize (x.N==0)=a3; generalize (x.L.length==1)=l1;cases a1<;>cases a2<;>cases a3<;>cases l1<;>cases ex<;>rfl
  have b9:(x.Kind==9)=false:=beq_eq_false_iff_ne.2 k9;simp only[b9,Bool.false_eq_true,if_false];by_cases k10:x.Kind=10
  ·simp only[k10,beq_self_eq_true,if_true,Qad,show((10:Int)==11)=false from rfl,show((10:Int)==12)=false from rfl,show((10:Int)==13)=false from rfl,Bool.false_eq_true,if_false,bnd];have hh:=half false (!zl x.Then) (!zl x.Else) false;simp only[beq_self_eq_true,if_true,Bool.true_and] at hh ⊢;rw[hh];have e0:∀ b:Bool,((!b)==false)=b:=fun b=>by cases b<;>rfl
   simp only[e0];generalize (x.Name==[])=a1; generalize (x.Text==[])=a2; generalize (x.N==0)=a3; generalize (x.L.length==1)=l1; generalize zl x.Then=a5; generalize zl x.Else=a6; generalize Qb4 x.Then true=bt; generalize Qb4 x.Else true=be;cases a5<;>cases a6<;>cases a1<;>cases a2<;>cases a3<;>cases l1<;>cases ex<;>cases bt<;>cases be<;>rfl
  have b10:(x.Kind==10)=false:=beq_eq_false_iff_ne.2 k10;simp only[b10,Bool.false_eq_true,if_false];have e11:(if(x.Kind==11)=true then some (x.Kind==11) else some (x.Kind==12):Option Bool)=some (x.Kind==11||x.Kind==12):=by cases (x.Kind==11)<;>rfl
  rw[e11];cases h11:(x.Kind==11||x.Kind==12) with
  | true =>
   have e12:(if(x.Kind==11)=true then some true else if(x.Kind==12)=true then some true else some (x.Kind==13):Option Bool)=some true:=by
    revert h11; cases (x.Kind==11)<;>cases (x.Kind==12)<;>intro h<;>first | rfl | cases h
   rw[e12];simp only[Qad,if_true,bnd];rw[half (Qgb x.Name) (!zl x.Then) false true];have e0:∀ b:Bool,((!b)==false)=b:=fun b=>by cases b<;>rfl
   simp only[e0];cases hn:Qgb x.Name with
   | false=>rfl
   | true =>
    rw[nw hn];cases h6:zl x.Else with
    | false=>generalize (x.Text==[])=a2; generalize (x.N==0)=a3; generalize zl x.Then=a5; cases a2<;>cases a3<;>cases a5<;>simp
    | true =>
     rw[hb6 h6];generalize (x.Text==[])=a2; generalize (x.N==0)=a3; generalize (x.L.length==1)=l1; generalize zl x.Then=a5; generalize Qb4 x.Then true=bt;cases a5<;>cases a2<;>cases a3<;>cases l1<;>cases ex<;>cases bt<;>rfl
  | false =>
   have e12:(if(x.Kind==11)=true then some true else if(x.Kind==12)=true then some true else some (x.Kind==13):Option Bool)=some (x.Kind==13):=by
    revert h11; cases (x.Kind==11)<;>cases (x.Kind==12)<;>intro h<;>first | rfl | cases h
   rw[e12];simp only[Qad,Bool.false_eq_true,if_false];by_cases k13:x.Kind=13
   ·simp only[k13,beq_self_eq_true,if_true,Qad,bnd];rw[half (Qgb x.Name) false false true];have e0:∀ b:Bool,((!b)==false)=b:=fun b=>by cases b<;>rfl
    simp only[e0];cases hn:Qgb x.Name with
    | false=>rfl
    | true =>
     rw[nw hn];cases h5:zl x.Then with
     | false=>generalize (x.Text==[])=a2; generalize (x.N==0)=a3; cases a2<;>cases a3<;>simp
     | true=>cases h6:zl x.Else with
      | false=>generalize (x.Text==[])=a2; generalize (x.N==0)=a3; cases a2<;>cases a3<;>simp
      | true =>
       rw[hb5 h5,hb6 h6];generalize (x.Text==[])=a2; generalize (x.N==0)=a3; generalize (x.L.length==1)=l1;cases a2<;>cases a3<;>cases l1<;>cases ex<;>rfl
   ·have b13:(x.Kind==13)=false:=beq_eq_false_iff_ne.2 k13;simp only[b13,Bool.false_eq_true,if_false,Qad]
section
variable (n:Nat) (hn:n<900000000) (ih:∀ x:Qaa,nn x≤n→allN okNd x→Q9u x=some (Q8f x))
include hn ih
end
def maxD(l:List (Qaa×Int))(m:Int):Int:=l.foldl (fun m x=>if x.2>m then x.2 else m) m
theorem Qwx(a b:List (Qaa×Int))(m:Int):maxD (a++b) m=maxD b (maxD a m):=by unfold maxD; rw[List.foldl_append]
theorem Qagb(x1:List Qaa×Int):∀ (l:List (Qaa×Int)) (m:Int),Qft x1 l m=some (maxD l m)
 | [],m=>by rw[Qft]; rfl
 | x::r,m=>by rw[Qft,Qagb x1 r]; rfl
theorem Qadt(x1:List Qaa×Int):∀ (l:List (Qaa×Int)) (m:Nat),m+l.length<9223372036854775807→Qe1 x1 l m=some ((m+l.length:Nat):Int)
 | [],m,_=>by rw[Qe1]; rfl
 | x::r,m,h=>by
  simp at h;rw[Qe1,Qcb (by omega),Qadt x1 r (m+1) (by omega)];simp; omega
theorem Qafn(p0:List Qaa)(p1 v12:Int)(x3:Qaa)(v28:Int)(x7:List Qaa×Int):∀ l:List (Qaa×Int),Qe2 p0 p1 v12 x3 v28 x7 l=some (l,())
 | []=>by rw[Qe2]
 | x::r=>by
  obtain⟨⟨k,s,t,n,a,b,c⟩,d⟩:=x;rw[Qe2,Qafn p0 p1 v12 x3 v28 x7 r]; rfl
def Qafo(d:Nat)(k dep:Nat)(o:Option (List (Qaa×Int)×Unit)):Prop:=∃ out,o=some (out,())∧out.length=k∧∀ m:Int,(d:Int)-1≤m→maxD out m=max m ((d:Int)-1+dep)
section
variable (n:Nat) (ih:∀ (l:List Qaa) (d:Nat),nns l≤n→n+d≤1000000000→Qafo d (nns l) (dps l) (Qff l d))
include ih
theorem Qajp(l:List Qaa)(d:Nat)(v:Int)(x:Qaa)(hx:nn x≤n+1)(hd:n+1+d≤1000000000) :
  Qafo (d+1) (nns x.L+nns x.Then+nns x.Else) (max (dps x.L) (max (dps x.Then) (dps x.Else))) (Qcd l d v x 0):=by
 rw[Qt1] at hx;have ed:wr ((d:Int)+1)=((d+1:Nat):Int):=Qcb (by omega);obtain⟨o1,a1,a2,a3⟩:=ih x.L (d+1) (by omega) (by omega);obtain⟨o2,b1,b2,b3⟩:=ih x.Then (d+1) (by omega) (by omega);obtain⟨o3,c1,c2,c3⟩:=ih x.Else (d+1) (by omega) (by omega);have s3:Qcd l d v x 3=some ([],()):=by rw[Qcd]; rfl
 have s2:Qcd l d v x 2=some (o3++[],()):=by
  rw[Qcd];have e:wr ((2:Int)+1)=3:=by rw[Qik (by omega) (by omega)]; rfl
  have g:idx ([x.L,x.Then,x.Else]:List (List Qaa)) 2=some x.Else:=Q7z _ 2;rw[g,e,s3];simp only[Qad,Qjf,ed,c1,Qafn,show decide ((2:Int)<3)=true from rfl,if_true]
 have s1:Qcd l d v x 1=some (o2++(o3++[]),()):=by
  rw[Qcd];have e:wr ((1:Int)+1)=2:=by rw[Qik (by omega) (by omega)]; rfl
  have g:idx ([x.L,x.Then,x.Else]:List (List Qaa)) 1=some x.Then:=Q7z _ 1;rw[g,e,s2];simp only[Qad,Qjf,ed,b1,Qafn,show decide ((1:Int)<3)=true from rfl,if_true]
 have s0:Qcd l d v x 0=some (o1++(o2++(o3++[])),()):=by
  rw[Qcd];have e:wr ((0:Int)+1)=1:=by rw[Qik (by omega) (by omega)]; rfl
  have g:idx ([x.L,x.Then,x.Else]:List (List Qaa)) 0=some x.L:=Q7z _ 0;rw[g,e,s1];simp only[Qad,Qjf,ed,a1,Qafn,show decide ((0:Int)<3)=true from rfl,if_true]
 refine⟨_,s0,by simp; omega,fun m hm=>?_⟩;rw[List.append_nil,Qwx,Qwx,a3 m hm,b3 _ (by omega),c3 _ (by omega)];omega
theorem Qajq(l:List Qaa)(d:Nat)(hl:nns l≤n+1)(hd:n+1+d≤1000000000):∀ k,k≤l.length→Qafo d (nns (l.drop k)) (dps (l.drop k)) (Qe3 l d k):=by
 have hlen:=Qln l;refine upto ?_ fun k hk ihk=>?_
 ·rw[Qe3,List.drop_length];refine⟨[],by simp,by simp[nns],fun m hm=>?_⟩;simp[maxD,dps]; omega
 ·have hx:=Qlo (List.getElem_mem hk);obtain⟨o1,a1,a2,a3⟩:=Qajp n ih l d k l[k] (by omega) hd;obtain⟨o2,b1,b2,b3⟩:=ihk;rw[Qe3,Qcb (by omega)];simp only[ltI,hk,decide_true,if_true,Qcf,getE hk,Qad,a1,b1];rw[Qgf hk];refine⟨_,rfl,?_,fun m hm=>?_⟩
  ·simp[nns,Qt1,a2,b2]; omega
  ·show maxD ([(l[k],(d:Int))]++(o1++o2)) m=_;have e0:maxD [(l[k],(d:Int))] m=max m d:=by
    show(if(d:Int)>m then(d:Int) else m)=_;split<;>omega
   rw[Qwx,Qwx,e0,a3 _ (by omega),b3 _ (by omega),dps,Qajj];omega
end
theorem tAll:∀ n (l:List Qaa) (d:Nat),nns l≤n→n+d≤1000000000→Qafo d (nns l) (dps l) (Qff l d):=by
 intro n
 induction n with
 | zero =>
  intro l d h _;have hl:l=[]:=List.eq_nil_of_length_eq_zero (by have:=Qln l; omega);subst hl;rw[Qff,Qe3];refine⟨[],by simp,by simp[nns],fun m hm=>?_⟩;simp[maxD,dps]; omega
 | succ n ih =>
  intro l d h hd;obtain⟨o,a1,a2,a3⟩:=Qajq n ih l d h hd 0 (by omega);rw[List.drop_zero] at a2 a3;refine⟨o,?_,a2,a3⟩;rw[Qff,show(0:Int)=((0:Nat):Int) from rfl,a1];simp
theorem Qajr(l:List Qaa)(h:nns l≤900000000):Qp4 l=some (dps l:Int):=by
 obtain⟨o,a1,a2,a3⟩:=tAll 900000000 l 1 h (by omega);rw[Qp4,Qjf];simp only[Qad];rw[show(1:Int)=((1:Nat):Int) from rfl,a1];simp only[Qad,Qagb];rw[a3 0 (by omega)];congr 1;omega
theorem Qaip(l:List Qaa)(h:nns l≤900000000):Qnf l=some (nns l:Int):=by
 obtain⟨o,a1,a2,a3⟩:=tAll 900000000 l 1 h (by omega);have:=Qadt (l,((1:Nat):Int)) o 0 (by omega);rw[Qnf,Qjf];simp only[Qad];rw[show(1:Int)=((1:Nat):Int) from rfl,a1];simp only[Qad];rw[show(0:Int)=((0:Nat):Int) from rfl,this];simp[a2]
section
variable (n:Nat) (hn:n≤900000000) (ih:∀ l:List Qaa,nns l≤n→Qgt l=some (dps l:Int)∧Qfb l=some (nns l:Int))
include hn ih
end
def isP (l:List Qaa):Bool:=decide (dps l≤12)&&(decide (nns l≤1024)&&Qb4 l false)
theorem tIs(l:List Qaa)(h:nns l≤800000000)(ho:allL okNd l):Qyj l=some (isP l):=by
 have e1:decide ((dps l:Int)≤12)=decide (dps l≤12):=leN _ 12;have e2:decide ((nns l:Int)≤1024)=decide (nns l≤1024):=leN _ 1024;have hb:=Qads 800000000 (by omega) (fun x hx=>Qajo 800000000 x (by omega) hx) l h ho true;rw[Qyj,Qajr l (by omega),Qaip l (by omega),hb,isP];simp only[Qad,e1,e2];cases decide (dps l≤12)<;>cases decide (nns l≤1024)<;>rfl
abbrev room:Nat:=100000000000
section
end
def Qcs(c:UInt8):Bool:=decide (128≤c.toNat)&&decide (c.toNat<192)
def Qh9(n:Nat):Bool:=decide (n≤1114111) && !(decide (55296≤n)&&decide (n≤57343))
def Qafp(c:UInt8)(r:List UInt8):Nat×Nat :=
  if c.toNat<128 then(c.toNat,1)
  else if 192≤c.toNat∧c.toNat<224 then
   match r with
   | c1::_=>if Qcs c1=true∧128≤(c.toNat-192)*64+(c1.toNat-128) then((c.toNat-192)*64+(c1.toNat-128),2) else(65533,1)
   | _=>(65533,1)
  else if 224≤c.toNat∧c.toNat<240 then
   match r with
   | c1::c2::_=>if Qcs c1=true∧Qcs c2=true∧2048≤((c.toNat-224)*64+(c1.toNat-128))*64+(c2.toNat-128)∧Qh9 (((c.toNat-224)*64+(c1.toNat-128))*64+(c2.toNat-128))=true then(((c.toNat-224)*64+(c1.toNat-128))*64+(c2.toNat-128),3) else(65533,1)
   | _=>(65533,1)
  else if 240≤c.toNat∧c.toNat<248 then
   match r with
   | c1::c2::c3::_=>if Qcs c1=true∧Qcs c2=true∧Qcs c3=true∧65536≤(((c.toNat-240)*64+(c1.toNat-128))*64+(c2.toNat-128))*64+(c3.toNat-128)∧Qh9 ((((c.toNat-240)*64+(c1.toNat-128))*64+(c2.toNat-128))*64+(c3.toNat-128))=true then((((c.toNat-240)*64+(c1.toNat-128))*64+(c2.toNat-128))*64+(c3.toNat-128),4) else(65533,1)
   | _=>(65533,1)
  else(65533,1)
def Qjt:List UInt8→Nat×Nat
 | []=>(0,0)
 | c::r=>Qafp c r
theorem Qy2{n:Int}(h1 : -2147483648≤n)(h2:n≤2147483647):IntKind.i32.wrap n=n:=by
 simp[IntKind.wrap,IntKind.bits,IntKind.signed];omega
theorem Qaiq{n:Int}(h1:0≤n)(h2:n≤255):IntKind.u8.wrap n=n:=by
 simp[IntKind.wrap,IntKind.bits,IntKind.signed];omega
theorem Qajs:∀ c:Fin 256,bits .and .u8 ((c.1:Nat):Int) 63=((c.1 % 64:Nat):Int):=by decide +kernel
theorem Qair:∀ c:Fin 256,(bits .and .u8 ((c.1:Nat):Int) 192 != 128) = !(decide (128≤c.1)&&decide (c.1<192)):=by decide +kernel
theorem Qajt:∀ c:Fin 256,bits .and .u8 ((c.1:Nat):Int) 31=((c.1 % 32:Nat):Int):=by decide +kernel
theorem Qaju:∀ c:Fin 256,bits .and .u8 ((c.1:Nat):Int) 15=((c.1 % 16:Nat):Int):=by decide +kernel
theorem and7:∀ c:Fin 256,bits .and .u8 ((c.1:Nat):Int) 7=((c.1 % 8:Nat):Int):=by decide +kernel
theorem or64(a b:Nat)(ha:a<1000000)(hb:b<64):bits .or .i32 (IntKind.i32.wrap ((a:Int)*2 ^ (min (6:Int).toNat (IntKind.i32.bits)))) (IntKind.i32.wrap (b:Int))=((a*64+b:Nat):Int):=by
 have e1:IntKind.i32.wrap ((a:Int)*2 ^ (min (6:Int).toNat (IntKind.i32.bits)))=((a*64:Nat):Int):=by
  have:(min (6:Int).toNat (IntKind.i32.bits))=6:=rfl;rw[this,Qy2 (by omega) (by omega)]; omega
 rw[e1,Qy2 (by omega) (by omega)];have e2:(2:Nat) ^ 6*a+b=2 ^ 6*a ||| b:=Nat.two_pow_add_eq_or_of_lt (by omega) a
 have e3:a*64 ||| b=a*64+b:=by
  have:(2:Nat) ^ 6*a=a*64:=by omega
  rw[this] at e2; omega
 show IntKind.i32.wrap ((BitVec.ofInt 32 ((a*64:Nat):Int) ||| BitVec.ofInt 32 (b:Int)).toNat:Int)=_;rw[BitVec.toNat_or,BitVec.ofInt_natCast,BitVec.ofInt_natCast,BitVec.toNat_ofNat,BitVec.toNat_ofNat,Nat.mod_eq_of_lt (by omega),Nat.mod_eq_of_lt (by omega),e3,Qy2 (by omega) (by omega)]
theorem b63(c:UInt8):bits .and .u8 (c.toNat:Int) 63=((c.toNat % 64:Nat):Int):=Qajs ⟨c.toNat,c.toNat_lt⟩
theorem b192(c:UInt8):(bits .and .u8 (c.toNat:Int) 192 != 128) = !Qcs c:=Qair ⟨c.toNat,c.toNat_lt⟩
theorem b31(c:UInt8):bits .and .u8 (c.toNat:Int) 31=((c.toNat % 32:Nat):Int):=Qajt ⟨c.toNat,c.toNat_lt⟩
theorem b15(c:UInt8):bits .and .u8 (c.toNat:Int) 15=((c.toNat % 16:Nat):Int):=Qaju ⟨c.toNat,c.toNat_lt⟩
theorem b7(c:UInt8):bits .and .u8 (c.toNat:Int) 7=((c.toNat % 8:Nat):Int):=and7 ⟨c.toNat,c.toNat_lt⟩
theorem Qafq{c:UInt8}(h:Qcs c=true):c.toNat % 64=c.toNat-128:=by
 unfold Qcs at h;simp at h;omega
def Qy3:Nat→List UInt8→Nat→Option Nat
 | 0,_,v=>some v
 | _+1,[],_=>none
 | m+1,c::r,v=>if Qcs c=true then Qy3 m r (v*64+(c.toNat-128)) else none
set_option maxRecDepth 20000 in
theorem Qais(l:List UInt8)(m:Nat)(hm:m≤l.length)(hm3:m≤3):∀ (d k v:Nat),k+d=m→((k=0→v<64)∧(k≤1→v<4096)∧(k≤2→v<262144)) →
  Qg4 l m v k=some (match Qy3 d (l.drop k) v with | some n =>.inl (n:Int) | none =>.inr ()):=by
 intro d
 induction d with
 | zero =>
  intro k v hk _;rw[Qg4,ltI,decide_eq_false (by omega:¬ k<m)];rfl
 | succ d ih =>
  intro k v hk hv;have hkl:k<l.length:=by omega
  have:decide ((k:Int)<(m:Int))=true:=decide_eq_true (by omega);rw[Qg4];simp only[this,if_true,Qcf,getE hkl,Qad,b192,b63];rw[or64 v _ (by omega) (Nat.mod_lt _ (by omega)),Qcb (by omega),Qgf hkl];unfold Qy3;cases hc:Qcs l[k] with
  | false=>rfl
  | true =>
   rw[Qafq hc];have hlt:l[k].toNat-128<64:=by unfold Qcs at hc; simp at hc; omega
   have hv2:(k+1=0→v*64+(l[k].toNat-128)<64)∧(k+1≤1→v*64+(l[k].toNat-128)<4096)∧(k+1≤2→v*64+(l[k].toNat-128)<262144):=by omega
   simp only[Bool.not_true,Bool.false_eq_true,if_false,if_true];exact ih (k+1) _ (by omega) hv2
theorem Qajv(l:List UInt8)(m v:Nat)(hm3:m≤3)(hv:v<64):Qqy l v m=some (match (if l.length<m then none else Qy3 m l v) with | some n=>((n:Int),true) | none=>(0,false)):=by
 rw[Qqy,ltI];by_cases h:l.length<m
 ·rw[decide_eq_true h,if_pos h]; rfl
 ·rw[decide_eq_false h,if_neg h];have:=Qais l m (by omega) hm3 m 0 v (by omega) (by omega);rw[List.drop_zero] at this;rw[show(0:Int)=((0:Nat):Int) from rfl,this];cases Qy3 m l v<;>rfl
theorem tIsR(n:Nat):Q1b (n:Int)=some (Qh9 n):=by
 have a:decide ((n:Int) ≥ 0)=true:=decide_eq_true (by omega);have b:decide ((n:Int)≤1114111)=decide (n≤1114111):=by
  by_cases h:n≤1114111
  ·rw[decide_eq_true h,decide_eq_true (by omega)]
  ·rw[decide_eq_false h,decide_eq_false (by omega)]
 rw[Q1b,a,b,Qh9];by_cases h1:n<55296
 ·rw[decide_eq_true (show(n:Int)<55296 by omega),decide_eq_true (show n≤1114111 by omega),decide_eq_false (show ¬ 55296≤n by omega)]; rfl
 ·rw[decide_eq_false (show ¬ (n:Int)<55296 by omega),decide_eq_true (show 55296≤n by omega)];by_cases h2:n≤57343
  ·rw[decide_eq_false (show ¬ (n:Int)>57343 by omega),decide_eq_true h2,decide_eq_true (show n≤1114111 by omega)]; rfl
  ·rw[decide_eq_true (show(n:Int)>57343 by omega),decide_eq_false h2];cases decide (n≤1114111)<;>rfl
theorem rIsR(n:Nat):Ql0 (n:Int)=some (Qh9 n):=by
 have a:decide ((n:Int) ≥ 0)=true:=decide_eq_true (by omega);have b:decide ((n:Int)≤1114111)=decide (n≤1114111):=by
  by_cases h:n≤1114111
  ·rw[decide_eq_true h,decide_eq_true (by omega)]
  ·rw[decide_eq_false h,decide_eq_false (by omega)]
 have c:decide ((n:Int) ≥ 55296)=decide (55296≤n):=by
  by_cases h:55296≤n
  ·rw[decide_eq_true h,decide_eq_true (by omega)]
  ·rw[decide_eq_false h,decide_eq_false (by omega)]
 have d:decide ((n:Int)≤57343)=decide (n≤57343):=by
  by_cases h:n≤57343
  ·rw[decide_eq_true h,decide_eq_true (by omega)]
  ·rw[decide_eq_false h,decide_eq_false (by omega)]
 rw[Ql0,a,b,c,d,Qh9];cases decide (n≤1114111)<;>cases decide (55296≤n)<;>cases decide (n≤57343)<;>rfl
theorem ltC(c:UInt8)(k:Nat):decide ((c.toNat:Int)<(k:Int))=decide (c.toNat<k):=ltI _ _
theorem geC(c:UInt8)(k:Nat):decide ((c.toNat:Int) ≥ (k:Int))=decide (k≤c.toNat):=by
 by_cases h:k≤c.toNat
 ·rw[decide_eq_true h,decide_eq_true (by omega)]
 ·rw[decide_eq_false h,decide_eq_false (by omega)]
def endP(o:Option Nat)(least m:Nat):Nat×Nat:=match o with
 | some n=>if least≤n∧Qh9 n=true then(n,m+1) else(65533,1)
 | none=>(65533,1)
set_option maxRecDepth 20000 in
theorem Qajw(s:List UInt8)(k:Nat)(hk:k<s.length)(hs:s.length<9223372036854775807):Qtg s k=some (((Qjt (s.drop k)).1:Int),((Qjt (s.drop k)).2:Int)):=by
 have d1:decide ((k:Int)<0)=false:=decide_eq_false (by omega);have d2:decide ((k:Int) ≥ (s.length:Int))=false:=decide_eq_false (by omega);have hc:=s[k].toNat_lt;have hr:cutL s (wr ((k:Int)+1)) (s.length:Int)=some (s.drop (k+1)):=by
  rw[Qcb (by omega),Qxt (by omega) (by omega) (by omega)];simp
 rw[Qtg,d1,d2,hr,Qgf hk];have l128:=ltC s[k] 128;have g192:=geC s[k] 192;have l224:=ltC s[k] 224;have g224:=geC s[k] 224;have l240:=ltC s[k] 240;have g240:=geC s[k] 240;have l248:=ltC s[k] 248;have b1:∀ a b:Bool,(if a=true then some b else some false:Option Bool)=some (a&&b):=fun a b=>by cases a<;>rfl
 simp only[Bool.false_eq_true,if_false,Qad,Qcf,getE hk];rw[show(128:Int)=((128:Nat):Int) from rfl,show(192:Int)=((192:Nat):Int) from rfl,show(224:Int)=((224:Nat):Int) from rfl,show(240:Int)=((240:Nat):Int) from rfl,show(248:Int)=((248:Nat):Int) from rfl,l128,g192,l224,g224,l240,g240,l248];simp only[b1,Qad];rw[Qjt];unfold Qafp;have fin:∀ (v least m:Nat),m≤3→v<64→(Qqy (s.drop (k+1)) (v:Int) (m:Int)>>=fun x10 =>
   (if(!x10.2)=true then some true else if decide (x10.1<(least:Int))=true then some true else Q1b x10.1>>=fun x12=>some (!x12):Option Bool)>>=fun o11 =>
   if o11=true then some ((65533:Int),(1:Int)) else some (x10.1,wr ((m:Int)+1))) =
   some (((endP (if(s.drop (k+1)).length<m then none else Qy3 m (s.drop (k+1)) v) least m).1:Int),((endP (if(s.drop (k+1)).length<m then none else Qy3 m (s.drop (k+1)) v) least m).2:Int)):=fun v least m hm hv=>by
  rw[Qajv _ m v hm hv];cases (if(s.drop (k+1)).length<m then none else Qy3 m (s.drop (k+1)) v) with
  | none=>rfl
  | some n =>
   simp only[Qad,Bool.not_true,Bool.false_eq_true,if_false,ltI,tIsR,endP];by_cases h1:n<least
   ·rw[decide_eq_true h1,if_neg (fun h=>absurd h.1 (by omega):¬ (least≤n∧Qh9 n=true))]; rfl
   ·rw[decide_eq_false h1];cases hrn:Qh9 n with
    | true=>rw[if_pos (⟨by omega,rfl⟩:least≤n∧true=true),Qcb (by omega)]; rfl
    | false=>rw[if_neg (fun h=>by cases h.2:¬ (least≤n∧false=true))]; rfl
 by_cases h1:s[k].toNat<128
 ·rw[decide_eq_true h1,if_pos h1];simp only[if_true,Qad];rw[Qy2 (by omega) (by omega)]; rfl
 rw[decide_eq_false h1,if_neg h1];simp only[Bool.false_eq_true,if_false];have cc:∀ c:UInt8,Qcs c=true→c.toNat-128<64:=fun c h=>by unfold Qcs at h; simp at h; omega
 by_cases h2:192≤s[k].toNat∧s[k].toNat<224
 ·rw[decide_eq_true h2.1,decide_eq_true h2.2,if_pos h2,b31];simp only[Bool.and_true,if_true,Qad];rw[Qy2 (by omega) (by omega)];have f:=fin (s[k].toNat % 32) 128 1 (by omega) (by omega);rw[show((1:Nat):Int)=1 from rfl] at f;rw[f];have e:s[k].toNat % 32=s[k].toNat-192:=by omega
  rw[e];cases s.drop (k+1) with
  | nil=>rfl
  | cons c1 r1 =>
   simp only[List.length_cons,if_neg (by omega:¬ r1.length+1<1),Qy3];cases h:Qcs c1 with
   | false=>rfl
   | true =>
    have:=cc c1 h;have hr:Qh9 ((s[k].toNat-192)*64+(c1.toNat-128))=true:=by unfold Qh9; rw[decide_eq_true (by omega),decide_eq_false (by omega)]; rfl
    simp only[if_true,endP,hr,and_true,true_and]
 rw[if_neg h2];have d2:(decide (192≤s[k].toNat)&&decide (s[k].toNat<224))=false:=by
  rw[Bool.and_eq_false_iff];by_cases h:192≤s[k].toNat
  ·exact .inr (decide_eq_false (by omega))
  ·exact .inl (decide_eq_false h)
 rw[d2];simp only[Bool.false_eq_true,if_false];by_cases h3:224≤s[k].toNat∧s[k].toNat<240
 ·rw[decide_eq_true h3.1,decide_eq_true h3.2,if_pos h3,b15];simp only[Bool.and_true,if_true,Qad];rw[Qy2 (by omega) (by omega)];have f:=fin (s[k].toNat % 16) 2048 2 (by omega) (by omega);rw[show((2:Nat):Int)=2 from rfl,show((2048:Nat):Int)=2048 from rfl] at f;rw[f];have e:s[k].toNat % 16=s[k].toNat-224:=by omega
  rw[e]
  match s.drop (k+1) with
  | []=>rfl
  | [c1]=>rfl
  | c1::c2::r1 =>
   simp only[List.length_cons,if_neg (by omega:¬ r1.length+1+1<2),Qy3];cases h:Qcs c1 with
   | false=>rfl
   | true =>
    cases h' : Qcs c2 with
    | false=>simp[endP]
    | true=>simp only[if_true,endP,true_and]
 rw[if_neg h3];have d3:(decide (224≤s[k].toNat)&&decide (s[k].toNat<240))=false:=by
  rw[Bool.and_eq_false_iff];by_cases h:224≤s[k].toNat
  ·exact .inr (decide_eq_false (by omega))
  ·exact .inl (decide_eq_false h)
 rw[d3];simp only[Bool.false_eq_true,if_false];by_cases h4:240≤s[k].toNat∧s[k].toNat<248
 ·rw[decide_eq_true h4.1,decide_eq_true h4.2,if_pos h4,b7];simp only[Bool.and_true,if_true,Qad];rw[Qy2 (by omega) (by omega)];have f:=fin (s[k].toNat % 8) 65536 3 (by omega) (by omega);rw[show((3:Nat):Int)=3 from rfl,show((65536:Nat):Int)=65536 from rfl] at f;rw[f];have e:s[k].toNat % 8=s[k].toNat-240:=by omega
  rw[e]
  match s.drop (k+1) with
  | []=>rfl
  | [c1]=>rfl
  | [c1,c2]=>rfl
  | c1::c2::c3::r1 =>
   simp only[List.length_cons,if_neg (by omega:¬ r1.length+1+1+1<3),Qy3];cases h:Qcs c1 with
   | false=>rfl
   | true =>
    cases h' : Qcs c2 with
    | false=>simp[endP]
    | true =>
     cases h'' : Qcs c3 with
     | false=>simp[endP]
     | true=>simp only[if_true,endP,true_and]
 rw[if_neg h4];have d4:(decide (240≤s[k].toNat)&&decide (s[k].toNat<248))=false:=by
  rw[Bool.and_eq_false_iff];by_cases h:240≤s[k].toNat
  ·exact .inr (decide_eq_false (by omega))
  ·exact .inl (decide_eq_false h)
 rw[d4];rfl
theorem Q1c(l:List UInt8)(h:l≠[]):1≤(Qjt l).2∧(Qjt l).2≤l.length:=by
 cases l with
 | nil=>exact absurd rfl h
 | cons c r =>
  rw[Qjt];unfold Qafp;split
  ·simp
  ·split
   ·split
    ·split<;>simp
    ·simp
   ·split
    ·split
     ·split<;>simp
     ·simp
    ·split
     ·split
      ·split<;>simp
      ·simp
     ·simp
def Qo6(n:Nat):List Nat :=
 if n<128 then [n] else if n<2048 then [192+n / 64,128+n % 64] else if n<65536 then [224+n / 4096,128+n / 64 % 64,128+n % 64] else [240+n / 262144,128+n / 4096 % 64,128+n / 64 % 64,128+n % 64]
theorem Qafr(l:List Nat)(h:∀ x ∈ l,x<256)(m:List UInt8):(l.map UInt8.ofNat==m)=decide (l=m.map UInt8.toNat):=by
 have key:l.map UInt8.ofNat=m↔l=m.map UInt8.toNat:=by
  constructor
  ·intro e;subst e;rw[List.map_map]
   conv=>lhs; rw[← List.map_id l]
   refine List.map_congr_left fun x hx=>?_
   have:=h x hx;show x=(UInt8.ofNat x).toNat
   rw[UInt8.toNat_ofNat', Nat.mod_eq_of_lt this]
  ·intro e;subst e;rw[List.map_map]
   conv=>rhs; rw[← List.map_id m]
   exact List.map_congr_left fun x _=>by simp
 by_cases he:l.map UInt8.ofNat=m
 ·rw[decide_eq_true (key.1 he),beq_iff_eq]; exact he
 ·rw[decide_eq_false (fun k=>he (key.2 k)),beq_eq_false_iff_ne]; exact he
theorem Q90(l:List Nat)(h:∀ x ∈ l,x<256):b2s (l.map fun x:Nat=>(x:Int))=some (l.map UInt8.ofNat):=by
 unfold b2s;rw[if_pos]
 ·rw[List.map_map]; rfl
 ·rw[List.all_eq_true];intro n hn;obtain⟨x,hx,rfl⟩:=List.mem_map.1 hn;have:=h x hx;simp only[decide_eq_true_eq];omega
theorem td(n k:Nat):((n:Int).tdiv (k:Int))=((n / k:Nat):Int):=by rw[Int.tdiv_eq_ediv_of_nonneg (by omega)]; rfl
theorem tm(n k:Nat):((n:Int).tmod (k:Int))=((n % k:Nat):Int):=by rw[Int.tmod_eq_emod_of_nonneg (by omega)]; rfl
theorem wrN(n:Nat)(h:n<9000000000000):wr (n:Int)=(n:Int):=Qik (by omega) (by omega)
theorem u8N(n:Nat)(h:n<256):IntKind.u8.wrap (n:Int)=(n:Int):=Qaiq (by omega) (by omega)
set_option maxRecDepth 20000 in
theorem Qait(n:Nat)(h:Qh9 n=true):Qlb (n:Int)=some ((Qo6 n).map UInt8.ofNat):=by
 have hn:n≤1114111:=by unfold Qh9 at h; rw[Bool.and_eq_true] at h; exact of_decide_eq_true h.1
 have a1:decide ((n:Int)<128)=decide (n<128):=ltI n 128;have a2:decide ((n:Int)<2048)=decide (n<2048):=ltI n 2048;have a3:decide ((n:Int)<65536)=decide (n<65536):=ltI n 65536;have d64:(n:Int).tdiv 64=((n / 64:Nat):Int):=td n 64;have m64:(n:Int).tmod 64=((n % 64:Nat):Int):=tm n 64;have d4096:(n:Int).tdiv 4096=((n / 4096:Nat):Int):=td n 4096;have d262:(n:Int).tdiv 262144=((n / 262144:Nat):Int):=td n 262144;have w1:∀ a b:Nat,a+b<256→IntKind.u8.wrap (wr ((a:Int)+(b:Int)))=((a+b:Nat):Int):=fun a b h=>by
  rw[Qik (by omega) (by omega),Qaiq (by omega) (by omega)]; rfl
 rw[Qlb,rIsR,h];simp only[Qad,Bool.not_true,Bool.false_eq_true,if_false,a1,a2,a3,d64,m64,d4096,d262];rw[wrN (n / 64) (by omega),wrN (n / 4096) (by omega),wrN (n / 262144) (by omega)];have t64:(((n / 64:Nat):Int)).tmod 64=((n / 64 % 64:Nat):Int):=tm (n / 64) 64;have t4096:(((n / 4096:Nat):Int)).tmod 64=((n / 4096 % 64:Nat):Int):=tm (n / 4096) 64;rw[t64,t4096];unfold Qo6;by_cases h1:n<128
 ·rw[decide_eq_true h1,if_pos h1,u8N n (by omega)];simp only[if_true];have:=Q90 [n] (by simp; omega);simp only[List.map_cons,List.map_nil] at this;rw[this]; rfl
 rw[decide_eq_false h1,if_neg h1];by_cases h2:n<2048
 ·rw[decide_eq_true h2,if_pos h2];have e1:=w1 192 (n / 64) (by omega);have e2:=w1 128 (n % 64) (by omega);have:=Q90 [192+n / 64,128+n % 64] (by simp; omega);simp only[List.map_cons,List.map_nil] at this;simp only[Bool.false_eq_true,if_false,if_true];rw[show(192:Int)=((192:Nat):Int) from rfl,show(128:Int)=((128:Nat):Int) from rfl,e1,e2,this]; rfl
 rw[decide_eq_false h2,if_neg h2];by_cases h3:n<65536
 ·rw[decide_eq_true h3,if_pos h3];have e1:=w1 224 (n / 4096) (by omega);have e2:=w1 128 (n / 64 % 64) (by omega);have e3:=w1 128 (n % 64) (by omega);have:=Q90 [224+n / 4096,128+n / 64 % 64,128+n % 64] (by simp; omega);simp only[List.map_cons,List.map_nil] at this;simp only[Bool.false_eq_true,if_false,if_true];rw[show(224:Int)=((224:Nat):Int) from rfl,show(128:Int)=((128:Nat):Int) from rfl,e1,e2,e3,this]; rfl
 rw[decide_eq_false h3,if_neg h3];have e0:=w1 240 (n / 262144) (by omega);have e1:=w1 128 (n / 4096 % 64) (by omega);have e2:=w1 128 (n / 64 % 64) (by omega);have e3:=w1 128 (n % 64) (by omega);have:=Q90 [240+n / 262144,128+n / 4096 % 64,128+n / 64 % 64,128+n % 64] (by simp; omega);simp only[List.map_cons,List.map_nil] at this;simp only[Bool.false_eq_true,if_false];rw[show(240:Int)=((240:Nat):Int) from rfl,show(128:Int)=((128:Nat):Int) from rfl,e0,e1,e2,e3,this]; rfl
theorem Qadu(n:Nat)(h:n≤1114111):∀ x ∈ Qo6 n,x<256:=by
 unfold Qo6;split
 ·simp; omega
 ·split
  ·simp; omega
  ·split<;>simp<;>omega
theorem Qajx(s:List UInt8)(k m:Nat)(hm:k+m≤s.length)(hs:s.length<9000000000000)(n:Int) :
  ( if(decide (n ≥ 0))=true then
    Ql0 n>>=fun x11 =>
    if x11=true then
     Qlb n>>=fun x12 =>
     cutL s k (wr ((k:Int)+m))>>=fun x13 =>
     some (x12==x13)
    else
     some false
   else
    some false:Option Bool)=some (decide (0≤n)&&(Qh9 n.toNat&&decide (Qo6 n.toNat=((s.take (k+m)).drop k).map UInt8.toNat))):=by
 have e:wr ((k:Int)+m)=((k+m:Nat):Int):=by rw[Qik (by omega) (by omega)]; rfl
 by_cases h:0≤n
 ·obtain⟨v,rfl⟩:∃ v:Nat,n=v:=⟨n.toNat,by omega⟩;rw[decide_eq_true (show(v:Int) ≥ 0 by omega),rIsR,e,Qxt (by omega) (by omega) (by omega)];simp only[if_true,Qad,Int.toNat_natCast,Bool.true_and];cases hr:Qh9 v with
  | false=>rfl
  | true =>
   have hv:v≤1114111:=by unfold Qh9 at hr; rw[Bool.and_eq_true] at hr; exact of_decide_eq_true hr.1
   rw[Qait v hr];simp only[if_true,Qad,Qafr _ (Qadu v hv),Bool.true_and]
 ·rw[decide_eq_false (show ¬ n ≥ 0 from h)]; rfl
theorem wr64(a b:Int)(ha : -3000000≤a)(ha2:a≤3000000)(hb:0≤b)(hb2:b≤255):wr ((wr ((wr (64*a))+(wr b)))-128)=64*a+b-128:=by
 rw[Qik (n:=64*a) (by omega) (by omega),Qik (n:=b) (by omega) (by omega),Qik (n:=64*a+b) (by omega) (by omega),Qik (by omega) (by omega)]
def addN(a:Int)(c:UInt8):Int:=64*a+c.toNat-128
theorem rL2(s:List UInt8)(k:Nat)(v6:List Int)(m:Nat)(hm:k+m≤s.length)(hm4:m≤4)(hs:s.length<9000000000000):∀ d (i:Nat) (v:Int),i+d=m→1≤i→(i=1 → -300≤v∧v≤300)→(i=2 → -30000≤v∧v≤30000)→(i=3 → -3000000≤v∧v≤3000000) →
  Qee s k v6 m v i=some (((s.drop (k+i)).take d).foldl addN v):=by
 intro d
 induction d with
 | zero =>
  intro i v hi _ _ _ _;rw[Qee,ltI,decide_eq_false (by omega:¬ i<m)];simp
 | succ d ih =>
  intro i v hi hi1 h1 h2 h3;have hk:k+i<s.length:=by omega
  have e1:wr ((k:Int)+i)=((k+i:Nat):Int):=by rw[Qik (by omega) (by omega)]; rfl
  have hc:=s[k+i].toNat_lt;have hb : -3000000≤v∧v≤3000000:=by omega
  rw[Qee,ltI,decide_eq_true (by omega:i<m),e1,Qcb (by omega)];simp only[if_true,Qcf,getE hk,Qad];rw[wr64 v _ hb.1 hb.2 (by omega) (by omega),Qgf hk,List.take_succ_cons,List.foldl_cons];exact ih (i+1) (addN v s[k+i]) (by omega) (by omega) (by omega) (by unfold addN; omega) (by unfold addN; omega)
def Qy4:List Int:=[0,0,192,224,240]
def numN(c:UInt8)(r:List UInt8)(m:Nat):Int:=(r.take (m-1)).foldl addN ((c.toNat:Int)-(Qy4[m]?.getD 0))
def tstB(c:UInt8)(r:List UInt8)(m:Nat):Bool:=decide (0≤numN c r m)&&(Qh9 (numN c r m).toNat&&decide (Qo6 (numN c r m).toNat=((c::r).take m).map UInt8.toNat))
theorem rL1(s:List UInt8)(k:Nat)(hk:k<s.length)(hs:s.length<9000000000000)(m:Nat)(h1:1≤m)(h4:m≤4) :
  Qc2 s k Qy4 m=if k+m≤s.length then(if tstB s[k] (s.drop (k+1)) m=true then some (.inr (numN s[k] (s.drop (k+1)) m,(m:Int))) else Qc2 s k Qy4 ((m+1:Nat):Int)) else some (.inl ()):=by
 have e0:wr ((s.length:Int)-k)=((s.length-k:Nat):Int):=by rw[Qik (by omega) (by omega)]; omega
 have a4:decide ((m:Int)≤4)=true:=decide_eq_true (by omega);have hc:=s[k].toNat_lt;rw[Qc2,e0,a4];by_cases hm:k+m≤s.length
 ·have a5:decide ((m:Int)≤((s.length-k:Nat):Int))=true:=decide_eq_true (by omega);obtain⟨ld,hld,hl0,hl1⟩:∃ ld:Int,Qy4[m]? = some ld∧0≤ld∧ld≤240:=by
   match m,h1,h4 with
   | 1,_,_=>exact⟨0,rfl,by omega,by omega⟩
   | 2,_,_=>exact⟨192,rfl,by omega,by omega⟩
   | 3,_,_=>exact⟨224,rfl,by omega,by omega⟩
   | 4,_,_=>exact⟨240,rfl,by omega,by omega⟩
  have ew:wr ((wr (s[k].toNat:Int))-ld)=(s[k].toNat:Int)-ld:=by rw[Qik (n:=(s[k].toNat:Int)) (by omega) (by omega),Qik (by omega) (by omega)]
  have h2:=rL2 s k Qy4 m hm h4 hs (m-1) 1 ((s[k].toNat:Int)-ld) (by omega) (by omega) (by omega) (by omega) (by omega);have en:numN s[k] (s.drop (k+1)) m=((s.drop (k+1)).take (m-1)).foldl addN ((s[k].toNat:Int)-ld):=by rw[numN,hld]; rfl
  rw[← en,show((1:Nat):Int)=1 from rfl] at h2;have ht:=Qajx s k m hm hs (numN s[k] (s.drop (k+1)) m);have et:((s.take (k+m)).drop k)=((s[k]::s.drop (k+1)).take m):=by rw[← Qgf hk,List.drop_take]; congr 1; omega
  rw[et] at ht;rw[a5,if_pos hm,Qcb (by omega)];simp only[if_true,Qad,Qcf,getE hk,hld,ew,h2];rw[ht];rfl
 ·have a5:decide ((m:Int)≤((s.length-k:Nat):Int))=false:=decide_eq_false (by omega);rw[a5,if_neg hm];rfl
theorem tst1(c:UInt8)(r:List UInt8):tstB c r 1=decide (c.toNat<128)∧numN c r 1=(c.toNat:Int):=by
 have hc:=c.toNat_lt;have en:numN c r 1=(c.toNat:Int):=by simp[numN,Qy4]
 refine⟨?_,en⟩;have hr:Qh9 c.toNat=true:=by unfold Qh9; rw[decide_eq_true (by omega),decide_eq_false (by omega)]; rfl
 rw[tstB,en,decide_eq_true (by omega),Int.toNat_natCast,hr];simp only[Bool.true_and,List.take_succ_cons,List.take_zero,List.map_cons,List.map_nil];unfold Qo6;by_cases h:c.toNat<128
 ·rw[decide_eq_true h,if_pos h]; simp
 ·rw[decide_eq_false h,if_neg h,if_pos (by omega)];simp
theorem tst2(c c1:UInt8)(r:List UInt8):tstB c (c1::r) 2=decide ((192≤c.toNat∧c.toNat<224)∧Qcs c1=true∧128≤(c.toNat-192)*64+(c1.toNat-128))∧numN c (c1::r) 2=64*((c.toNat:Int)-192)+c1.toNat-128:=by
 have hc:=c.toNat_lt;have hc1:=c1.toNat_lt;have en:numN c (c1::r) 2=64*((c.toNat:Int)-192)+c1.toNat-128:=by simp[numN,Qy4,addN]
 refine⟨?_,en⟩;rw[tstB,en];simp only[List.take_succ_cons,List.take_zero,List.map_cons,List.map_nil];have hcont:Qcs c1=true↔(128≤c1.toNat∧c1.toNat<192):=by unfold Qcs; simp
 by_cases hn:0≤64*((c.toNat:Int)-192)+c1.toNat-128
 ·obtain⟨n,hn2⟩:∃ n:Nat,64*((c.toNat:Int)-192)+c1.toNat-128=n:=⟨(64*((c.toNat:Int)-192)+c1.toNat-128).toNat,by omega⟩;rw[hn2,Int.toNat_natCast,decide_eq_true (by omega),Bool.true_and];have hlt:n<5000:=by omega
  have hr:Qh9 n=true:=by unfold Qh9; rw[decide_eq_true (by omega),decide_eq_false (by omega)]; rfl
  rw[hr,Bool.true_and];congr 1;apply propext;rw[hcont];unfold Qo6;by_cases h1:n<128
  ·rw[if_pos h1];constructor
   ·intro h; simp at h
   ·intro h; omega
  ·rw[if_neg h1];by_cases h2:n<2048
   ·rw[if_pos h2];simp only[List.cons.injEq,and_true];omega
   ·rw[if_neg h2,if_pos (by omega)];constructor
    ·intro h; simp at h
    ·intro h; omega
 ·rw[decide_eq_false hn,Bool.false_and,decide_eq_false];rw[hcont]; omega
theorem tst3(c c1 c2:UInt8)(r:List UInt8):tstB c (c1::c2::r) 3=decide ((224≤c.toNat∧c.toNat<240)∧Qcs c1=true∧Qcs c2=true∧2048≤((c.toNat-224)*64+(c1.toNat-128))*64+(c2.toNat-128)∧Qh9 (((c.toNat-224)*64+(c1.toNat-128))*64+(c2.toNat-128))=true) ∧
  numN c (c1::c2::r) 3=64*(64*((c.toNat:Int)-224)+c1.toNat-128)+c2.toNat-128:=by
 have hc:=c.toNat_lt;have hc1:=c1.toNat_lt;have hc2:=c2.toNat_lt;have en:numN c (c1::c2::r) 3=64*(64*((c.toNat:Int)-224)+c1.toNat-128)+c2.toNat-128:=by simp[numN,Qy4,addN]
 refine⟨?_,en⟩;rw[tstB,en];simp only[List.take_succ_cons,List.take_zero,List.map_cons,List.map_nil];have hcont:Qcs c1=true↔(128≤c1.toNat∧c1.toNat<192):=by unfold Qcs; simp
 have hcont2:Qcs c2=true↔(128≤c2.toNat∧c2.toNat<192):=by unfold Qcs; simp
 by_cases hn:0≤64*(64*((c.toNat:Int)-224)+c1.toNat-128)+c2.toNat-128
 ·obtain⟨n,hn2⟩:∃ n:Nat,64*(64*((c.toNat:Int)-224)+c1.toNat-128)+c2.toNat-128=n:=⟨(64*(64*((c.toNat:Int)-224)+c1.toNat-128)+c2.toNat-128).toNat,by omega⟩;rw[hn2,Int.toNat_natCast,decide_eq_true (by omega),Bool.true_and];have hlt:n<200000:=by omega
  have key:Qo6 n=[c.toNat,c1.toNat,c2.toNat]↔((224≤c.toNat∧c.toNat<240)∧(128≤c1.toNat∧c1.toNat<192)∧(128≤c2.toNat∧c2.toNat<192)∧2048≤n):=by
   unfold Qo6;by_cases h1:n<128
   ·rw[if_pos h1];exact⟨fun h=>by simp at h,fun h=>by omega⟩
   rw[if_neg h1];by_cases h2:n<2048
   ·rw[if_pos h2];exact⟨fun h=>by simp at h,fun h=>by omega⟩
   rw[if_neg h2];by_cases h3:n<65536
   ·rw[if_pos h3];simp only[List.cons.injEq,and_true];omega
   ·rw[if_neg h3];exact⟨fun h=>by simp at h,fun h=>by omega⟩
  rw[Bool.eq_iff_iff];simp only[Bool.and_eq_true,decide_eq_true_eq];rw[key,hcont,hcont2];constructor
  ·rintro ⟨hr,a,b,c', d⟩;have e:((c.toNat-224)*64+(c1.toNat-128))*64+(c2.toNat-128)=n:=by omega
   exact⟨a,b,c', by omega,by rw[e]; exact hr⟩
  ·rintro ⟨a,b,c', d,hr⟩;have e:((c.toNat-224)*64+(c1.toNat-128))*64+(c2.toNat-128)=n:=by omega
   rw[e] at hr d;exact⟨hr,a,b,c', d⟩
 ·rw[decide_eq_false hn,Bool.false_and,decide_eq_false];rw[hcont,hcont2]; omega
theorem tst4(c c1 c2 c3:UInt8)(r:List UInt8):tstB c (c1::c2::c3::r) 4=decide ((240≤c.toNat∧c.toNat<248)∧Qcs c1=true∧Qcs c2=true∧Qcs c3=true∧65536≤(((c.toNat-240)*64+(c1.toNat-128))*64+(c2.toNat-128))*64+(c3.toNat-128)∧Qh9 ((((c.toNat-240)*64+(c1.toNat-128))*64+(c2.toNat-128))*64+(c3.toNat-128))=true) ∧
  numN c (c1::c2::c3::r) 4=64*(64*(64*((c.toNat:Int)-240)+c1.toNat-128)+c2.toNat-128)+c3.toNat-128:=by
 have hc:=c.toNat_lt;have hc1:=c1.toNat_lt;have hc2:=c2.toNat_lt;have hc3:=c3.toNat_lt;have en:numN c (c1::c2::c3::r) 4=64*(64*(64*((c.toNat:Int)-240)+c1.toNat-128)+c2.toNat-128)+c3.toNat-128:=by simp[numN,Qy4,addN]
 refine⟨?_,en⟩;rw[tstB,en];simp only[List.take_succ_cons,List.take_zero,List.map_cons,List.map_nil];have hcont:Qcs c1=true↔(128≤c1.toNat∧c1.toNat<192):=by unfold Qcs; simp
 have hcont2:Qcs c2=true↔(128≤c2.toNat∧c2.toNat<192):=by unfold Qcs; simp
 have hcont3:Qcs c3=true↔(128≤c3.toNat∧c3.toNat<192):=by unfold Qcs; simp
 by_cases hn:0≤64*(64*(64*((c.toNat:Int)-240)+c1.toNat-128)+c2.toNat-128)+c3.toNat-128
 ·obtain⟨n,hn2⟩:∃ n:Nat,64*(64*(64*((c.toNat:Int)-240)+c1.toNat-128)+c2.toNat-128)+c3.toNat-128=n:=⟨(64*(64*(64*((c.toNat:Int)-240)+c1.toNat-128)+c2.toNat-128)+c3.toNat-128).toNat,by omega⟩;rw[hn2,Int.toNat_natCast,decide_eq_true (by omega),Bool.true_and];have key:Qh9 n=true→(Qo6 n=[c.toNat,c1.toNat,c2.toNat,c3.toNat]↔((240≤c.toNat∧c.toNat<248)∧(128≤c1.toNat∧c1.toNat<192)∧(128≤c2.toNat∧c2.toNat<192)∧(128≤c3.toNat∧c3.toNat<192)∧65536≤n)):=fun hr=>by
   have hlt:n≤1114111:=by unfold Qh9 at hr; rw[Bool.and_eq_true] at hr; exact of_decide_eq_true hr.1
   unfold Qo6;by_cases h1:n<128
   ·rw[if_pos h1];exact⟨fun h=>by simp at h,fun h=>by omega⟩
   rw[if_neg h1];by_cases h2:n<2048
   ·rw[if_pos h2];exact⟨fun h=>by simp at h,fun h=>by omega⟩
   rw[if_neg h2];by_cases h3:n<65536
   ·rw[if_pos h3];exact⟨fun h=>by simp at h,fun h=>by omega⟩
   ·rw[if_neg h3];simp only[List.cons.injEq,and_true];omega
  rw[Bool.eq_iff_iff];simp only[Bool.and_eq_true,decide_eq_true_eq];rw[hcont,hcont2,hcont3];constructor
  ·rintro ⟨hr,hb⟩;obtain⟨a,b,c', d', d⟩:=(key hr).1 hb;have e:(((c.toNat-240)*64+(c1.toNat-128))*64+(c2.toNat-128))*64+(c3.toNat-128)=n:=by omega
   exact⟨a,b,c', d', by omega,by rw[e]; exact hr⟩
  ·rintro ⟨a,b,c', d', d,hr⟩;have e:(((c.toNat-240)*64+(c1.toNat-128))*64+(c2.toNat-128))*64+(c3.toNat-128)=n:=by omega
   rw[e] at hr d;exact⟨hr,(key hr).2 ⟨a,b,c', d', d⟩⟩
 ·rw[decide_eq_false hn,Bool.false_and,decide_eq_false];rw[hcont,hcont2,hcont3]; omega
theorem Qajy(s:List UInt8)(k:Nat)(hk:k<s.length)(hs:s.length<9000000000000):Qkm s k=some (((Qjt (s.drop k)).1:Int),((Qjt (s.drop k)).2:Int)):=by
 have d1:decide ((k:Int)<0)=false:=decide_eq_false (by omega);have d2:decide ((k:Int) ≥ (s.length:Int))=false:=decide_eq_false (by omega);have hc:=s[k].toNat_lt;have l1:=rL1 s k hk hs 1 (by omega) (by omega);have l2:=rL1 s k hk hs 2 (by omega) (by omega);have l3:=rL1 s k hk hs 3 (by omega) (by omega);have l4:=rL1 s k hk hs 4 (by omega) (by omega);have l5:Qc2 s k Qy4 ((4+1:Nat):Int)=some (.inl ()):=by
  rw[Qc2,show decide (((4+1:Nat):Int)≤4)=false from rfl];simp only[Bool.false_eq_true,if_false,Qad]
 have hdl:(s.drop (k+1)).length=s.length-(k+1):=List.length_drop;rw[Qkm,d1,d2,Qgf hk,Qjt];show(Qc2 s k Qy4 ((1:Nat):Int)>>=_)=_;rw[l1,if_pos (by omega),(tst1 _ _).1,(tst1 _ _).2,l2];unfold Qafp;by_cases h1:s[k].toNat<128
 ·rw[decide_eq_true h1,if_pos rfl,if_pos h1]; rfl
 rw[decide_eq_false h1,if_neg (by decide),if_neg h1];generalize hr:s.drop (k+1)=r at *
 match r with
 | [] =>
  simp at hdl;rw[if_neg (by omega)];simp
 | [c1] =>
  simp at hdl;have hc1:=c1.toNat_lt;rw[if_pos (by omega),(tst2 _ _ _).1,(tst2 _ _ _).2,l3,if_neg (by omega:¬ k+3≤s.length)];dsimp only;by_cases h2:192≤s[k].toNat∧s[k].toNat<224
  ·rw[if_pos h2];by_cases h3:Qcs c1=true∧128≤(s[k].toNat-192)*64+(c1.toNat-128)
   ·have h4:128≤c1.toNat:=by have:=h3.1; unfold Qcs at this; simp at this; exact this.1
    rw[decide_eq_true ⟨h2,h3⟩,if_pos rfl,if_pos h3];simp only[Qad];congr 2;omega
   ·rw[decide_eq_false (fun h=>h3 h.2),if_neg (by decide),if_neg h3]; rfl
  ·rw[decide_eq_false (fun h=>h2 h.1),if_neg (by decide),if_neg h2];simp
 | [c1,c2] =>
  simp at hdl;have hc1:=c1.toNat_lt;have hc2:=c2.toNat_lt;rw[if_pos (by omega),(tst2 _ _ _).1,(tst2 _ _ _).2,l3,if_pos (by omega:k+3≤s.length),(tst3 _ _ _ _).1,(tst3 _ _ _ _).2,l4,if_neg (by omega:¬ k+4≤s.length)];dsimp only;by_cases h2:192≤s[k].toNat∧s[k].toNat<224
  ·rw[if_pos h2];by_cases h3:Qcs c1=true∧128≤(s[k].toNat-192)*64+(c1.toNat-128)
   ·have h4:128≤c1.toNat:=by have:=h3.1; unfold Qcs at this; simp at this; exact this.1
    rw[decide_eq_true ⟨h2,h3⟩,if_pos rfl,if_pos h3];simp only[Qad];congr 2;omega
   ·rw[decide_eq_false (fun h=>h3 h.2),if_neg (by decide),if_neg h3,decide_eq_false (fun h=>by have:=h.1; omega),if_neg (by decide)]; rfl
  ·rw[decide_eq_false (fun h=>h2 h.1),if_neg (by decide),if_neg h2];by_cases h5:224≤s[k].toNat∧s[k].toNat<240
   ·rw[if_pos h5];by_cases h6:Qcs c1=true∧Qcs c2=true∧2048≤((s[k].toNat-224)*64+(c1.toNat-128))*64+(c2.toNat-128)∧Qh9 (((s[k].toNat-224)*64+(c1.toNat-128))*64+(c2.toNat-128))=true
    ·have h4:128≤c1.toNat:=by have:=h6.1; unfold Qcs at this; simp at this; exact this.1
     have h4' : 128≤c2.toNat:=by have:=h6.2.1; unfold Qcs at this; simp at this; exact this.1
     rw[decide_eq_true ⟨h5,h6⟩,if_pos rfl,if_pos h6];simp only[Qad];congr 2;omega
    ·rw[decide_eq_false (fun h=>h6 h.2),if_neg (by decide),if_neg h6]; rfl
   ·rw[decide_eq_false (fun h=>h5 h.1),if_neg (by decide),if_neg h5];simp
 | c1::c2::c3::r =>
  simp at hdl;have hc1:=c1.toNat_lt;have hc2:=c2.toNat_lt;have hc3:=c3.toNat_lt;rw[if_pos (by omega),(tst2 _ _ _).1,(tst2 _ _ _).2,l3,if_pos (by omega:k+3≤s.length),(tst3 _ _ _ _).1,(tst3 _ _ _ _).2,l4,if_pos (by omega:k+4≤s.length),(tst4 _ _ _ _ _).1,(tst4 _ _ _ _ _).2,l5];dsimp only;by_cases h2:192≤s[k].toNat∧s[k].toNat<224
  ·rw[if_pos h2];by_cases h3:Qcs c1=true∧128≤(s[k].toNat-192)*64+(c1.toNat-128)
   ·have h4:128≤c1.toNat:=by have:=h3.1; unfold Qcs at this; simp at this; exact this.1
    rw[decide_eq_true ⟨h2,h3⟩,if_pos rfl,if_pos h3];simp only[Qad];congr 2;omega
   ·rw[decide_eq_false (fun h=>h3 h.2),if_neg (by decide),if_neg h3,decide_eq_false (fun h=>by have:=h.1; omega),if_neg (by decide),decide_eq_false (fun h=>by have:=h.1; omega),if_neg (by decide)]; rfl
  ·rw[decide_eq_false (fun h=>h2 h.1),if_neg (by decide),if_neg h2];by_cases h5:224≤s[k].toNat∧s[k].toNat<240
   ·rw[if_pos h5];by_cases h6:Qcs c1=true∧Qcs c2=true∧2048≤((s[k].toNat-224)*64+(c1.toNat-128))*64+(c2.toNat-128)∧Qh9 (((s[k].toNat-224)*64+(c1.toNat-128))*64+(c2.toNat-128))=true
    ·have h4:128≤c1.toNat:=by have:=h6.1; unfold Qcs at this; simp at this; exact this.1
     have h4' : 128≤c2.toNat:=by have:=h6.2.1; unfold Qcs at this; simp at this; exact this.1
     rw[decide_eq_true ⟨h5,h6⟩,if_pos rfl,if_pos h6];simp only[Qad];congr 2;omega
    ·rw[decide_eq_false (fun h=>h6 h.2),if_neg (by decide),if_neg h6,decide_eq_false (fun h=>by have:=h.1; omega),if_neg (by decide)]; rfl
   ·rw[decide_eq_false (fun h=>h5 h.1),if_neg (by decide),if_neg h5];by_cases h7:240≤s[k].toNat∧s[k].toNat<248
    ·rw[if_pos h7];by_cases h8:Qcs c1=true∧Qcs c2=true∧Qcs c3=true∧65536≤(((s[k].toNat-240)*64+(c1.toNat-128))*64+(c2.toNat-128))*64+(c3.toNat-128)∧Qh9 ((((s[k].toNat-240)*64+(c1.toNat-128))*64+(c2.toNat-128))*64+(c3.toNat-128))=true
     ·have h4:128≤c1.toNat:=by have:=h8.1; unfold Qcs at this; simp at this; exact this.1
      have h4' : 128≤c2.toNat:=by have:=h8.2.1; unfold Qcs at this; simp at this; exact this.1
      have h4'' : 128≤c3.toNat:=by have:=h8.2.2.1; unfold Qcs at this; simp at this; exact this.1
      rw[decide_eq_true ⟨h7,h8⟩,if_pos rfl,if_pos h8];simp only[Qad];congr 2;omega
     ·rw[decide_eq_false (fun h=>h8 h.2),if_neg (by decide),if_neg h8]; rfl
    ·rw[decide_eq_false (fun h=>h7 h.1),if_neg (by decide),if_neg h7];rfl
def utfF:Nat→List UInt8→Bool
 | 0,_=>true
 | n+1,l=>match l with
  | []=>true
  | _::_=>if(Qjt l).1=65533∧(Qjt l).2=1 then false else utfF n (l.drop (Qjt l).2)
theorem Q6s(n:Nat)(l:List UInt8)(h:l≠[]):utfF (n+1) l=if(Qjt l).1=65533∧(Qjt l).2=1 then false else utfF n (l.drop (Qjt l).2):=by
 cases l with
 | nil=>exact absurd rfl h
 | cons c r=>rfl
theorem badI(p:Nat×Nat):(if(((p.1:Nat):Int)==65533)=true then some (((p.2:Nat):Int)==1) else some false:Option Bool)=some (decide (p.1=65533∧p.2=1)):=by
 have a:=eqN p.1 65533;have b:=eqN p.2 1;rw[show(65533:Int)=((65533:Nat):Int) from rfl,show(1:Int)=((1:Nat):Int) from rfl,a,b];by_cases h1:p.1=65533
 ·rw[beq_iff_eq.2 h1,if_pos rfl];by_cases h2:p.2=1
  ·rw[beq_iff_eq.2 h2,decide_eq_true ⟨h1,h2⟩]
  ·rw[beq_eq_false_iff_ne.2 h2,decide_eq_false (fun h=>h2 h.2)]
 ·rw[beq_eq_false_iff_ne.2 h1,if_neg (by decide),decide_eq_false (fun h=>h1 h.1)]
theorem rIsU(s:List UInt8)(hs:s.length<9000000000000):∀ n k,k≤s.length→s.length-k≤n→Qne s k=some (if utfF n (s.drop k)=true then .inl () else .inr ()):=by
 intro n
 induction n with
 | zero =>
  intro k h1 h2;rw[Qne,ltI,decide_eq_false (by omega:¬ k<s.length)];rfl
 | succ n ih =>
  intro k h1 h2;by_cases hk:k<s.length
  ·have hne:s.drop k≠[]:=by rw[Qgf hk]; exact List.cons_ne_nil _ _
   obtain⟨z1,z2⟩:=Q1c _ hne;rw[List.length_drop] at z2;have ew:wr ((k:Int)+((Qjt (s.drop k)).2:Int))=((k+(Qjt (s.drop k)).2:Nat):Int):=by rw[Qik (by omega) (by omega)]; rfl
   rw[Qne,ltI,decide_eq_true hk,Qajy s k hk hs];simp only[if_true,Qad];rw[badI (Qjt (s.drop k)),ew,ih _ (by omega) (by omega),Q6s n _ hne,List.drop_drop];by_cases hb:(Qjt (s.drop k)).1=65533∧(Qjt (s.drop k)).2=1
   ·rw[decide_eq_true hb,if_pos hb]; rfl
   ·rw[decide_eq_false hb,if_neg hb]; rfl
  ·rw[Qne,ltI,decide_eq_false hk,List.drop_eq_nil_of_le (by omega)];rfl
theorem tIsU(s:List UInt8)(x1:List UInt8)(hs:s.length<9000000000000):∀ n k,k≤s.length→s.length-k≤n→∃ out,Qex s k=some (out,())∧Qjn x1 out=some (if utfF n (s.drop k)=true then .inl () else .inr ()):=by
 intro n
 induction n with
 | zero =>
  intro k h1 h2;rw[Qex,ltI,decide_eq_false (by omega:¬ k<s.length)];refine⟨[],rfl,?_⟩;rw[Qjn]; rfl
 | succ n ih =>
  intro k h1 h2;by_cases hk:k<s.length
  ·have hne:s.drop k≠[]:=by rw[Qgf hk]; exact List.cons_ne_nil _ _
   obtain⟨z1,z2⟩:=Q1c _ hne;rw[List.length_drop] at z2;have ew:wr ((k:Int)+((Qjt (s.drop k)).2:Int))=((k+(Qjt (s.drop k)).2:Nat):Int):=by rw[Qik (by omega) (by omega)]; rfl
   obtain⟨out,o1,o2⟩:=ih (k+(Qjt (s.drop k)).2) (by omega) (by omega);rw[Qex,ltI,decide_eq_true hk,Qajw s k hk (by omega)];simp only[if_true,Qad];rw[ew,o1];refine⟨_,rfl,?_⟩;rw[Qjn];simp only;rw[badI (Qjt (s.drop k)),o2,Q6s n _ hne,List.drop_drop];by_cases hb:(Qjt (s.drop k)).1=65533∧(Qjt (s.drop k)).2=1
   ·rw[decide_eq_true hb,if_pos hb]; rfl
   ·rw[decide_eq_false hb,if_neg hb]; rfl
  ·rw[Qex,ltI,decide_eq_false hk,List.drop_eq_nil_of_le (by omega)];refine⟨[],rfl,?_⟩;rw[Qjn]; rfl
theorem rUtf(s:List UInt8)(hs:s.length<9000000000000):Qadi s=some (utfF s.length s):=by
 have:=rIsU s hs s.length 0 (by omega) (by omega);rw[Qadi,show(0:Int)=((0:Nat):Int) from rfl,this,List.drop_zero];cases utfF s.length s<;>rfl
theorem tUtf(s:List UInt8)(hs:s.length<9000000000000):Q6b s=some (utfF s.length s):=by
 obtain⟨out,o1,o2⟩:=tIsU s s hs s.length 0 (by omega) (by omega);rw[List.drop_zero] at o2;rw[Q6b,Q29];simp only[Qad];rw[Qth,show(0:Int)=((0:Nat):Int) from rfl,o1];simp only[Qad,List.append_nil,o2];cases utfF s.length s<;>rfl
def qb(c:UInt8):List UInt8:=if c=10 then [92,110] else if c=9 then [92,116] else if c=34∨c=92 then [92,c] else [c]
def qs(s:List UInt8):List UInt8:=s.flatMap qb
theorem Qadv(c:UInt8):(qb c).length≤2:=by unfold qb; split; simp; split; simp; split<;>simp
theorem Qagc:∀ s:List UInt8,(qs s).length≤2*s.length
 | []=>by simp[qs]
 | c::r=>by
  have:=Qagc r;have:=Qadv c;simp[qs] at *;omega
theorem eqC(c:UInt8)(k:Nat)(hk:k<256):((c.toNat:Int)==(k:Int))=decide (c=UInt8.ofNat k):=by
 rw[eqN];by_cases h:c.toNat=k
 ·rw[beq_iff_eq.2 h,decide_eq_true];apply UInt8.toNat_inj.1;rw[h,UInt8.toNat_ofNat', Nat.mod_eq_of_lt hk]
 ·rw[beq_eq_false_iff_ne.2 h,decide_eq_false];intro e; apply h; rw[e,UInt8.toNat_ofNat', Nat.mod_eq_of_lt hk]
theorem Qahn(s:List UInt8)(hs:s.length≤1000000):∀ k,k≤s.length→∀ acc:List Int,acc.length≤2*k+1→Qc7 s acc k=some (acc++s2b (qs (s.drop k))):=by
 refine upto ?_ fun k hk ih=>?_
 ·intro acc _;rw[Qc7]; simp[qs,s2b]
 ·intro acc ha;have e10:=eqC s[k] 10 (by omega);have e9:=eqC s[k] 9 (by omega);have e34:=eqC s[k] 34 (by omega);have e92:=eqC s[k] 92 (by omega);rw[Qc7,Qcb (by omega)];simp only[ltI,hk,decide_true,if_true,Qcf,getE hk,Qad];rw[show(10:Int)=((10:Nat):Int) from rfl,show(9:Int)=((9:Nat):Int) from rfl,show(34:Int)=((34:Nat):Int) from rfl,show(92:Int)=((92:Nat):Int) from rfl,e10,e9,e34,e92];have eq:qs (s.drop k)=qb s[k]++qs (s.drop (k+1)):=by rw[Qgf hk]; rfl
  have step:∀ w:List UInt8,qb s[k]=w→(appL 1 acc (s2b w)>>=fun x=>Qc7 s x ((k+1:Nat):Int))=some (acc++s2b (qs (s.drop k))):=fun w hw=>by
   have hl:w.length≤2:=by rw[← hw]; exact Qadv _
   rw[Qn3 (by rw[Qy0]; omega) (by rw[Qy0]; omega),Qad,ih _ (by rw[List.length_append,Qy0]; omega),eq,hw,Qahh,List.append_assoc]
  by_cases h10:s[k]=10
  ·rw[decide_eq_true (show s[k]=UInt8.ofNat 10 from h10)];exact step [92,110] (by unfold qb; rw[if_pos h10])
  have h10' : decide (s[k]=UInt8.ofNat 10)=false:=decide_eq_false h10;rw[h10'];by_cases h9:s[k]=9
  ·rw[decide_eq_true (show s[k]=UInt8.ofNat 9 from h9)];exact step [92,116] (by unfold qb; rw[if_neg h10,if_pos h9])
  have h9' : decide (s[k]=UInt8.ofNat 9)=false:=decide_eq_false h9;rw[h9'];have e:(if decide (s[k]=UInt8.ofNat 34)=true then some (decide (s[k]=UInt8.ofNat 34)) else some (decide (s[k]=UInt8.ofNat 92)):Option Bool)=some (decide (s[k]=34∨s[k]=92)):=by
   by_cases h:s[k]=34
   ·rw[decide_eq_true (show s[k]=UInt8.ofNat 34 from h),decide_eq_true (show s[k]=34∨s[k]=92 from .inl h)]; rfl
   ·rw[decide_eq_false (show ¬ s[k]=UInt8.ofNat 34 from h)];by_cases h' : s[k]=92
    ·rw[decide_eq_true (show s[k]=UInt8.ofNat 92 from h'),decide_eq_true (show s[k]=34∨s[k]=92 from .inr h')]; rfl
    ·rw[decide_eq_false (show ¬ s[k]=UInt8.ofNat 92 from h'),decide_eq_false (show ¬ (s[k]=34∨s[k]=92) from fun q=>q.elim h h')]; rfl
  simp only[Bool.false_eq_true,if_false];rw[e];simp only[Qad];by_cases h34:s[k]=34∨s[k]=92
  ·rw[decide_eq_true h34];exact step [92,s[k]] (by unfold qb; rw[if_neg h10,if_neg h9,if_pos h34])
  ·rw[decide_eq_false h34];exact step [s[k]] (by unfold qb; rw[if_neg h10,if_neg h9,if_neg h34])
theorem Qaho(s:List UInt8)(hs:s.length≤1000000):∀ k,k≤s.length→∀ acc:List UInt8,acc.length≤2*k+1→Qhd s acc k=some (if(s.drop k).any (· == 13)=true then .inr () else .inl (acc++qs (s.drop k))):=by
 refine upto ?_ fun k hk ih=>?_
 ·intro acc _;rw[Qhd]; simp[qs]
 ·intro acc ha;have ec:cutL s k (wr ((k:Int)+1))=some [s[k]]:=by
   rw[Qcb (by omega),Qxt (by omega) (by omega) (by omega),Int.toNat_natCast,Int.toNat_natCast];congr 1;rw[List.drop_take,Qgf hk];have:k+1-k=1:=by omega
   rw[this]; rfl
  have eq:qs (s.drop k)=qb s[k]++qs (s.drop (k+1)):=by rw[Qgf hk]; rfl
  have eany:(s.drop k).any (· == 13)=(s[k]==13||(s.drop (k+1)).any (· == 13)):=by rw[Qgf hk]; rfl
  have e1:∀ b:UInt8,(([s[k]]:List UInt8)==[b])=decide (s[k]=b):=fun b=>by
   rw[List.cons_beq_cons];by_cases h:s[k]=b
   ·rw[decide_eq_true h,beq_iff_eq.2 h]; rfl
   ·rw[decide_eq_false h,beq_eq_false_iff_ne.2 h]; rfl
  have hq:=Qadv s[k];rw[Qhd,ec,Qcb (by omega),eany,eq];simp only[ltI,hk,decide_true,if_true,Qad,e1];by_cases h13:s[k]=13
  ·rw[decide_eq_true h13,beq_iff_eq.2 h13]; rfl
  rw[decide_eq_false h13,beq_eq_false_iff_ne.2 h13];have n1:need (([92]:List UInt8).length+[s[k]].length≤9223372036854775807)=some ():=Qr5 (by simp);have step:∀ w:List UInt8,qb s[k]=w→(need (acc.length+w.length≤9223372036854775807)>>=fun _=>Qhd s (acc++w) ((k+1:Nat):Int))=some (if(s.drop (k+1)).any (· == 13)=true then .inr () else .inl (acc++(qb s[k]++qs (s.drop (k+1))))):=fun w hw=>by
   rw[Qr5 (by rw[← hw]; omega),Qad,ih _ (by rw[List.length_append,← hw]; omega),hw,List.append_assoc]
  simp only[Bool.false_eq_true,if_false,Bool.false_or,n1,Qad];by_cases h10:s[k]=10
  ·rw[decide_eq_true h10];exact step [92,110] (by unfold qb; rw[if_pos h10])
  rw[decide_eq_false h10];by_cases h9:s[k]=9
  ·rw[decide_eq_true h9];exact step [92,116] (by unfold qb; rw[if_neg h10,if_pos h9])
  rw[decide_eq_false h9];by_cases h34:s[k]=34
  ·rw[decide_eq_true h34];exact step ([92]++[s[k]]) (by unfold qb; rw[if_neg h10,if_neg h9,if_pos (show s[k]=34∨s[k]=92 from .inl h34)]; rfl)
  rw[decide_eq_false h34];by_cases h92:s[k]=92
  ·rw[decide_eq_true h92];exact step ([92]++[s[k]]) (by unfold qb; rw[if_neg h10,if_neg h9,if_pos (show s[k]=34∨s[k]=92 from .inr h92)]; rfl)
  ·rw[decide_eq_false h92];exact step [s[k]] (by unfold qb; rw[if_neg h10,if_neg h9,if_neg (show ¬ (s[k]=34∨s[k]=92) from fun q=>q.elim h34 h92)])
theorem Qaiu:∀ s:List UInt8,decide (Lib.indexByte s 13 ≥ 0)=s.any (· == 13)
 | []=>rfl
 | c::r=>by
  have ih:=Qaiu r;have hg:=Lib.indexByte_ge r 13;unfold Lib.indexByte;rw[List.any_cons];cases hc:(c==13) with
  | true=>rfl
  | false =>
   simp only[Bool.false_eq_true,if_false,Bool.false_or];rw[← ih];by_cases h1:Lib.indexByte r 13 = -1
   ·rw[h1]; rfl
   ·rw[if_neg (by simpa using h1),decide_eq_true (by omega),decide_eq_true (by omega)]
def quoV(s:List UInt8):List UInt8×Bool:=if utfF s.length s=true∧s.any (· == 13)=false then([34]++qs s++[34],true) else([],false)
theorem Qagd(s:List UInt8)(hs:s.length≤1000000):Qjo s=some (quoV s)∧Qp2 s=some (quoV s)∧(quoV s).1.length≤2*s.length+2:=by
 unfold quoV;have hl:=Qagc s;have t:=Qahn s hs 0 (by omega) [34] (by simp);have r:=Qaho s hs 0 (by omega) [34] (by simp);rw[List.drop_zero] at t r;have e13:decide (Lib.indexByte s (13:Int).toNat.toUInt8 ≥ 0)=s.any (· == 13):=Qaiu s;refine⟨?_,?_,?_⟩
 ·rw[Qjo,tUtf s (by omega),Qf8,Qb9];simp only[Qad,e13];cases hu:utfF s.length s with
  | false=>rfl
  | true =>
   cases ha:s.any (· == 13) with
   | true=>rfl
   | false =>
    simp only[Bool.not_true,Bool.false_eq_true,if_false,Qad,if_true,and_self];rw[show(0:Int)=((0:Nat):Int) from rfl,t];simp only[Qad];rw[Qn3 (by simp[Qy0]; omega) (by simp[Qy0]; omega),Qad];have e:[34]++s2b (qs s)++[34]=s2b ([34]++qs s++[34]):=by simp[s2b]
    rw[e,Qahi];rfl
 ·rw[Qp2,rUtf s (by omega)];cases hu:utfF s.length s with
  | false=>rfl
  | true =>
   simp only[Qad,Bool.not_true,Bool.false_eq_true,if_false];rw[show(0:Int)=((0:Nat):Int) from rfl,r];cases ha:s.any (· == 13) with
   | true=>rfl
   | false =>
    simp only[Bool.false_eq_true,if_false,Qad,and_self,if_true];rw[Qr5 (by simp; omega)];rfl
 ·split
  ·simp; omega
  ·simp
theorem Qadw(s:List UInt8)(hs:s.length≤1000000):∃ q,Qjo s=some q∧Qp2 s=some q∧q.1.length≤2*s.length+2:=⟨_,Qagd s hs⟩
def rngN(x:Qaa):Prop := -9223372036854775808≤x.N∧x.N≤9223372036854775807
theorem Q1d(x:Qaa)(h1:x.Name.length≤40)(h2:x.Text.length≤60)(h3:rngN x):okNd x:=by
 refine⟨by omega,by omega,h3,fun _=>?_⟩;obtain⟨q,q1,q2,-⟩:=Qadw x.Text (by omega);exact⟨q,q1,q2⟩
abbrev Nm:=List UInt8
def up(l:List Nm):Prop:=l.Pairwise (· < ·)
theorem bl:∀ x y:Nm,Op.bytesLess x y=decide (x<y)
 | [],[]=>by simp[Op.bytesLess]
 | _::_,[]=>by simp[Op.bytesLess]
 | [],_::_=>by simp[Op.bytesLess]
 | a::x,b::y=>by
  rw[Op.bytesLess,bl x y];simp only[List.cons_lt_cons_iff];by_cases h1:a<b<;>by_cases h2:a=b<;>by_cases h3:x<y<;>simp[h1,h2,h3]
theorem nlt{a b:Nm}(h:a<b):¬ b<a:=fun k=>List.lt_irrefl a (List.lt_trans h k)
theorem Qage{a b:Nm}(h:¬ a<b)(k:¬ b<a):a=b:=List.le_antisymm k h
theorem Qko{l:List Nm}(h:up l):l.Nodup:=List.Pairwise.imp (fun {a b} (h:a<b) (e:a=b)=>List.lt_irrefl a (by rw[← e] at h; exact h)) h
theorem Qy5{a b:List Nm}(ha:up a)(hb:up b)(h:∀ x,x ∈ a↔x ∈ b):a=b :=
 List.Perm.eq_of_pairwise (fun _ _ _ _ h1 h2=>absurd h2 (nlt h1)) ha hb ((List.perm_ext_iff_of_nodup (Qko ha) (Qko hb)).2 h)
def insS(s:Nm):List Nm→List Nm
 | []=>[s]
 | x::r=>if s=x then x::r else if Op.bytesLess s x then s::x::r else x::insS s r
theorem Qt4(s:Nm):∀ (l:List Nm) (x:Nm),x ∈ insS s l↔x=s∨x ∈ l
 | [],x=>by simp[insS]
 | y::r,x=>by
  unfold insS;split
  ·rename_i h; subst h; simp
  ·split
   ·simp
   ·simp only[List.mem_cons,Qt4 s r];constructor
    ·rintro (h | h | h)
     ·exact .inr (.inl h)
     ·exact .inl h
     ·exact .inr (.inr h)
    ·rintro (h | h | h)
     ·exact .inr (.inl h)
     ·exact .inl h
     ·exact .inr (.inr h)
theorem Q8g(s:Nm):∀ {l:List Nm},up l→up (insS s l)
 | [],_=>by simp[insS,up]
 | y::r,h=>by
  obtain⟨h1,h2⟩:=List.pairwise_cons.1 h;unfold insS;split
  ·exact h
  ·rename_i hne;split
   ·rename_i hl;rw[bl] at hl;have hl:=of_decide_eq_true hl;exact List.pairwise_cons.2 ⟨fun z hz=>by
     rcases List.mem_cons.1 hz with rfl | hz
     ·exact hl
     ·exact List.lt_trans hl (h1 z hz),h⟩
   ·rename_i hl;rw[bl] at hl;have hl:¬ s<y:=by simpa using hl
    refine List.pairwise_cons.2 ⟨fun z hz=>?_,Q8g s h2⟩;rcases (Qt4 s r z).1 hz with rfl | hz
    ·exact Classical.byContradiction fun k=>hne (Qage hl k)
    ·exact h1 z hz
def upL(l:List Nm):List Nm:=l.foldr insS []
theorem Qlp:∀ {l:List Nm} {x:Nm},x ∈ upL l↔x ∈ l
 | [],x=>Iff.rfl
 | y::r,x=>by
  show x ∈ insS y (upL r)↔_;rw[Qt4,Qlp (l:=r),List.mem_cons]
theorem Qmb:∀ l:List Nm,up (upL l)
 | []=>List.Pairwise.nil
 | y::r=>Q8g y (Qmb r)
theorem Qaiv{l:List Nm}(h:up l):upL l=l:=Qy5 (Qmb l) h fun _=>Qlp
theorem Qahp(l:List Nm):(upL l).length≤l.length:=by
 refine List.Nodup.length_le_of_subset (Qko (Qmb l)) fun x hx=>Qlp.1 hx
theorem Qagf{l:List Nm}:(l.mergeSort fun x y=>decide (x≤y)).Pairwise (· ≤ ·):=by
 have:=List.pairwise_mergeSort (le:=fun x y:Nm=>decide (x≤y)) (fun a b c h1 h2=>by
  simp only[decide_eq_true_eq] at *;exact List.le_trans h1 h2) (fun a b=>by
  simp only[Bool.or_eq_true,decide_eq_true_eq];exact List.le_total a b) l
 exact this.imp fun h=>of_decide_eq_true h
theorem Qahq{a b:Nm}(h:a≤b)(hne:a≠b):a<b:=Classical.byContradiction fun k=>hne (Qage k h)
theorem Qadx{l:List Nm}(h:l.Nodup):(l.mergeSort fun x y=>decide (x≤y))=upL l:=by
 have hn:=(List.mergeSort_perm l (fun x y:Nm=>decide (x≤y))).nodup_iff.2 h;refine Qy5 (List.Pairwise.imp₂ (fun {a b} h1 h2=>Qahq h1 h2) Qagf hn) (Qmb l) fun x=>by rw[List.mem_mergeSort,Qlp]
theorem Qy6(zs:List Nm)(hz:zs.Pairwise (· ≤ ·)):∀ m,m≤zs.length→up (Lib.compactUpTo zs.toArray m)∧∀ x,x ∈ Lib.compactUpTo zs.toArray m↔x ∈ zs.take m
 | 0,_=>by simp[Lib.compactUpTo,up]
 | m+1,hm=>by
  obtain⟨h1,h2⟩:=Qy6 zs hz m (by omega);have e:zs.toArray[m]! = zs[m]:=by simp[show m<zs.length by omega]
  rw[Lib.compactUpTo_succ,e,List.take_succ_eq_append_getElem (by omega)];by_cases hk:Lib.keeps zs.toArray m=true
  ·rw[if_pos hk];refine⟨List.pairwise_append.2 ⟨h1,by simp,fun a ha b hb=>?_⟩,fun x=>by simp only[List.mem_append,h2]⟩;simp only[List.mem_singleton] at hb;subst hb;have ha:=(h2 a).1 ha;obtain⟨j,hj,rfl⟩:=List.mem_iff_getElem.1 ha;have hj2:j<m:=by simp at hj; omega
   rw[List.getElem_take];have hkk:m=0∨zs.toArray[m]! ≠ zs.toArray[m-1]! := by simpa [Lib.keeps] using hk
   have hne:zs[m]≠zs[m-1]:=by
    rcases hkk with h | h
    ·omega
    ·have e2:zs.toArray[m-1]! = zs[m-1]:=by simp[show m-1<zs.length by omega]
     rwa [e,e2] at h
   have hle:zs[m-1]≤zs[m]:=List.pairwise_iff_getElem.1 hz (m-1) m (by omega) (by omega) (by omega);have hlt:=Qahq hle (Ne.symm hne);by_cases hjm:j=m-1
   ·subst hjm; exact hlt
   ·have hle2:zs[j]≤zs[m-1]:=List.pairwise_iff_getElem.1 hz j (m-1) (by omega) (by omega) (by omega);by_cases he:zs[j]=zs[m-1]
    ·rw[he]; exact hlt
    ·exact List.lt_trans (Qahq hle2 he) hlt
  ·rw[if_neg hk,List.append_nil];refine⟨h1,fun x=>?_⟩;rw[h2,List.mem_append];refine⟨.inl,fun h=>h.elim id fun h=>?_⟩;simp only[List.mem_singleton] at h;subst h;have hkk:¬ (m=0∨zs.toArray[m]! ≠ zs.toArray[m-1]!):=by simpa [Lib.keeps] using hk
   have h0:m≠0:=fun h=>hkk (.inl h)
   have e2:zs.toArray[m-1]! = zs[m-1]:=by simp[show m-1<zs.length by omega]
   have hq:zs[m]=zs[m-1]:=by
    refine Classical.byContradiction fun k=>hkk (.inr ?_)
    rwa [e,e2]
   rw[hq];exact List.mem_iff_getElem.2 ⟨m-1,by simp; omega,by rw[List.getElem_take]⟩
theorem Qabh(l:List Nm):Lib.compact (l.mergeSort fun x y=>decide (x≤y))=upL l:=by
 obtain⟨h1,h2⟩:=Qy6 _ (Qagf (l:=l)) _ (Nat.le_refl _);exact Qy5 h1 (Qmb l) fun x=>by
  show x ∈ Lib.compactUpTo _ _↔_;rw[h2,List.take_length,List.mem_mergeSort,Qlp]
mutual
def usN:Qaa→List Nm
 | ⟨k,nm,_,_,_,t,e⟩=>(if k==13 then [nm] else [])++(usL t++usL e)
def usL:List Qaa→List Nm
 | []=>[]
 | x::r=>usN x++usL r
end
theorem Qry(x:Qaa):usN x=(if x.Kind==13 then [x.Name] else [])++(usL x.Then++usL x.Else):=by cases x; rw[usN]
theorem Q3l:∀ n (l:List Qaa),nns l≤n→(usL l).length≤nns l:=by
 intro n
 induction n with
 | zero=>intro l h; cases l with
  | nil=>simp[usL,nns]
  | cons x r=>rw[nns] at h; have:=Qqi x; omega
 | succ n ih =>
  intro l
  induction l with
  | nil=>intro _; simp[usL,nns]
  | cons x r ihr =>
   intro h;rw[nns] at h;have h1:=Qt1 x;have h2:=ih x.Then (by omega);have h3:=ih x.Else (by omega);have h4:=ihr (by omega);rw[usL,Qry,nns,List.length_append,List.length_append,List.length_append];split<;>simp<;>omega
def Q3m(l:List Qaa):List Nm:=upL (usL l)
theorem Qady{n:Nat}{l:List Qaa}(h:nns l≤n):(Q3m l).length≤n:=Nat.le_trans (Qahp _) (Nat.le_trans (Q3l n l h) h)
def fndT(l:List Qac)(s:Nm):Option Qac:=l.find? (·.Name==s)
abbrev nms(l:List Qac):List Nm:=l.map (·.Name)
def suc(l:List Qac)(s:Nm):List Nm:=match fndT l s with | none=>[] | some x=>Q3m x.L
theorem Qt5(l:List Qac)(s:Nm):up (suc l s):=by
 unfold suc;split
 ·exact List.Pairwise.nil
 ·exact Qmb _
theorem Qsm{l:List Qac}{s:Nm}:(fndT l s).isSome=true↔s ∈ nms l:=by
 unfold fndT;rw[List.find?_isSome];simp only[beq_iff_eq,List.mem_map]
def closed(l:List Qac):Prop:=∀ s,∀ u ∈ suc l s,u ∈ nms l
def rnd(l:List Qac)(o:List Nm):List Nm:=upL (o++o.flatMap (suc l))
def clo(l:List Qac):Nat→List Nm→List Nm
 | 0,o=>o
 | n+1,o=>clo l n (rnd l o)
theorem Qok{l:List Qac}{o:List Nm}{x:Nm}:x ∈ rnd l o↔x ∈ o∨∃ s ∈ o,x ∈ suc l s:=by
 unfold rnd;rw[Qlp,List.mem_append,List.mem_flatMap]
theorem Qagg(l:List Qac):∀ n {o:List Nm},up o→up (clo l n o)
 | 0,_,h=>h
 | n+1,_,_=>Qagg l n (Qmb _)
theorem Qadz(l:List Qac):∀ n {o:List Nm} {x:Nm},x ∈ o→x ∈ clo l n o
 | 0,_,_,h=>h
 | n+1,_,_,h=>Qadz l n (Qok.2 (.inl h))
theorem Q6t(l:List Qac){C:Nm→Prop}(hC:∀ s,C s→∀ u ∈ suc l s,C u):∀ n {o:List Nm},(∀ x ∈ o,C x)→∀ x ∈ clo l n o,C x
 | 0,_,h=>h
 | n+1,o,h=>Q6t l hC n fun x hx=>by
  rcases Qok.1 hx with hx | ⟨s,hs,hx⟩
  ·exact h x hx
  ·exact hC s (h s hs) x hx
theorem Qad0{l:List Qac}:∀ n {o:List Nm},rnd l o=o→clo l n o=o
 | 0,_,_=>rfl
 | n+1,o,h=>by rw[clo,h,Qad0 n h]
theorem Qagh{a b:List Nm}(ha:a.Nodup)(h:∀ x ∈ a,x ∈ b)(hl:b.length≤a.length):∀ x ∈ b,x ∈ a:=fun x hx=>Classical.byContradiction fun k=>by
 have:=List.Nodup.length_le_of_subset (List.nodup_cons.2 ⟨k,ha⟩) (l₂ := b) fun y hy=>by
  rcases List.mem_cons.1 hy with rfl | hy
  ·exact hx
  ·exact h y hy
 simp at this; omega
theorem Q1e{l:List Qac}(hc:closed l):∀ n {o:List Nm},up o→(∀ x ∈ o,x ∈ nms l)→(nms l).length≤n+o.length→rnd l (clo l n o)=clo l n o
 | 0,o,hu,hN,hn=>by
  have hr:∀ x ∈ rnd l o,x ∈ nms l:=fun x hx=>by
   rcases Qok.1 hx with hx | ⟨s,_,hx⟩
   ·exact hN x hx
   ·exact hc s x hx
  have hlen:=List.Nodup.length_le_of_subset (Qko (Qmb (o++o.flatMap (suc l)))) (l₂ := nms l) fun x hx=>hr x hx
  exact Qy5 (Qmb _) hu fun x=>⟨Qagh (Qko hu) (fun x hx=>Qok.2 (.inl hx)) (Nat.le_trans hlen (by omega)) x,fun hx=>Qok.2 (.inl hx)⟩
 | n+1,o,hu,hN,hn=>by
  by_cases he:rnd l o=o
  ·rw[Qad0 (n+1) he,he]
  ·rw[clo];have hr:∀ x ∈ rnd l o,x ∈ nms l:=fun x hx=>by
    rcases Qok.1 hx with hx | ⟨s,_,hx⟩
    ·exact hN x hx
    ·exact hc s x hx
   refine Q1e hc n (Qmb _) hr ?_;have:o.length<(rnd l o).length:=Nat.lt_of_not_le fun hle=>he (Qy5 (Qmb _) hu fun x=>⟨Qagh (Qko hu) (fun x hx=>Qok.2 (.inl hx)) hle x,fun hx=>Qok.2 (.inl hx)⟩)
   omega
def froP(l:List Qac)(o:List Nm):List Nm:=clo l l.length o
theorem Qg6{l:List Qac}(hc:closed l){o:List Nm}(hu:up o)(hN:∀ x ∈ o,x ∈ nms l):∀ s ∈ froP l o,∀ u ∈ suc l s,u ∈ froP l o:=fun s hs u hu' => by
 have:=Q1e hc l.length hu hN (by simp);rw[froP,← this];exact Qok.2 (.inr ⟨s,hs,hu'⟩)
theorem Qol{l:List Qac}{o:List Nm}{x:Nm}(h:x ∈ o):x ∈ froP l o:=Qadz l _ h
theorem Qkw{l:List Qac}{C:Nm→Prop}(hC:∀ s,C s→∀ u ∈ suc l s,C u){o:List Nm}(h:∀ x ∈ o,C x):∀ x ∈ froP l o,C x:=Q6t l hC _ h
theorem Qy7{l:List Qac}{o:List Nm}(h:up o):up (froP l o):=Qagg l _ h
theorem Qabi{l:List Qac}(hc:closed l){o:List Nm}(h:∀ x ∈ o,x ∈ nms l):∀ x ∈ froP l o,x ∈ nms l:=Qkw (fun s _ u hu=>hc s u hu) h
theorem Qafs{l:List Qac}(hc:closed l){o:List Nm}(hu:up o)(h:∀ x ∈ o,x ∈ nms l):(froP l o).length≤l.length:=by
 have:=List.Nodup.length_le_of_subset (Qko (Qy7 (l:=l) hu)) (l₂ := nms l) fun x hx=>Qabi hc h x hx
 simpa using this
def reaP(l:List Qac)(s:Nm):List Nm:=froP l (suc l s)
theorem Qaft{l:List Qac}(hc:closed l){s:Nm}(hs:s ∈ nms l):froP l [s]=insS s (reaP l s):=by
 have u1:up [s]:=List.pairwise_singleton _ _;refine Qy5 (Qy7 u1) (Q8g s (Qy7 (Qt5 l s))) fun x=>?_
 rw[Qt4];constructor
 ·refine Qkw (C:=fun x=>x=s∨x ∈ reaP l s) (fun t ht u hu=>?_) (fun x hx =>.inl (List.mem_singleton.1 hx)) x;rcases ht with rfl | ht
  ·exact .inr (Qol hu)
  ·exact .inr (Qg6 hc (Qt5 l s) (hc s) t ht u hu)
 ·rintro (rfl | hx)
  ·exact Qol (List.mem_singleton.2 rfl)
  ·refine Qkw (C:=fun x=>x ∈ froP l [s]) (fun t ht u hu=>Qg6 hc u1 (fun x hx=>by rw[List.mem_singleton.1 hx]; exact hs) t ht u hu) (fun x hx=>?_) x hx;exact Qg6 hc u1 (fun x hx=>by rw[List.mem_singleton.1 hx]; exact hs) s (Qol (List.mem_singleton.2 rfl)) x hx
theorem Qwy{l:List Qac}(hc:closed l)(hr:∀ s ∈ nms l,s ∉ reaP l s){s u:Nm}(hu:u ∈ suc l s):(reaP l u).length<(reaP l s).length:=by
 have hu1:u ∈ reaP l s:=Qol hu;have hsub:∀ x ∈ u::reaP l u,x ∈ reaP l s:=fun x hx=>by
  rcases List.mem_cons.1 hx with rfl | hx
  ·exact hu1
  ·refine Qkw (C:=fun x=>x ∈ reaP l s) (fun t ht v hv=>Qg6 hc (Qt5 l s) (hc s) t ht v hv) (fun x hx=>?_) x hx;exact Qg6 hc (Qt5 l s) (hc s) u hu1 x hx
 have:=List.Nodup.length_le_of_subset (List.nodup_cons.2 ⟨hr u (hc s u hu),Qko (Qy7 (Qt5 l u))⟩) hsub;exact this
theorem Qaiw:∀ n (l:List Qaa) (h:List Nm),n≤1000→nns l≤n→h.length≤9000→Qdk l h=some (h++usL l):=by
 have key:∀ n (l:List Qaa) (h:List Nm),n≤1000→nns l≤n→h.length+nns l≤10000→Qdk l h=some (h++usL l):=by
  intro n
  induction n with
  | zero =>
   intro l h _ hl _;cases l with
   | nil=>rw[Qdk,Qdt]; simp[usL]
   | cons x r=>rw[nns] at hl; have:=Qqi x; omega
  | succ n ih =>
   intro l h hn hl hb;have hlen:l.length≤1001:=Nat.le_trans (Qln l) (by omega);have main:∀ k,k≤l.length→∀ v:List Nm,v.length+nns (l.drop k)≤10000→Qdt l k v=some (v++usL (l.drop k)):=by
    refine upto ?_ fun k hk ih2=>?_
    ·intro v _;rw[Qdt];simp[usL]
    ·intro v hb;rw[Qgf hk,nns,Qt1] at hb;rw[Qdt,Qgf hk];have hm:=Qlo (List.getElem_mem hk);have e1:=Qt1 l[k];simp only[ltI,hk,decide_true,if_true,Qcf,getE hk,Qad];have lT:=Q3l _ _ (Nat.le_refl (nns l[k].Then));have lE:=Q3l _ _ (Nat.le_refl (nns l[k].Else));by_cases hk13:(l[k].Kind==13)=true
     ·rw[if_pos hk13,Qn3 (by simp; omega) (by simp; omega),Qad,Qad,ih _ _ (by omega) (by omega) (by simp; omega),Qad,ih _ _ (by omega) (by omega) (by simp; omega),Qad,Qcb (by omega),ih2 _ (by simp; omega),usL,Qry,if_pos hk13];simp
     ·rw[if_neg hk13,Qad,ih _ _ (by omega) (by omega) (by omega),Qad,ih _ _ (by omega) (by omega) (by simp; omega),Qad,Qcb (by omega),ih2 _ (by simp; omega),usL,Qry,if_neg hk13];simp
   have:=main 0 (by omega) h (by simpa using hb);rw[show((0:Nat):Int)=0 from rfl] at this;rw[Qdk,this];simp
 exact fun n l h hn hl hb=>key n l h hn hl (by omega)
theorem Qajz(l:List Qaa)(h:nns l≤1000):Qni l=some (Q3m l):=by
 have hl:=Q3l _ l (Nat.le_refl _);rw[Qni,Qaiw 1000 l [] (by omega) h (by simp),Qad,List.nil_append,Qr5 (by omega),Qad,Qr5 (by simp only[srtL,List.length_mergeSort]; omega),Qad];exact congrArg some (Qabh _)
theorem Qaix(l:List Qac)(s:Nm)(hl:l.length<9223372036854775807):∀ k,k≤l.length→Qe0 l s k=some (match (l.drop k).find? (·.Name==s) with | none =>.inl () | some x =>.inr x.L):=by
 refine upto ?_ fun k hk ih=>?_
 ·rw[Qe0]; simp
 ·rw[Qe0,Qgf hk];simp only[ltI,hk,decide_true,if_true,Qcf,getE hk,Qad,List.find?_cons];cases hb:(l[k].Name==s) with
  | true=>simp
  | false =>
   simp only[Bool.false_eq_true,if_false,Qcb (show k<9223372036854775807 by omega),ih]
def Qqj(l:List Qac)(s:Nm):List Qaa×Bool:=match fndT l s with | none=>([],false) | some x=>(x.L,true)
theorem Qafu(l:List Qac)(s:Nm)(hl:l.length<9223372036854775807):Qf7 l s=some (Qqj l s):=by
 have:=Qaix l s hl 0 (by omega);rw[show((0:Nat):Int)=0 from rfl,List.drop_zero] at this;rw[Qf7,this,Qad,Qqj,fndT];cases l.find? (·.Name==s)<;>rfl
theorem Qad1(l:List Qac)(s:Nm):(Qqj l s).2=(fndT l s).isSome:=by
 unfold Qqj; cases fndT l s<;>rfl
theorem Qafv(l:List Qac)(s:Nm):Q3m (Qqj l s).1=suc l s:=by
 unfold Qqj suc;cases fndT l s with
 | none=>rfl
 | some x=>rfl
theorem Qt6{α : Type}(k x:Nm)(v : α):∀ m:List (Nm × α),mget (fun a b=>a==b) k (mset (fun a b=>a==b) x v m)=if k=x then some v else mget (fun a b=>a==b) k m
 | []=>by
  unfold mset;rw[mget];by_cases h:k=x
  ·simp[h,mget]
  ·simp[h,mget]
 | p::r=>by
  have ih:=Qt6 k x v r;rw[mset];by_cases hx:x=p.1
  ·rw[if_pos (by simpa using hx),mget,mget];by_cases h:k=x
   ·simp[h]
   ·rw[if_neg h];have h2:¬ k=p.1:=fun e=>h (e.trans hx.symm)
    simp[h,h2]
  ·rw[if_neg (by simpa using hx),mget,ih,mget];by_cases h:k=p.1
   ·have h2:¬ k=x:=fun e=>hx (e.symm.trans h)
    rw[if_pos (by simpa using h),if_neg h2,if_pos (by simpa using h)]
   ·simp[h]
def drwP:List Qac→List (Nm×List Nm)→List (Nm×List Nm)
 | [],m=>m
 | x::r,m=>drwP r (if(mget (fun a b=>a==b) x.Name m).isSome then m else mset (fun a b=>a==b) x.Name (Q3m x.L) m)
theorem Qad2(s:Nm):∀ (l:List Qac) (m:List (Nm×List Nm)),mget (fun a b=>a==b) s (drwP l m)=(mget (fun a b=>a==b) s m).or ((fndT l s).map fun x=>Q3m x.L)
 | [],m=>by
  show mget _ s m=_;cases mget (fun a b=>a==b) s m<;>rfl
 | x::r,m=>by
  rw[drwP,Qad2 s r];unfold fndT;rw[List.find?_cons];by_cases hx:x.Name=s
  ·have hb:(x.Name==s)=true:=by simpa using hx
   rw[hb];subst hx;cases hm:mget (fun a b=>a==b) x.Name m with
   | some y=>simp[hm]
   | none=>simp[Qt6]
  ·have hb:(x.Name==s)=false:=by simpa using hx
   rw[hb];split
   ·rfl
   ·rw[Qt6,if_neg (fun e=>hx e.symm)]
def grP(l:List Qac):List (Nm×List Nm):=drwP l []
theorem Qagi(l:List Qac)(s:Nm):mget (fun a b=>a==b) s (grP l)=(fndT l s).map fun x=>Q3m x.L:=by
 rw[grP,Qad2]; rfl
theorem Q91(l:List Qac)(s:Nm):(mget (fun a b=>a==b) s (grP l)).getD []=suc l s:=by
 rw[Qagi,suc]; cases fndT l s<;>rfl
theorem Qahr(l:List Qac)(s:Nm):(mget (fun a b=>a==b) s (grP l)).isSome=(fndT l s).isSome:=by
 rw[Qagi]; cases fndT l s<;>rfl
structure okTs (l:List Qac):Prop where
 len:l.length≤100
 nn:∀ x ∈ l,nns x.L≤100
 ok:∀ x ∈ l,allL okNd x.L
 nm:∀ x ∈ l,x.Name.length≤100
theorem Qaiy(l:List Qac)(ho:okTs l):∀ k,k≤l.length→∀ m,Qdl l k m=some (drwP (l.drop k) m):=by
 have:=ho.len;refine upto ?_ fun k hk ih=>?_
 ·intro m; rw[Qdl]; simp[drwP]
 ·intro m;rw[Qdl,Qgf hk,drwP];simp only[ltI,hk,decide_true,if_true,Qcf,getE hk,Qad];have hu:=Qajz l[k].L (Nat.le_trans (ho.nn _ (List.getElem_mem hk)) (by omega));cases hb:(mget (fun a b=>a==b) l[k].Name m).isSome with
  | true=>simp only[Bool.not_true,Bool.false_eq_true,if_false,if_true,Qcb (show k<9223372036854775807 by omega),ih]
  | false=>simp only[Bool.not_false,if_true,Bool.false_eq_true,if_false,hu,Qad,Qcb (show k<9223372036854775807 by omega),ih]
theorem Qaiz(l:List Qac)(ho:okTs l):Qld l=some (grP l):=by
 have:=Qaiy l ho 0 (by omega) [];rw[show((0:Nat):Int)=0 from rfl,List.drop_zero] at this;rw[Qld,this]; rfl
end Go.Proofs.YtfgegilhjlnohaaGreat
end
