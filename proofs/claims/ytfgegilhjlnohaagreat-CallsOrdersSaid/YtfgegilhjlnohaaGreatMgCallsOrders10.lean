/- The proof's texts, part 10 of 11: the walks by a logic in which data are by value, the plain laws, and at the end the law, for every input. -/
import Derived.Test.YtfgegilhjlnohaaGreatMgCallsOrders9

section
set_option linter.unusedVariables false
set_option linter.unusedSimpArgs false
set_option maxRecDepth 100000
set_option maxHeartbeats 4000000
namespace Go.Proofs.YtfgegilhjlnohaaGreat
open Go.RowKit
theorem Qrj:∀ (p0:(List Qac)) (x10:(List ((List UInt8)×(List (List UInt8))))),(∀ (v85:Int) (o19:Unit⊕(List UInt8)),Qcy p0 x10 v85=some o19→TL (0,0) Tryz.prog 102 Qne (JP2 (0,0) 102 o19 (.exit 6) (Qh1 p0 x10) .ret (Qh2 p0 x10)) (Qfr p0 x10 v85)):=by
 intro p0 x10
 refine Qcy.partial_correctness p0 x10 _ ?_
 intro Qcy' iQcy v85 o19 h
 refine TL.round (Qai mixed tbOk (lv:=Qfz) _ _ _ ?_)
 refine Qae h (fun hb h=>?_) (fun hb h=>?_)
 ·refine Qa5 (l:=p0) (c:=Qaf) (c' := Qaf) h (fun _=>rfl) (fun _=>rfl) (by decide) (fun x22 hi h=>?_)
  refine And.intro (by decide +kernel) (And.intro rfl ?_)
  refine And.intro rfl ?_
  refine Qp4 (l:=x10) (k:=x22.Name) (fun a b=>a==b) (ck:=sV) (ca:=(fun x =>.sl false (x.map cStr))) (z0:=[]) (by exact rfl) (by exact rfl) (by exact rfl) (by exact fun _ _=>rfl) (by exact rfl) (by exact .not) ?_
  refine Q49 (fun x23=>(Qg6 x23).ren [0] []) h (fun x23 hy=>(Qky ((mget (fun a b=>a==b) x22.Name x10).getD []) x10 x23 hy).fd rfl rfl [0] rfl rfl) (fun x23 hy h=>?_)
  refine Qfn [.sl false (x23.map cStr),sV x22.Name] Qbo h (fun x24 hy=>(Qdy x23 x22.Name x24 hy)) (fun x24 hy h=>?_)
  refine Qae h (fun hb h=>?_) (fun hb h=>?_)
  ·exact JP2.b h (Le.tz 2 0 rfl rfl rfl)
  ·refine TL.le (τ := Qfr p0 x10 (wr (v85+1))) ?_ ((iQcy (wr (v85+1)) _ h))
   exact Le.tz 2 0 rfl rfl rfl
 ·exact JP2.a h (Le.tz 2 0 rfl rfl rfl)
theorem Qsf:∀ (p0:(List Qac)) (x10:(List ((List UInt8)×(List (List UInt8))))) (v85:Int) (o19:Unit⊕(List UInt8)),Qcy p0 x10 v85=some o19→TL (0,0) Tryz.prog 102 Qne (JP2 (0,0) 102 o19 (.exit 6) (Qh1 p0 x10) .ret (Qh2 p0 x10)) (Qfr p0 x10 v85):=fun p0 x10 v85=>(Qrj p0 x10) v85
mutual
noncomputable def Qcz (p0:(List Qab)) (h0_0:(List (List UInt8))):Option ((List (List UInt8))) :=
 (Qc8 p0 0 h0_0)>>=fun o1 =>
 some o1
 partial_fixpoint
noncomputable def Qc8 (p0:(List Qab)) (v8:Int) (h0_0_:(List (List UInt8))):Option ((List (List UInt8))) :=
 if(decide (v8<(p0.length:Int))) then
  idx p0 v8>>=fun x2 =>
  ( if(x2.Kind==13) then
    appL 16 h0_0_ [x2.Name]>>=fun x4 =>
    some x4
   else
    some h0_0_:Option ((List (List UInt8))))>>=fun o3 =>
  Qcz x2.Then o3>>=fun x5 =>
  Qcz x2.Else x5>>=fun x6 =>
  Qc8 p0 (wr (v8+1)) x6
 else
  some h0_0_
 partial_fixpoint
end
theorem Qto:(∀ (p0:(List Qab)) (h0_0:(List (List UInt8))) (o:(List (List UInt8))),Qcz p0 h0_0=some o→CallOK Tryz.prog 99 [.p (.sl false (p0.map Qaa)),.ptr 0 0,.ptr 1 0] ⟨[[.x 0 (h0_0.length+1) (.sl 9 1 (h0_0.map cStr))],[.fn (.func 99) [] [.ptr 0 0,.ptr 1 0]]],[(h0_0.length+1)]⟩ (Qlu o) ⟨[[.x 0 (o.length+1) (.sl 9 1 (o.map cStr))],[.fn (.func 99) [] [.ptr 0 0,.ptr 1 0]]],[(o.length+1)]⟩)∧(∀ (p0:(List Qab)) (v8:Int) (h0_0_:(List (List UInt8))) (o1:(List (List UInt8))),Qc8 p0 v8 h0_0_=some o1→TL (2,1) Tryz.prog 29 Qr6 (JP1 (2,1) 29 o1 (.exit 0) (Qk7 p0)) (Qg5 p0 v8 h0_0_)):=by
 refine Qcz.mutual_partial_correctness _ _ ?_ ?_
 ·intro Qc8' iQc8 p0 h0_0 o h
  refine CallOK.ofB mixed tbOk Qoh Tryz.func99 rfl (by kernel_rfl) (Nat.le_of_ble_eq_true rfl) rfl rfl rfl ?_
  refine view (lenMap _ _) rfl ?_
  refine Qag h (fun o1 ho hk=>?_)
  refine Exists.intro (JP1 _ _ o1 (.exit 0) (Qk7 p0)) (And.intro (T_le (τ := Qg5 p0 0 h0_0) ?_ (TL.loop (iQc8 p0 0 h0_0 o1 ho))) (join1 ?_))
  ·exact Le.tz 2 1 rfl rfl rfl
  have h:=hk
  refine Exists.intro _ (And.intro (Le.refl _ _ _) ?_)
  exact Qf6 (t:=Qlu) (ss:=fun o=>⟨[[.x 0 (o.length+1) (.sl 9 1 (o.map cStr))],[.fn (.func 99) [] [.ptr 0 0,.ptr 1 0]]],[(o.length+1)]⟩) h ⟨[0],rfl,.refl _,.refl _,rfl⟩
 ·intro Qcz' Qc8' iQcz iQc8 p0 v8 h0_0_ o1 h
  refine TL.round (Qai mixed tbOk (lv:=Qoh) _ _ _ ?_)
  refine Qae h (fun hb h=>?_) (fun hb h=>?_)
  ·refine Qa5 (l:=p0) (c:=Qaa) (c' := Qa7) h Qam (fun _=>rfl) (by decide) (fun x2 hi h=>?_)
   refine Qag h (fun o3 ho hk=>?_)
   refine Exists.intro (JP1 _ _ o3 .normal (Qr5 p0 v8 x2)) (And.intro ?_ (join1 ?_))
   ·have h:=ho
    refine Qae h (fun hb h=>?_) (fun hb h=>?_)
    ·refine Q8t (a:=h0_0_) (b:=[x2.Name]) (c:=cStr) h (.refl _) (fun _=>rfl) rfl rfl (Nat.zero_lt_succ _) (fun x4 hi h=>?_)
     refine JP1.a h ?_
     exact Le.tz 3 1 rfl rfl rfl
    ·refine JP1.a h ?_
     exact Le.tz 3 1 rfl rfl rfl
   ·have h:=hk
    refine Qch _ _ h (fun x5 hy=>((iQcz x2.Then o3 x5 hy).fr [0,1] [0] rfl rfl rfl)) (fun x5 hy h=>?_)
    refine Qch _ _ h (fun x6 hy=>((iQcz x2.Else x5 x6 hy).fr [0,1] [0] rfl rfl rfl)) (fun x6 hy h=>?_)
    refine TL.le (τ := Qg5 p0 (wr (v8+1)) x6) ?_ ((iQc8 p0 (wr (v8+1)) x6 _ h))
    exact Le.tz 2 1 rfl rfl rfl
  ·exact JP1.a h (Le.tz 2 1 rfl rfl rfl)
theorem Qv1:∀ (p0:(List Qab)) (h0_0:(List (List UInt8))) (o:(List (List UInt8))),Qcz p0 h0_0=some o→CallOK Tryz.prog 99 [.p (.sl false (p0.map Qaa)),.ptr 0 0,.ptr 1 0] ⟨[[.x 0 (h0_0.length+1) (.sl 9 1 (h0_0.map cStr))],[.fn (.func 99) [] [.ptr 0 0,.ptr 1 0]]],[(h0_0.length+1)]⟩ (Qlu o) ⟨[[.x 0 (o.length+1) (.sl 9 1 (o.map cStr))],[.fn (.func 99) [] [.ptr 0 0,.ptr 1 0]]],[(o.length+1)]⟩:=fun p0 h0_0=>Qto.1 p0 h0_0
noncomputable def Qmg (p0:(List Qab)):Option ((List (List UInt8))) :=
 Qcz p0 []>>=fun x1 =>
 need (x1.length<4611686018427387904)>>=fun _ =>
 need ((srtL x1).length<4611686018427387904)>>=fun _ =>
 some (Lib.compact (srtL x1))
theorem Q0l:∀ (p0:(List Qab)) (o:(List (List UInt8))),Qmg p0=some o→CallOK Tryz.prog 73 [.p (.sl false (p0.map Qaa))] ⟨[],[]⟩ (Qog o) ⟨[],[]⟩:=by
 intro p0 o h
 unfold Qmg at h
 refine CallOK.ofB mixed tbOk Qzy Tryz.func73 rfl (by kernel_rfl) (Nat.le_of_ble_eq_true rfl) rfl rfl rfl ?_
 refine Exists.intro _ (And.intro (Le.xnil (.h 0 0) 9 1 rfl) ?_)
 refine Qch _ _ h (fun x1 hy=>((Qv1 p0 [] x1 hy).fr [0,1] [0] rfl rfl rfl)) (fun x1 hy h=>?_)
 refine Qjn h (fun hn0 h=>?_)
 refine Or.inl ?_
 refine⟨rfl,rfl,_,false,x1,(srtL x1),_,rfl,rfl,sortFn  hn0 ,rfl,rfl,?_⟩
 refine Qjn h (fun hn0 h=>?_)
 refine Or.inl ?_
 refine⟨rfl,rfl,_,true,(srtL x1),(Lib.compact (srtL x1)),_,rfl,rfl,compactFn  hn0 ,rfl,?_⟩
 refine Exists.intro _ (And.intro (Le.trans (τ := ⟨[(2,.x 0 (((x1.length+1)+1)+1) (.sl 9 1 ((Lib.compact (srtL x1)).map cStr)))],⟨[],[(((x1.length+1)+1)+1)]⟩⟩) (Le.tz 0 1 rfl rfl rfl) (Le.trans (τ := ⟨[(2,.x 0 (((x1.length+1)+1)+1) (.sl 9 1 ((Lib.compact (srtL x1)).map cStr)))],⟨[],[(((x1.length+1)+1)+1)]⟩⟩) (Le.tz 0 1 rfl rfl rfl) ((Le.verh 2 0 (((x1.length+1)+1)+1) 1 rfl rfl rfl rfl).trans ((Le.frzv (.s 2) 0 1 rfl rfl rfl rfl).trans (Le.refl _ _ _))))) ?_)
 exact Qf6 (t:=Qog) (ss:=fun o=>⟨[],[]⟩) h ⟨[],rfl,.refl _,.refl _,rfl⟩
noncomputable def Qce (p0:(List Qac)) (v12:Int) (h1_0:(List ((List UInt8)×(List (List UInt8))))):Option (((List ((List UInt8)×(List (List UInt8)))))) :=
 if(decide (v12<(p0.length:Int))) then
  idx p0 v12>>=fun x2 =>
  if(!((mget (fun a b=>a==b) x2.Name h1_0).isSome)) then
   Qmg x2.L>>=fun x3 =>
   Qce p0 (wr (v12+1)) (mset (fun a b=>a==b) x2.Name x3 h1_0)
  else
   Qce p0 (wr (v12+1)) h1_0
 else
  some h1_0
 partial_fixpoint
theorem Qrk:∀ (p0:(List Qac)),(∀ (v12:Int) (h1_0:(List ((List UInt8)×(List (List UInt8))))) (o1:((List ((List UInt8)×(List (List UInt8)))))),Qce p0 v12 h1_0=some o1→TL (0,0) Tryz.prog 35 Qnh (JP1 (0,0) 35 o1 (.exit 0) (Qh5 p0)) (Qd1 p0 v12 h1_0)):=by
 intro p0
 refine Qce.partial_correctness p0 _ ?_
 intro Qce' iQce v12 h1_0 o1 h
 refine TL.round (Qai mixed tbOk (lv:=Qpw) _ _ _ ?_)
 refine Qae h (fun hb h=>?_) (fun hb h=>?_)
 ·refine Qa5 (l:=p0) (c:=Qaf) (c' := Qaf) h (fun _=>rfl) (fun _=>rfl) (by decide) (fun x2 hi h=>?_)
  refine Qp4 (l:=h1_0) (k:=x2.Name) (fun a b=>a==b) (ck:=sV) (ca:=(fun x =>.sl false (x.map cStr))) (z0:=[]) (by exact rfl) (by exact rfl) (by exact rfl) (by exact fun _ _=>rfl) (by exact rfl) (by exact .not) ?_
  refine Qae h (fun hb h=>?_) (fun hb h=>?_)
  ·refine And.intro (by decide +kernel) (And.intro (by decide +kernel) (And.intro rfl ?_))
   refine Q49 (fun x3=>(Qog x3).ren [] []) h (fun x3 hy=>(Q0l x2.L x3 hy).fd rfl rfl [] rfl rfl) (fun x3 hy h=>?_)
   refine Q7m (l:=h1_0) (k:=x2.Name) (x:=x3) (fun a b=>a==b) (ck:=sV) (ca:=(fun x =>.sl false (x.map cStr))) (by exact rfl) (by exact rfl) (by exact rfl) (by exact .refl _) (by exact fun _ _=>rfl) ?_
   refine TL.le (τ := Qd1 p0 (wr (v12+1)) (mset (fun a b=>a==b) x2.Name x3 h1_0)) ?_ ((iQce (wr (v12+1)) (mset (fun a b=>a==b) x2.Name x3 h1_0) _ h))
   exact Le.tz 3 0 rfl rfl rfl
  ·refine TL.le (τ := Qd1 p0 (wr (v12+1)) h1_0) ?_ ((iQce (wr (v12+1)) h1_0 _ h))
   exact Le.tz 3 0 rfl rfl rfl
 ·exact JP1.a h (Le.tz 3 0 rfl rfl rfl)
theorem Qsg:∀ (p0:(List Qac)) (v12:Int) (h1_0:(List ((List UInt8)×(List (List UInt8))))) (o1:((List ((List UInt8)×(List (List UInt8)))))),Qce p0 v12 h1_0=some o1→TL (0,0) Tryz.prog 35 Qnh (JP1 (0,0) 35 o1 (.exit 0) (Qh5 p0)) (Qd1 p0 v12 h1_0):=fun p0 v12 h1_0=>(Qrk p0) v12 h1_0
noncomputable def Qgc (p0:(List Qac)):Option ((List ((List UInt8)×(List (List UInt8))))) :=
 (Qce p0 0 [])>>=fun o1 =>
 some o1
theorem Qlz:∀ (p0:(List Qac)) (o:(List ((List UInt8)×(List (List UInt8))))),Qgc p0=some o→CallOK Tryz.prog 40 [.p (.sl false (p0.map Qaf))] ⟨[],[]⟩ (Qq4 o) ⟨[[mpD sV (fun x =>.sl false (x.map cStr)) o]],[]⟩:=by
 intro p0 o h
 unfold Qgc at h
 refine CallOK.ofBN mixed tbOk Qpw Tryz.func40 rfl (by kernel_rfl) (Nat.le_of_ble_eq_true rfl) rfl rfl (Nat.le_of_ble_eq_true rfl) ?_
 refine And.intro rfl (Exists.intro false ?_)
 refine view (lenMap _ _) rfl ?_
 refine Qag h (fun o1 ho hk=>?_)
 refine Exists.intro (JP1 _ _ o1 (.exit 0) (Qh5 p0)) (And.intro (T_le (τ := Qd1 p0 0 []) ?_ (TL.loop (Qsg p0 0 [] o1 ho))) (join1 ?_))
 ·exact Le.tz 3 0 rfl rfl rfl
 have h:=hk
 refine Exists.intro _ (And.intro (Le.refl _ _ _) ?_)
 refine Quq (t:=Qq4) (ss:=fun o=>⟨[[mpD sV (fun x =>.sl false (x.map cStr)) o]],[]⟩) h ?_
 exact⟨[1],[],rfl,rfl,.refl _,.refl _,rfl,rfl⟩
noncomputable def Qgd (p0:(List Qac)):Option ((List UInt8)×Int) :=
 if(decide ((p0.length:Int)>16)) then
  some ([],5)
 else
  (Qcv p0 0)>>=fun o1 =>
  match o1 with
  | .inl y2 =>
   Qgc p0>>=fun x10 =>
   (Qcx p0 x10 0)>>=fun o11 =>
   match o11 with
   | .inl y12 =>
    (Qcy p0 x10 0)>>=fun o19 =>
    match o19 with
    | .inl y20 =>
     some ([],0)
    | .inr y21 =>
     some (y21,10)
   | .inr y13 =>
    some (y13,4)
  | .inr y3 =>
   some (y3.1,y3.2)
theorem Ql0:∀ (p0:(List Qac)) (o:(List UInt8)×Int),Qgd p0=some o→PCall Tryz.prog 13 [.sl false (p0.map Qaf)] (Qcr o):=by
 intro p0 o h
 unfold Qgd at h
 refine PCall.ofB mixed tbOk Qfz Tryz.func13 rfl (by kernel_rfl) (Nat.le_of_ble_eq_true rfl) ?_
 refine view (lenMap _ _) rfl ?_
 refine Qae h (fun hb h=>?_) (fun hb h=>?_)
 ·refine Qal (t:=Qcr) h ?_
  exact .refl _
 ·refine view (lenMap _ _) rfl ?_
  refine Qag h (fun o1 ho hk=>?_)
  refine Exists.intro (JP2 _ _ o1 (.exit 0) (Qhv p0) .ret (Qhw p0)) (And.intro (T_le (τ := Qfo p0 0) ?_ (TL.loop (Qsc p0 0 o1 ho))) (join2 (fun y2 hy=>?_) (fun y3 hy=>?_)))
  ·exact Le.tz 0 0 rfl rfl rfl
  ·have h:=(by rw[hy] at hk; exact hk)
   refine Qch _ _ h (fun x10 hy=>((Qlz p0 x10 hy).frN [] [] rfl rfl rfl)) (fun x10 hy h=>?_)
   refine view (lenMap _ _) rfl ?_
   refine Qag h (fun o11 ho hk=>?_)
   refine Exists.intro (JP2 _ _ o11 (.exit 2) (Qhz p0 x10) .ret (Qh0 p0 x10)) (And.intro (T_le (τ := Qfq p0 x10 0) ?_ (TL.loop (Qse p0 x10 0 o11 ho))) (join2 (fun y12 hy=>?_) (fun y13 hy=>?_)))
   ·exact Le.tz 2 0 rfl rfl rfl
   ·have h:=(by rw[hy] at hk; exact hk)
    refine view (lenMap _ _) rfl ?_
    refine Qag h (fun o19 ho hk=>?_)
    refine Exists.intro (JP2 _ _ o19 (.exit 6) (Qh1 p0 x10) .ret (Qh2 p0 x10)) (And.intro (T_le (τ := Qfr p0 x10 0) ?_ (TL.loop (Qsf p0 x10 0 o19 ho))) (join2 (fun y20 hy=>?_) (fun y21 hy=>?_)))
    ·exact Le.tz 2 0 rfl rfl rfl
    ·have h:=(by rw[hy] at hk; exact hk)
     refine Qal (t:=Qcr) h ?_
     exact .refl _
    ·have h:=(by rw[hy] at hk; exact hk)
     refine Qal (t:=Qcr) h ?_
     exact .refl _
   ·have h:=(by rw[hy] at hk; exact hk)
    refine Qal (t:=Qcr) h ?_
    exact .refl _
  ·have h:=(by rw[hy] at hk; exact hk)
   refine Qal (t:=Qcr) h ?_
   exact .refl _
noncomputable def Qc0 (p0:(List Qac)) (x2:(List ((List UInt8)×(List (List UInt8))))) (v6:(List (List UInt8))) (v22:Int):Option ((List (List UInt8))) :=
 if(decide (v22<(p0.length:Int))) then
  idx p0 v22>>=fun x4 =>
  appL 16 v6 [x4.Name]>>=fun x5 =>
  Qc0 p0 x2 x5 (wr (v22+1))
 else
  some v6
 partial_fixpoint
theorem Qrl:∀ (p0:(List Qac)) (x2:(List ((List UInt8)×(List (List UInt8))))),(∀ (v6:(List (List UInt8))) (v22:Int) (o3:(List (List UInt8))),Qc0 p0 x2 v6 v22=some o3→TL (0,0) Tryz.prog 53 Qnf (JP1 (0,0) 53 o3 (.exit 0) (Qh3 p0 x2)) (Qfs p0 x2 v6 v22)):=by
 intro p0 x2
 refine Qc0.partial_correctness p0 x2 _ ?_
 intro Qc0' iQc0 v6 v22 o3 h
 refine TL.round (Qai mixed tbOk (lv:=Qlt) _ _ _ ?_)
 refine Qae h (fun hb h=>?_) (fun hb h=>?_)
 ·refine Qa5 (l:=p0) (c:=Qaf) (c' := Qaf) h (fun _=>rfl) (fun _=>rfl) (by decide) (fun x4 hi h=>?_)
  refine Q7f (a:=v6) (b:=[x4.Name]) (c:=cStr) h (.refl _) (fun _=>rfl) rfl (fun x5 hi h=>?_)
  refine TL.le (τ := Qfs p0 x2 x5 (wr (v22+1))) ?_ ((iQc0 x5 (wr (v22+1)) _ h))
  exact Le.trans (τ := ⟨[(5,.ptr 1 0),(6,.x 0 2 (.sl 9 1 (x5.map cStr))),(7,.ptr 2 0),(20,.p (.sl false (p0.map Qaf))),(21,.p (iV (p0.length:Int))),(22,.p (iV (wr (v22+1))))],⟨[[mpD sV (fun x =>.sl false (x.map cStr)) x2],[.mh 0],[.p (.sl true [])],[.p (sV x4.Name),.p (.sl false (x4.L.map Qaa))]],[2]⟩⟩) (Le.tz 4 1 rfl rfl rfl) ((Le.ver (.s 6) 0 2 1 rfl rfl rfl rfl).trans (Le.tz 3 1 rfl rfl rfl))
 ·exact JP1.a h (Le.tz 3 1 rfl rfl rfl)
theorem Qsh:∀ (p0:(List Qac)) (x2:(List ((List UInt8)×(List (List UInt8))))) (v6:(List (List UInt8))) (v22:Int) (o3:(List (List UInt8))),Qc0 p0 x2 v6 v22=some o3→TL (0,0) Tryz.prog 53 Qnf (JP1 (0,0) 53 o3 (.exit 0) (Qh3 p0 x2)) (Qfs p0 x2 v6 v22):=fun p0 x2 v6 v22=>(Qrl p0 x2) v6 v22
noncomputable def Qfv (p0:(List UInt8)) (h0_0:(List (List UInt8))):Option (Bool) :=
 Qa8 h0_0 p0>>=fun x1 =>
 some (!x1)
theorem Qph:∀ (p0:(List UInt8)) (h0_0:(List (List UInt8))) (o:Bool),Qfv p0 h0_0=some o→CallOK Tryz.prog 52 [.p (sV p0),.ptr 0 0] ⟨[[.own 0 9 1 (h0_0.map cStr)]],[(h0_0.map cStr).length]⟩ (Qko o) ⟨[[.own 0 9 1 (h0_0.map cStr)]],[(h0_0.map cStr).length]⟩:=by
 intro p0 h0_0 o h
 unfold Qfv at h
 refine CallOK.ofB mixed tbOk Qpb Tryz.func52 rfl (by kernel_rfl) (Nat.le_of_ble_eq_true rfl) rfl rfl rfl ?_
 refine Qah [.sl false (h0_0.map cStr),sV p0] Qbo h (fun x1 hy=>(Qdy h0_0 p0 x1 hy)) (fun x1 hy h=>?_)
 refine Exists.intro _ (And.intro (Le.refl _ _ _) ?_)
 exact Qf6 (t:=Qko) (ss:=fun o=>⟨[[.own 0 9 1 (h0_0.map cStr)]],[(h0_0.map cStr).length]⟩) h ⟨[0],rfl,.refl _,.refl _,rfl⟩
noncomputable def Qaj (p0:(List (List UInt8))) (h0_0:(List (List UInt8))) (v8:Int):Option (Unit⊕Int) :=
 if(decide (v8<(p0.length:Int))) then
  idx p0 v8>>=fun x4 =>
  Qfv x4 h0_0>>=fun x5 =>
  if x5 then
   some (.inr v8)
  else
   Qaj p0 h0_0 (wr (v8+1))
 else
  some (.inl ())
 partial_fixpoint
theorem Qcm:∀ (p0:(List (List UInt8))) (h0_0:(List (List UInt8))),(∀ (v8:Int) (o1:Unit⊕Int),Qaj p0 h0_0 v8=some o1→TL (1,1) Tryz.prog 19 Qbg (JP2 (1,1) 19 o1 (.exit 0) (Qaz p0 h0_0) .ret (Qa0 p0 h0_0)) (Qao p0 h0_0 v8)):=by
 intro p0 h0_0
 refine Qaj.partial_correctness p0 h0_0 _ ?_
 intro Qaj' iQaj v8 o1 h
 refine TL.round (Qai mixed tbOk (lv:=Qbl) _ _ _ ?_)
 refine Qae h (fun hb h=>?_) (fun hb h=>?_)
 ·refine Qa5 (l:=p0) (c:=cStr) (c' := cStr) h (fun _=>rfl) (fun _=>rfl) (by decide) (fun x4 hi h=>?_)
  refine Qch _ _ h (fun x5 hy=>((Qph x4 h0_0 x5 hy).fr [0] [0] rfl rfl rfl)) (fun x5 hy h=>?_)
  refine Qae h (fun hb h=>?_) (fun hb h=>?_)
  ·exact JP2.b h (Le.tz 1 1 rfl rfl rfl)
  ·refine TL.le (τ := Qao p0 h0_0 (wr (v8+1))) ?_ ((iQaj (wr (v8+1)) _ h))
   exact Le.tz 1 1 rfl rfl rfl
 ·exact JP2.a h (Le.tz 1 1 rfl rfl rfl)
theorem Qcp:∀ (p0:(List (List UInt8))) (h0_0:(List (List UInt8))) (v8:Int) (o1:Unit⊕Int),Qaj p0 h0_0 v8=some o1→TL (1,1) Tryz.prog 19 Qbg (JP2 (1,1) 19 o1 (.exit 0) (Qaz p0 h0_0) .ret (Qa0 p0 h0_0)) (Qao p0 h0_0 v8):=fun p0 h0_0 v8=>(Qcm p0 h0_0) v8
noncomputable def Qau (p0:(List (List UInt8))) (h0_0:(List (List UInt8))):Option (Int) :=
 (Qaj p0 h0_0 0)>>=fun o1 =>
 match o1 with
 | .inl y2 =>
  some (-1)
 | .inr y3 =>
  some y3
theorem Qc9:∀ (p0:(List (List UInt8))) (h0_0:(List (List UInt8))) (o:Int),Qau p0 h0_0=some o→CallOK Tryz.prog 49 [.p (.sl false (p0.map cStr)),.fn (.func 52) [] [.ptr 0 0]] ⟨[[.own 0 9 1 (h0_0.map cStr)]],[(h0_0.map cStr).length]⟩ (Qa6 o) ⟨[[.own 0 9 1 (h0_0.map cStr)]],[(h0_0.map cStr).length]⟩:=by
 intro p0 h0_0 o h
 unfold Qau at h
 refine CallOK.ofB mixed tbOk Qbl Tryz.func49 rfl (by kernel_rfl) (Nat.le_of_ble_eq_true rfl) rfl rfl rfl ?_
 refine view (lenMap _ _) rfl ?_
 refine Qag h (fun o1 ho hk=>?_)
 refine Exists.intro (JP2 _ _ o1 (.exit 0) (Qaz p0 h0_0) .ret (Qa0 p0 h0_0)) (And.intro (T_le (τ := Qao p0 h0_0 0) ?_ (TL.loop (Qcp p0 h0_0 0 o1 ho))) (join2 (fun y2 hy=>?_) (fun y3 hy=>?_)))
 ·exact Le.tz 1 1 rfl rfl rfl
 ·have h:=(by rw[hy] at hk; exact hk)
  refine Exists.intro _ (And.intro (Le.refl _ _ _) ?_)
  exact Qf6 (t:=Qa6) (ss:=fun o=>⟨[[.own 0 9 1 (h0_0.map cStr)]],[(h0_0.map cStr).length]⟩) h ⟨[0],rfl,.refl _,.refl _,rfl⟩
 ·have h:=(by rw[hy] at hk; exact hk)
  refine Exists.intro _ (And.intro (Le.refl _ _ _) ?_)
  exact Qf6 (t:=Qa6) (ss:=fun o=>⟨[[.own 0 9 1 (h0_0.map cStr)]],[(h0_0.map cStr).length]⟩) h ⟨[0],rfl,.refl _,.refl _,rfl⟩
noncomputable def Qar (p0:(List (List UInt8))) (h0_0:(List (List UInt8))):Option (Bool) :=
 Qau p0 h0_0>>=fun x1 =>
 some (decide (x1 ≥ 0))
theorem Qcq:∀ (p0:(List (List UInt8))) (h0_0:(List (List UInt8))) (o:Bool),Qar p0 h0_0=some o→CallOK Tryz.prog 51 [.p (.sl false (p0.map cStr)),.fn (.func 52) [] [.ptr 0 0]] ⟨[[.own 0 9 1 (h0_0.map cStr)]],[(h0_0.map cStr).length]⟩ (Qbf o) ⟨[[.own 0 9 1 (h0_0.map cStr)]],[(h0_0.map cStr).length]⟩:=by
 intro p0 h0_0 o h
 unfold Qar at h
 refine CallOK.ofB mixed tbOk Qco Tryz.func51 rfl (by kernel_rfl) (Nat.le_of_ble_eq_true rfl) rfl rfl rfl ?_
 refine Qch _ _ h (fun x1 hy=>((Qc9 p0 h0_0 x1 hy).fr [0] [0] rfl rfl rfl)) (fun x1 hy h=>?_)
 refine Exists.intro _ (And.intro (Le.refl _ _ _) ?_)
 exact Qf6 (t:=Qbf) (ss:=fun o=>⟨[[.own 0 9 1 (h0_0.map cStr)]],[(h0_0.map cStr).length]⟩) h ⟨[0],rfl,.refl _,.refl _,rfl⟩
noncomputable def Qfj (p0:(List UInt8)) (h1_0:(List (List UInt8))) (h2_0:(List ((List UInt8)×(List (List UInt8))))):Option (Bool) :=
 Qar ((mget (fun a b=>a==b) p0 h2_0).getD []) h1_0>>=fun x1 =>
 some (!x1)
theorem Qrm:∀ (p0:(List UInt8)) (h1_0:(List (List UInt8))) (h2_0:(List ((List UInt8)×(List (List UInt8))))) (o:Bool),Qfj p0 h1_0 h2_0=some o→CallOK Tryz.prog 50 [.p (sV p0),.ptr 0 0,.ptr 1 0] ⟨[[.mh 2],[.own 0 9 1 (h1_0.map cStr)],[mpD sV (fun x =>.sl false (x.map cStr)) h2_0]],[(h1_0.map cStr).length]⟩ (Ql5 o) ⟨[[.mh 2],[.own 0 9 1 (h1_0.map cStr)],[mpD sV (fun x =>.sl false (x.map cStr)) h2_0]],[(h1_0.map cStr).length]⟩:=by
 intro p0 h1_0 h2_0 o h
 unfold Qfj at h
 refine CallOK.ofB mixed tbOk Qq3 Tryz.func50 rfl (by kernel_rfl) (Nat.le_of_ble_eq_true rfl) rfl rfl rfl ?_
 refine Qp4 (l:=h2_0) (k:=p0) (fun a b=>a==b) (ck:=sV) (ca:=(fun x =>.sl false (x.map cStr))) (z0:=[]) (by exact rfl) (by exact rfl) (by exact rfl) (by exact fun _ _=>rfl) (by exact rfl) (by exact .not) ?_
 refine Qch _ _ h (fun x1 hy=>((Qcq ((mget (fun a b=>a==b) p0 h2_0).getD []) h1_0 x1 hy).fr [1] [0] rfl rfl rfl)) (fun x1 hy h=>?_)
 refine Exists.intro _ (And.intro (Le.refl _ _ _) ?_)
 refine Qf6 (t:=Ql5) (ss:=fun o=>⟨[[.mh 2],[.own 0 9 1 (h1_0.map cStr)],[mpD sV (fun x =>.sl false (x.map cStr)) h2_0]],[(h1_0.map cStr).length]⟩) h ?_
 exact⟨[0],rfl,.refl _,.refl _,rfl⟩
noncomputable def Qak (p0:(List (List UInt8))) (h1_0:(List (List UInt8))) (h2_0:(List ((List UInt8)×(List (List UInt8))))) (v8:Int):Option (Unit⊕Int) :=
 if(decide (v8<(p0.length:Int))) then
  idx p0 v8>>=fun x4 =>
  Qfj x4 h1_0 h2_0>>=fun x5 =>
  if x5 then
   some (.inr v8)
  else
   Qak p0 h1_0 h2_0 (wr (v8+1))
 else
  some (.inl ())
 partial_fixpoint
theorem Qcu:∀ (p0:(List (List UInt8))) (h1_0:(List (List UInt8))) (h2_0:(List ((List UInt8)×(List (List UInt8))))),(∀ (v8:Int) (o1:Unit⊕Int),Qak p0 h1_0 h2_0 v8=some o1→TL (3,2) Tryz.prog 19 Qbm (JP2 (3,2) 19 o1 (.exit 0) (Qa2 p0 h1_0 h2_0) .ret (Qa3 p0 h1_0 h2_0)) (Qap p0 h1_0 h2_0 v8)):=by
 intro p0 h1_0 h2_0
 refine Qak.partial_correctness p0 h1_0 h2_0 _ ?_
 intro Qak' iQak v8 o1 h
 refine TL.round (Qai mixed tbOk (lv:=Qbq) _ _ _ ?_)
 refine Qae h (fun hb h=>?_) (fun hb h=>?_)
 ·refine Qy7 (l:=p0) (c:=cStr) (c' := cStr) h rfl (fun _=>rfl) (fun _=>rfl) (by decide) (fun x4 hi h=>?_)
  refine And.intro rfl (And.intro (Nat.le_of_ble_eq_true rfl) ?_)
  refine Qch _ _ h (fun x5 hy=>((Qrm x4 h1_0 h2_0 x5 hy).fr [0,1,2] [1] rfl rfl rfl)) (fun x5 hy h=>?_)
  refine Qae h (fun hb h=>?_) (fun hb h=>?_)
  ·exact JP2.b h (Le.tz 3 2 rfl rfl rfl)
  ·refine TL.le (τ := Qap p0 h1_0 h2_0 (wr (v8+1))) ?_ ((iQak (wr (v8+1)) _ h))
   exact Le.tz 3 2 rfl rfl rfl
 ·exact JP2.a h (Le.tz 3 2 rfl rfl rfl)
theorem Qc3:∀ (p0:(List (List UInt8))) (h1_0:(List (List UInt8))) (h2_0:(List ((List UInt8)×(List (List UInt8))))) (v8:Int) (o1:Unit⊕Int),Qak p0 h1_0 h2_0 v8=some o1→TL (3,2) Tryz.prog 19 Qbm (JP2 (3,2) 19 o1 (.exit 0) (Qa2 p0 h1_0 h2_0) .ret (Qa3 p0 h1_0 h2_0)) (Qap p0 h1_0 h2_0 v8):=fun p0 h1_0 h2_0 v8=>(Qcu p0 h1_0 h2_0) v8
noncomputable def Qaw (p0:(List (List UInt8))) (h1_0:(List (List UInt8))) (h2_0:(List ((List UInt8)×(List (List UInt8))))):Option (Int) :=
 (Qak p0 h1_0 h2_0 0)>>=fun o1 =>
 match o1 with
 | .inl y2 =>
  some (-1)
 | .inr y3 =>
  some y3
theorem Qdh:∀ (p0:(List (List UInt8))) (h1_0:(List (List UInt8))) (h2_0:(List ((List UInt8)×(List (List UInt8))))) (o:Int),Qaw p0 h1_0 h2_0=some o→CallOK Tryz.prog 49 [.x 0 (p0.length+1) (.sl 9 1 (p0.map cStr)),.fn (.func 50) [] [.ptr 0 0,.ptr 1 0]] ⟨[[.mh 2],[.own 1 9 1 (h1_0.map cStr)],[mpD sV (fun x =>.sl false (x.map cStr)) h2_0]],[(p0.length+1),(h1_0.map cStr).length]⟩ (Qba o) ⟨[[.mh 2],[.own 1 9 1 (h1_0.map cStr)],[mpD sV (fun x =>.sl false (x.map cStr)) h2_0]],[(p0.length+1),(h1_0.map cStr).length]⟩:=by
 intro p0 h1_0 h2_0 o h
 unfold Qaw at h
 refine CallOK.ofB mixed tbOk Qbq Tryz.func49 rfl (by kernel_rfl) (Nat.le_of_ble_eq_true rfl) rfl rfl rfl ?_
 refine And.intro rfl (Exists.intro _ (And.intro (List.length_map _) ?_))
 refine Qag h (fun o1 ho hk=>?_)
 refine Exists.intro (JP2 _ _ o1 (.exit 0) (Qa2 p0 h1_0 h2_0) .ret (Qa3 p0 h1_0 h2_0)) (And.intro (T_le (τ := Qap p0 h1_0 h2_0 0) ?_ (TL.loop (Qc3 p0 h1_0 h2_0 0 o1 ho))) (join2 (fun y2 hy=>?_) (fun y3 hy=>?_)))
 ·exact Le.tz 3 2 rfl rfl rfl
 ·have h:=(by rw[hy] at hk; exact hk)
  refine Exists.intro _ (And.intro (Le.refl _ _ _) ?_)
  refine Qf6 (t:=Qba) (ss:=fun o=>⟨[[.mh 2],[.own 1 9 1 (h1_0.map cStr)],[mpD sV (fun x =>.sl false (x.map cStr)) h2_0]],[(p0.length+1),(h1_0.map cStr).length]⟩) h ?_
  exact⟨[0,1],rfl,.refl _,.refl _,rfl⟩
 ·have h:=(by rw[hy] at hk; exact hk)
  refine Exists.intro _ (And.intro (Le.refl _ _ _) ?_)
  refine Qf6 (t:=Qba) (ss:=fun o=>⟨[[.mh 2],[.own 1 9 1 (h1_0.map cStr)],[mpD sV (fun x =>.sl false (x.map cStr)) h2_0]],[(p0.length+1),(h1_0.map cStr).length]⟩) h ?_
  exact⟨[0,1],rfl,.refl _,.refl _,rfl⟩
noncomputable def Qcf (x2:(List ((List UInt8)×(List (List UInt8))))) (v6:(List (List UInt8))) (h2_0:(List (List UInt8))):Option ((List (List UInt8))) :=
 if(decide ((v6.length:Int)>0)) then
  Qaw v6 h2_0 x2>>=fun x7 =>
  idx v6 x7>>=fun x8 =>
  appL 16 h2_0 [x8]>>=fun x9 =>
  need (v6.length<4611686018427387904)>>=fun _ =>
  need (0≤x7)>>=fun _ =>
  need (x7<(wr (x7+1)))>>=fun _ =>
  need ((wr (x7+1))≤(v6.length:Int))>>=fun _ =>
  Qcf x2 (delL v6 x7 (wr (x7+1))) x9
 else
  some h2_0
 partial_fixpoint
theorem Qrn:∀ (x2:(List ((List UInt8)×(List (List UInt8))))),(∀ (v6:(List (List UInt8))) (h2_0:(List (List UInt8))) (o6:(List (List UInt8))),Qcf x2 v6 h2_0=some o6→TL (0,0) Tryz.prog 53 Qng (JP1 (0,0) 53 o6 (.exit 2) (Qh4 x2)) (Qft x2 v6 h2_0)):=by
 intro x2
 refine Qcf.partial_correctness x2 _ ?_
 intro Qcf' iQcf v6 h2_0 o6 h
 refine TL.round (Qai mixed tbOk (lv:=Qlt) _ _ _ ?_)
 refine And.intro rfl (Exists.intro _ (And.intro (List.length_map _) ?_))
 refine Qae h (fun hb h=>?_) (fun hb h=>?_)
 ·refine Exists.intro _ (And.intro (Le.trans (τ := ⟨[(5,.ptr 1 0),(6,.x 0 1 (.sl 9 1 (v6.map cStr))),(7,.ptr 2 0),(36,.p (bV (decide ((v6.length:Int)>0))))],⟨[[mpD sV (fun x =>.sl false (x.map cStr)) x2],[.mh 0],[.own 1 9 1 (h2_0.map cStr)]],[1,(h2_0.map cStr).length]⟩⟩) (Le.tz 3 2 rfl rfl rfl) (Le.ver (.s 6) 0 1 (v6.length+1) rfl rfl rfl rfl)) ?_)
  refine Qch _ _ h (fun x7 hy=>((Qdh v6 h2_0 x2 x7 hy).fr [1,2,0] [0,1] rfl rfl rfl)) (fun x7 hy h=>?_)
  refine And.intro (by decide +kernel) (And.intro rfl ?_)
  refine And.intro rfl ?_
  refine Qy7 (l:=v6) (c:=cStr) (c' := cStr) h rfl (fun _=>rfl) (fun _=>rfl) (by decide) (fun x8 hi h=>?_)
  refine And.intro rfl ?_
  refine And.intro rfl (And.intro (Nat.le_of_ble_eq_true rfl) ?_)
  refine Qlc (a:=h2_0) (b:=[x8]) (c:=cStr) h (.refl _) (fun _=>rfl) rfl (fun x9 hi h=>?_)
  refine Qjn h (fun hn0 h=>?_)
  refine Qjn h (fun hn1 h=>?_)
  refine Qjn h (fun hn2 h=>?_)
  refine Qjn h (fun hn3 h=>?_)
  refine Or.inl ?_
  refine⟨rfl,rfl,_,true,v6,(delL v6 x7 (wr (x7+1))),_,rfl,rfl,deleteFn x7 (wr (x7+1)) hn0 hn1 hn2 hn3,rfl,?_⟩
  refine TL.le (τ := Qft x2 (delL v6 x7 (wr (x7+1))) x9) ?_ ((iQcf (delL v6 x7 (wr (x7+1))) x9 _ h))
  exact Le.trans (τ := ⟨[(5,.ptr 1 0),(6,.x 0 ((v6.length+1)+1) (.sl 9 1 ((delL v6 x7 (wr (x7+1))).map cStr))),(7,.ptr 2 0)],⟨[[mpD sV (fun x =>.sl false (x.map cStr)) x2],[.mh 0],[.own 1 9 1 (x9.map cStr)]],[((v6.length+1)+1),(x9.map cStr).length]⟩⟩) (Le.tz 3 2 rfl rfl rfl) ((Le.verh 6 0 ((v6.length+1)+1) 1 rfl rfl rfl rfl).trans (Le.tz 3 2 rfl rfl rfl))
 ·exact JP1.a h (Le.tz 3 2 rfl rfl rfl)
theorem Qsi:∀ (x2:(List ((List UInt8)×(List (List UInt8))))) (v6:(List (List UInt8))) (h2_0:(List (List UInt8))) (o6:(List (List UInt8))),Qcf x2 v6 h2_0=some o6→TL (0,0) Tryz.prog 53 Qng (JP1 (0,0) 53 o6 (.exit 2) (Qh4 x2)) (Qft x2 v6 h2_0):=fun x2 v6 h2_0=>(Qrn x2) v6 h2_0
noncomputable def Qh8 (p0:(List Qac)):Option ((List (List UInt8))) :=
 Qgd p0>>=fun x1 =>
 if(x1.2 != 0) then
  some []
 else
  Qgc p0>>=fun x2 =>
  (Qc0 p0 x2 [] 0)>>=fun o3 =>
  need (o3.length<4611686018427387904)>>=fun _ =>
  (Qcf x2 (srtL o3) [])>>=fun o6 =>
  some o6
theorem Qp0:∀ (p0:(List Qac)) (o:(List (List UInt8))),Qh8 p0=some o→PCall Tryz.prog 16 [.sl false (p0.map Qaf)] (Qg4 o):=by
 intro p0 o h
 unfold Qh8 at h
 refine PCall.ofB mixed tbOk Qlt Tryz.func16 rfl (by kernel_rfl) (Nat.le_of_ble_eq_true rfl) ?_
 refine Qah [.sl false (p0.map Qaf)] Qcr h (fun x1 hy=>(Ql0 p0 x1 hy)) (fun x1 hy h=>?_)
 refine Qae h (fun hb h=>?_) (fun hb h=>?_)
 ·refine Qal (t:=Qg4) h ?_
  exact .p (.not)
 ·refine Qch _ _ h (fun x2 hy=>((Qlz p0 x2 hy).frN [] [] rfl rfl rfl)) (fun x2 hy h=>?_)
  refine view (lenMap _ _) rfl ?_
  refine Qag h (fun o3 ho hk=>?_)
  refine Exists.intro (JP1 _ _ o3 (.exit 0) (Qh3 p0 x2)) (And.intro (T_le (τ := Qfs p0 x2 [] 0) ?_ (TL.loop (Qsh p0 x2 [] 0 o3 ho))) (join1 ?_))
  ·exact(Le.xnil (.s 6) 9 1 rfl).trans (Le.tz 3 1 rfl rfl rfl)
  have h:=hk
  refine Qjn h (fun hn0 h=>?_)
  refine Or.inl ?_
  refine⟨rfl,rfl,_,false,o3,(srtL o3),_,rfl,rfl,sortFn  hn0 ,rfl,rfl,?_⟩
  refine Qag h (fun o6 ho hk=>?_)
  refine Exists.intro (JP1 _ _ o6 (.exit 2) (Qh4 x2)) (And.intro (T_le (τ := Qft x2 (srtL o3) []) ?_ (TL.loop (Qsi x2 (srtL o3) [] o6 ho))) (join1 ?_))
  ·exact Le.trans (τ := ⟨[(5,.ptr 1 0),(6,.x 0 2 (.sl 9 1 ((srtL o3).map cStr))),(7,.ptr 2 0)],⟨[[mpD sV (fun x =>.sl false (x.map cStr)) x2],[.mh 0],[.p (.sl true [])]],[2]⟩⟩) (Le.tz 3 1 rfl rfl rfl) ((Le.ver (.s 6) 0 2 1 rfl rfl rfl rfl).trans ((Le.ownH 2 0 9 1 rfl rfl sizeNil).trans (Le.tz 3 2 rfl rfl rfl)))
  have h:=hk
  refine Qal (t:=Qg4) h ?_
  exact .refl _
noncomputable def Qge (p0:(List Qac)) (p1:(List UInt8)):Option ((List (List UInt8))) :=
 Qgd p0>>=fun x1 =>
 if(x1.2 != 0) then
  some []
 else
  Qjy p0 p1>>=fun x2 =>
  if(!x2.2) then
   some []
  else
   Qgc p0>>=fun x3 =>
   Qdk [p1] x3>>=fun x4 =>
   some x4
theorem Ql1:∀ (p0:(List Qac)) (p1:(List UInt8)) (o:(List (List UInt8))),Qge p0 p1=some o→PCall Tryz.prog 19 [.sl false (p0.map Qaf),sV p1] (Qeg o):=by
 intro p0 p1 o h
 unfold Qge at h
 refine PCall.ofB mixed tbOk Qwr Tryz.func19 rfl (by kernel_rfl) (Nat.le_of_ble_eq_true rfl) ?_
 refine Qah [.sl false (p0.map Qaf)] Qcr h (fun x1 hy=>(Ql0 p0 x1 hy)) (fun x1 hy h=>?_)
 refine Qae h (fun hb h=>?_) (fun hb h=>?_)
 ·refine Qal (t:=Qeg) h ?_
  exact .p (.not)
 ·refine Qah [.sl false (p0.map Qaf),sV p1] Qis h (fun x2 hy=>(Qrc p0 p1 x2 hy)) (fun x2 hy h=>?_)
  refine Qae h (fun hb h=>?_) (fun hb h=>?_)
  ·refine Qal (t:=Qeg) h ?_
   exact .p (.not)
  ·refine Qch _ _ h (fun x3 hy=>((Qlz p0 x3 hy).frN [] [] rfl rfl rfl)) (fun x3 hy h=>?_)
   refine Qch _ _ h (fun x4 hy=>((Qky [p1] x3 x4 hy).fr [0] [] rfl rfl rfl).weakC (.cons (.refl _) (.cons (.p (.not)) (.nil)))) (fun x4 hy h=>?_)
   refine Qal (t:=Qeg) h ?_
   exact .refl _
mutual
noncomputable def Qa4 (p0:(List Qab)) (p1:Int) (p2:Int):Option ((List Qab)×Int) :=
 (Qbr p0 p1 p2 [] 0)>>=fun o1 =>
 some (o1.2,o1.1)
 partial_fixpoint
noncomputable def Qbr (p0:(List Qab)) (p1:Int) (v2:Int) (v8:(List Qab)) (v9:Int):Option ((Int×(List Qab))) :=
 ( if(decide (v9<(p0.length:Int))) then
   if(decide (v2>0)) then
    some (decide (p1>0))
   else
    some false
  else
   some false:Option (Bool))>>=fun o2 =>
 if o2 then
  idx p0 v9>>=fun x3 =>
  cutL x3.Name 0 (if 40<(x3.Name.length:Int) then 40 else(x3.Name.length:Int))>>=fun x4 =>
  cutL x3.Text 0 (if 60<(x3.Text.length:Int) then 60 else(x3.Text.length:Int))>>=fun x5 =>
  Qa4 x3.L (wr (p1-1)) (wr (v2-1))>>=fun x6 =>
  Qa4 x3.Then (wr (p1-1)) x6.2>>=fun x7 =>
  Qa4 x3.Else (wr (p1-1)) x7.2>>=fun x8 =>
  appL 120 v8 [(Qab.mk x3.Kind x4 x5 x3.N x6.1 x7.1 x8.1)]>>=fun x9 =>
  Qbr p0 p1 x8.2 x9 (wr (v9+1))
 else
  some (v2,v8)
 partial_fixpoint
end
theorem Qov:(∀ (p0:(List Qab)) (p1:Int) (p2:Int) (o:(List Qab)×Int),Qa4 p0 p1 p2=some o→PCall Tryz.prog 22 [.sl false (p0.map Qaa),iV p1,iV p2] (Qby o))∧(∀ (p0:(List Qab)) (p1:Int) (v2:Int) (v8:(List Qab)) (v9:Int) (o1:(Int×(List Qab))),Qbr p0 p1 v2 v8 v9=some o1→TL (0,0) Tryz.prog 88 Qno (JP1 (0,0) 88 o1 (.exit 0) (Qg8 p0 p1)) (Qei p0 p1 v2 v8 v9)):=by
 refine Qa4.mutual_partial_correctness _ _ ?_ ?_
 ·intro Qbr' iQbr p0 p1 p2 o h
  refine PCall.ofB mixed tbOk Qji Tryz.func22 rfl (by kernel_rfl) (Nat.le_of_ble_eq_true rfl) ?_
  refine Qag h (fun o1 ho hk=>?_)
  refine Exists.intro (JP1 _ _ o1 (.exit 0) (Qg8 p0 p1)) (And.intro (T_le (τ := Qei p0 p1 p2 [] 0) ?_ (TL.loop (iQbr p0 p1 p2 [] 0 o1 ho))) (join1 ?_))
  ·exact Le.trans (τ := ⟨[(0,.p (.sl false (p0.map Qaa))),(1,.p (iV p1)),(2,.p (iV p2)),(8,.p (.sl true [])),(9,.p (iV 0))],⟨[],[]⟩⟩) (Le.tz 0 0 rfl rfl rfl) ((Le.own 8 38 7 rfl sizeNil).trans (Le.tz 0 1 rfl rfl rfl))
  have h:=hk
  refine Qal (t:=Qby) h ?_
  exact .refl _
 ·intro Qa4' Qbr' iQa4 iQbr p0 p1 v2 v8 v9 o1 h
  refine TL.round (Qai mixed tbOk (lv:=Qji) _ _ _ ?_)
  refine Qag h (fun o2 ho hk=>?_)
  refine Exists.intro (JP1 _ _ o2 .normal (Qnn p0 p1 v2 v8 v9)) (And.intro ?_ (join1 ?_))
  ·have h:=ho
   refine view (lenMap _ _) rfl ?_
   refine Qae h (fun hb h=>?_) (fun hb h=>?_)
   ·refine Qae h (fun hb h=>?_) (fun hb h=>?_)
    ·refine JP1.a h ?_
     exact Le.tz 0 1 rfl rfl rfl
    ·refine JP1.a h ?_
     exact Le.tz 0 1 rfl rfl rfl
   ·refine bF ?_
    refine JP1.a h ?_
    exact Le.tz 0 1 rfl rfl rfl
  ·have h:=hk
   refine Qae h (fun hb h=>?_) (fun hb h=>?_)
   ·refine Qa5 (l:=p0) (c:=Qaa) (c' := Qa7) h Qam (fun _=>rfl) (by decide) (fun x3 hi h=>?_)
    refine And.intro (by decide +kernel) (And.intro rfl ?_)
    refine vrfl ?_
    refine Qn0 none (some (if 40<(x3.Name.length:Int) then 40 else(x3.Name.length:Int))) h (fun x4 hi h=>?_)
    refine vrfl ?_
    refine Qn0 none (some (if 60<(x3.Text.length:Int) then 60 else(x3.Text.length:Int))) h (fun x5 hi h=>?_)
    refine Qah [.sl false (x3.L.map Qaa),iV (wr (p1-1)),iV (wr (v2-1))] Qby h (fun x6 hy=>(iQa4 x3.L (wr (p1-1)) (wr (v2-1)) x6 hy)) (fun x6 hy h=>?_)
    refine Qah [.sl false (x3.Then.map Qaa),iV (wr (p1-1)),iV x6.2] Qby h (fun x7 hy=>(iQa4 x3.Then (wr (p1-1)) x6.2 x7 hy)) (fun x7 hy h=>?_)
    refine Qah [.sl false (x3.Else.map Qaa),iV (wr (p1-1)),iV x7.2] Qby h (fun x8 hy=>(iQa4 x3.Else (wr (p1-1)) x7.2 x8 hy)) (fun x8 hy h=>?_)
    refine Qlc (a:=v8) (b:=[(Qab.mk x3.Kind x4 x5 x3.N x6.1 x7.1 x8.1)]) (c:=Qaa) h (.cons (.ceq (Qam _) (.refl _)) (.nil)) (fun x=>by rw[Qam]; rfl) rfl (fun x9 hi h=>?_)
    refine TL.le (τ := Qei p0 p1 x8.2 x9 (wr (v9+1))) ?_ ((iQbr p0 p1 x8.2 x9 (wr (v9+1)) _ h))
    exact Le.tz 0 1 rfl rfl rfl
   ·exact JP1.a h (Le.tz 0 1 rfl rfl rfl)
theorem Qpi:∀ (p0:(List Qab)) (p1:Int) (p2:Int) (o:(List Qab)×Int),Qa4 p0 p1 p2=some o→PCall Tryz.prog 22 [.sl false (p0.map Qaa),iV p1,iV p2] (Qby o):=fun p0 p1 p2=>Qov.1 p0 p1 p2
noncomputable def Qbu (p0:(List Qac)) (p1:Int) (v5:(List Qac)) (v6:Int):Option ((List Qac)) :=
 ( if(decide (v6<(p0.length:Int))) then
   some (decide (v6<p1))
  else
   some false:Option (Bool))>>=fun o2 =>
 if o2 then
  idx p0 v6>>=fun x3 =>
  Qa4 x3.L 14 40>>=fun x4 =>
  idx p0 v6>>=fun x5 =>
  idx p0 v6>>=fun x6 =>
  cutL x5.Name 0 (if 40<(x6.Name.length:Int) then 40 else(x6.Name.length:Int))>>=fun x7 =>
  appL 40 v5 [(Qac.mk x7 x4.1)]>>=fun x8 =>
  Qbu p0 p1 x8 (wr (v6+1))
 else
  some v5
 partial_fixpoint
theorem Qnt:∀ (p0:(List Qac)) (p1:Int),(∀ (v5:(List Qac)) (v6:Int) (o1:(List Qac)),Qbu p0 p1 v5 v6=some o1→TL (0,0) Tryz.prog 49 Qjj (JP1 (0,0) 49 o1 (.exit 0) (Qe4 p0 p1)) (Qdl p0 p1 v5 v6)):=by
 intro p0 p1
 refine Qbu.partial_correctness p0 p1 _ ?_
 intro Qbu' iQbu v5 v6 o1 h
 refine TL.round (Qai mixed tbOk (lv:=Qk8) _ _ _ ?_)
 refine Qag h (fun o2 ho hk=>?_)
 refine Exists.intro (JP1 _ _ o2 .normal (Qpc p0 p1 v5 v6)) (And.intro ?_ (join1 ?_))
 ·have h:=ho
  refine view (lenMap _ _) rfl ?_
  refine Qae h (fun hb h=>?_) (fun hb h=>?_)
  ·refine JP1.a h ?_
   exact Le.tz 0 1 rfl rfl rfl
  ·refine JP1.a h ?_
   exact Le.tz 0 1 rfl rfl rfl
 ·have h:=hk
  refine Qae h (fun hb h=>?_) (fun hb h=>?_)
  ·refine Qa5 (l:=p0) (c:=Qaf) (c' := Qaf) h (fun _=>rfl) (fun _=>rfl) (by decide) (fun x3 hi h=>?_)
   refine Qah [.sl false (x3.L.map Qaa),iV 14,iV 40] Qby h (fun x4 hy=>(Qpi x3.L 14 40 x4 hy)) (fun x4 hy h=>?_)
   refine And.intro (by decide +kernel) (And.intro rfl ?_)
   refine Qa5 (l:=p0) (c:=Qaf) (c' := Qaf) h (fun _=>rfl) (fun _=>rfl) (by decide) (fun x5 hi h=>?_)
   refine Qa5 (l:=p0) (c:=Qaf) (c' := Qaf) h (fun _=>rfl) (fun _=>rfl) (by decide) (fun x6 hi h=>?_)
   refine vrfl ?_
   refine Qn0 none (some (if 40<(x6.Name.length:Int) then 40 else(x6.Name.length:Int))) h (fun x7 hi h=>?_)
   refine Qlc (a:=v5) (b:=[(Qac.mk x7 x4.1)]) (c:=Qaf) h (.refl _) (fun _=>rfl) rfl (fun x8 hi h=>?_)
   refine TL.le (τ := Qdl p0 p1 x8 (wr (v6+1))) ?_ ((iQbu x8 (wr (v6+1)) _ h))
   exact Le.tz 0 1 rfl rfl rfl
  ·exact JP1.a h (Le.tz 0 1 rfl rfl rfl)
theorem Qow:∀ (p0:(List Qac)) (p1:Int) (v5:(List Qac)) (v6:Int) (o1:(List Qac)),Qbu p0 p1 v5 v6=some o1→TL (0,0) Tryz.prog 49 Qjj (JP1 (0,0) 49 o1 (.exit 0) (Qe4 p0 p1)) (Qdl p0 p1 v5 v6):=fun p0 p1 v5 v6=>(Qnt p0 p1) v5 v6
noncomputable def Qfk (p0:(List Qac)) (p1:Int):Option ((List Qac)) :=
 (Qbu p0 p1 [] 0)>>=fun o1 =>
 some o1
theorem Qro:∀ (p0:(List Qac)) (p1:Int) (o:(List Qac)),Qfk p0 p1=some o→PCall Tryz.prog 12 [.sl false (p0.map Qaf),iV p1] (Qh6 o):=by
 intro p0 p1 o h
 unfold Qfk at h
 refine PCall.ofB mixed tbOk Qk8 Tryz.func12 rfl (by kernel_rfl) (Nat.le_of_ble_eq_true rfl) ?_
 refine Qag h (fun o1 ho hk=>?_)
 refine Exists.intro (JP1 _ _ o1 (.exit 0) (Qe4 p0 p1)) (And.intro (T_le (τ := Qdl p0 p1 [] 0) ?_ (TL.loop (Qow p0 p1 [] 0 o1 ho))) (join1 ?_))
 ·exact Le.trans (τ := ⟨[(0,.p (.sl false (p0.map Qaf))),(1,.p (iV p1)),(5,.p (.sl true [])),(6,.p (iV 0))],⟨[],[]⟩⟩) (Le.tz 0 0 rfl rfl rfl) ((Le.own 5 56 2 rfl sizeNil).trans (Le.tz 0 1 rfl rfl rfl))
 have h:=hk
 refine Qal (t:=Qh6) h ?_
 exact .refl _
noncomputable def Qda (p0:(List UInt8)):Option (Qab) :=
 some (Qab.mk 13 p0 [] 0 ([(Qab.mk 4 [105,116] [] 0 [] [] [])]) [] [])
theorem Qe0:∀ (p0:(List UInt8)) (o:Qab),Qda p0=some o→PCall Tryz.prog 47 [sV p0] (Qc1 o):=by
 intro p0 o h
 unfold Qda at h
 refine PCall.ofB mixed tbOk Qq6 Tryz.func47 rfl (by kernel_rfl) (Nat.le_of_ble_eq_true rfl) ?_
 refine Qal (t:=Qc1) h ?_
 exact .p (.agg' (.cons (.refl _) (.cons (.refl _) (.cons (.refl _) (.cons (.refl _) (.cons (.no (.cons (.ceq (Qam _) (.cons (.refl _) (.cons (.refl _) (.cons (.refl _) (.cons (.refl _) (.cons (.not) (.cons (.not) (.cons (.not) (.nil))))))))) (.nil))) (.cons (.not) (.cons (.not) (.nil)))))))))
noncomputable def Qc4:Option (Bool) :=
 Qda [98]>>=fun x1 =>
 Qda [99]>>=fun x2 =>
 Qda [99]>>=fun x3 =>
 Qda [97]>>=fun x4 =>
 Qgd ([(Qac.mk [97] [x4])])>>=fun x5 =>
 ( Qh8 ([(Qac.mk [97] [x1,x2]),(Qac.mk [98] [x3]),(Qac.mk [99] [])])>>=fun x7 =>
  Qk9 x7 ([[99],[98],[97]])>>=fun x8 =>
  if x8 then
   Qge ([(Qac.mk [97] [x1,x2]),(Qac.mk [98] [x3]),(Qac.mk [99] [])]) [98]>>=fun x9 =>
   Qk9 x9 ([[98],[99]])>>=fun x10 =>
   if x10 then
    if(x5.1==[97]) then
     some (x5.2==10)
    else
     some false
   else
    some false
  else
   some false:Option (Bool))>>=fun o6 =>
 some o6
theorem Qjk:∀ (o:Bool),Qc4  = some o→PCall Tryz.prog 15 [] (Qej o):=by
 intro o h
 unfold Qc4 at h
 refine PCall.ofB mixed tbOk Qpd Tryz.func15 rfl (by kernel_rfl) (Nat.le_of_ble_eq_true rfl) ?_
 refine Qah [sV [98]] Qc1 h (fun x1 hy=>(Qe0 [98] x1 hy)) (fun x1 hy h=>?_)
 refine Qah [sV [99]] Qc1 h (fun x2 hy=>(Qe0 [99] x2 hy)) (fun x2 hy h=>?_)
 refine Qah [sV [99]] Qc1 h (fun x3 hy=>(Qe0 [99] x3 hy)) (fun x3 hy h=>?_)
 refine Qah [sV [97]] Qc1 h (fun x4 hy=>(Qe0 [97] x4 hy)) (fun x4 hy h=>?_)
 refine Qah [.sl true [[sV [97],.sl true [[iV x4.Kind,sV x4.Name,sV x4.Text,iV x4.N,.sl false (x4.L.map Qaa),.sl false (x4.Then.map Qaa),.sl false (x4.Else.map Qaa)]]]]] Qcr h (fun x5 hy=>(Ql0 ([(Qac.mk [97] [x4])]) x5 hy).weak (.cons (.no (.cons (.cons (.refl _) (.cons (.no (.cons (.ceq (Qam _) (.refl _)) (.nil))) (.nil))) (.nil))) (.nil))) (fun x5 hy h=>?_)
 refine Qag h (fun o6 ho hk=>?_)
 refine Exists.intro (JP1 _ _ o6 .normal (Qnp )) (And.intro ?_ (join1 ?_))
 ·have h:=ho
  refine Qah [.sl true [[sV [97],.sl true [[iV x1.Kind,sV x1.Name,sV x1.Text,iV x1.N,.sl false (x1.L.map Qaa),.sl false (x1.Then.map Qaa),.sl false (x1.Else.map Qaa)],[iV x2.Kind,sV x2.Name,sV x2.Text,iV x2.N,.sl false (x2.L.map Qaa),.sl false (x2.Then.map Qaa),.sl false (x2.Else.map Qaa)]]],[sV [98],.sl true [[iV x3.Kind,sV x3.Name,sV x3.Text,iV x3.N,.sl false (x3.L.map Qaa),.sl false (x3.Then.map Qaa),.sl false (x3.Else.map Qaa)]]],[sV [99],.sl true []]]] Qg4 h (fun x7 hy=>(Qp0 ([(Qac.mk [97] [x1,x2]),(Qac.mk [98] [x3]),(Qac.mk [99] [])]) x7 hy).weak (.cons (.no (.cons (.cons (.refl _) (.cons (.no (.cons (.ceq (Qam _) (.refl _)) (.cons (.ceq (Qam _) (.refl _)) (.nil)))) (.nil))) (.cons (.cons (.refl _) (.cons (.no (.cons (.ceq (Qam _) (.refl _)) (.nil))) (.nil))) (.cons (.cons (.refl _) (.cons (.not) (.nil))) (.nil))))) (.nil))) (fun x7 hy h=>?_)
  refine Qah [.sl false (x7.map cStr),.sl true [[sV [99]],[sV [98]],[sV [97]]]] Qgi h (fun x8 hy=>(Qmz x7 ([[99],[98],[97]]) x8 hy).weak (.cons (.refl _) (.cons (.not) (.nil)))) (fun x8 hy h=>?_)
  refine Qae h (fun hb h=>?_) (fun hb h=>?_)
  ·refine Qah [.sl true [[sV [97],.sl true [[iV x1.Kind,sV x1.Name,sV x1.Text,iV x1.N,.sl false (x1.L.map Qaa),.sl false (x1.Then.map Qaa),.sl false (x1.Else.map Qaa)],[iV x2.Kind,sV x2.Name,sV x2.Text,iV x2.N,.sl false (x2.L.map Qaa),.sl false (x2.Then.map Qaa),.sl false (x2.Else.map Qaa)]]],[sV [98],.sl true [[iV x3.Kind,sV x3.Name,sV x3.Text,iV x3.N,.sl false (x3.L.map Qaa),.sl false (x3.Then.map Qaa),.sl false (x3.Else.map Qaa)]]],[sV [99],.sl true []]],sV [98]] Qeg h (fun x9 hy=>(Ql1 ([(Qac.mk [97] [x1,x2]),(Qac.mk [98] [x3]),(Qac.mk [99] [])]) [98] x9 hy).weak (.cons (.no (.cons (.cons (.refl _) (.cons (.no (.cons (.ceq (Qam _) (.refl _)) (.cons (.ceq (Qam _) (.refl _)) (.nil)))) (.nil))) (.cons (.cons (.refl _) (.cons (.no (.cons (.ceq (Qam _) (.refl _)) (.nil))) (.nil))) (.cons (.cons (.refl _) (.cons (.not) (.nil))) (.nil))))) (.cons (.refl _) (.nil)))) (fun x9 hy h=>?_)
   refine Qah [.sl false (x9.map cStr),.sl true [[sV [98]],[sV [99]]]] Qgi h (fun x10 hy=>(Qmz x9 ([[98],[99]]) x10 hy).weak (.cons (.refl _) (.cons (.not) (.nil)))) (fun x10 hy h=>?_)
   refine Qae h (fun hb h=>?_) (fun hb h=>?_)
   ·refine Qae h (fun hb h=>?_) (fun hb h=>?_)
    ·refine JP1.a h ?_
     exact Le.tz 0 0 rfl rfl rfl
    ·refine JP1.a h ?_
     exact Le.tz 0 0 rfl rfl rfl
   ·refine bF ?_
    refine JP1.a h ?_
    exact Le.tz 0 0 rfl rfl rfl
  ·refine bF ?_
   refine bF ?_
   refine JP1.a h ?_
   exact Le.tz 0 0 rfl rfl rfl
 ·have h:=hk
  refine Qal (t:=Qej) h ?_
  exact .refl _
noncomputable def Qax (x1:(List Qac)) (x2:(List (List UInt8))) (v6:Int) (x13:(List (List UInt8))) (v8:Int):Option (Unit⊕Unit) :=
 if(decide (v8<(x2.length:Int))) then
  idx x2 v8>>=fun x17 =>
  Qpz x13 x17>>=fun x18 =>
  if x18 then
   some (.inr ())
  else
   Qax x1 x2 v6 x13 (wr (v8+1))
 else
  some (.inl ())
 partial_fixpoint
theorem Qiz:∀ (x1:(List Qac)) (x2:(List (List UInt8))) (v6:Int) (x13:(List (List UInt8))),(∀ (v8:Int) (o14:Unit⊕Unit),Qax x1 x2 v6 x13 v8=some o14→TL (0,0) Tryz.prog 73 Qey (JP2 (0,0) 73 o14 (.exit 2) (Qci x1 x2 v6 x13) .ret (Qcj x1 x2 v6 x13)) (Qbv x1 x2 v6 x13 v8)):=by
 intro x1 x2 v6 x13
 refine Qax.partial_correctness x1 x2 v6 x13 _ ?_
 intro Qax' iQax v8 o14 h
 refine TL.round (Qai mixed tbOk (lv:=Qdg) _ _ _ ?_)
 refine view (lenMap _ _) rfl ?_
 refine Qae h (fun hb h=>?_) (fun hb h=>?_)
 ·refine Qa5 (l:=x2) (c:=cStr) (c' := cStr) h (fun _=>rfl) (fun _=>rfl) (by decide) (fun x17 hi h=>?_)
  refine Qah [.sl false (x13.map cStr),sV x17] Qk4 h (fun x18 hy=>(Qoo x13 x17 x18 hy)) (fun x18 hy h=>?_)
  refine Qae h (fun hb h=>?_) (fun hb h=>?_)
  ·exact JP2.b h (Le.tz 0 0 rfl rfl rfl)
  ·refine TL.le (τ := Qbv x1 x2 v6 x13 (wr (v8+1))) ?_ ((iQax (wr (v8+1)) _ h))
   exact Le.tz 0 0 rfl rfl rfl
 ·exact JP2.a h (Le.tz 0 0 rfl rfl rfl)
theorem Qje:∀ (x1:(List Qac)) (x2:(List (List UInt8))) (v6:Int) (x13:(List (List UInt8))) (v8:Int) (o14:Unit⊕Unit),Qax x1 x2 v6 x13 v8=some o14→TL (0,0) Tryz.prog 73 Qey (JP2 (0,0) 73 o14 (.exit 2) (Qci x1 x2 v6 x13) .ret (Qcj x1 x2 v6 x13)) (Qbv x1 x2 v6 x13 v8):=fun x1 x2 v6 x13 v8=>(Qiz x1 x2 v6 x13) v8
noncomputable def Qay (x1:(List Qac)) (x2:(List (List UInt8))) (v6:Int):Option (Unit⊕Unit) :=
 if(decide (v6<(x2.length:Int))) then
  idx x2 v6>>=fun x12 =>
  Qge x1 x12>>=fun x13 =>
  (Qax x1 x2 v6 x13 (wr (v6+1)))>>=fun o14 =>
  match o14 with
  | .inl y15 =>
   Qay x1 x2 (wr (v6+1))
  | .inr y16 =>
   some (.inr ())
 else
  some (.inl ())
 partial_fixpoint
theorem Qi0:∀ (x1:(List Qac)) (x2:(List (List UInt8))),(∀ (v6:Int) (o9:Unit⊕Unit),Qay x1 x2 v6=some o9→TL (0,0) Tryz.prog 73 Qez (JP2 (0,0) 73 o9 (.exit 0) (Qck x1 x2) .ret (Qcl x1 x2)) (Qbw x1 x2 v6)):=by
 intro x1 x2
 refine Qay.partial_correctness x1 x2 _ ?_
 intro Qay' iQay v6 o9 h
 refine TL.round (Qai mixed tbOk (lv:=Qdg) _ _ _ ?_)
 refine view (lenMap _ _) rfl ?_
 refine Qae h (fun hb h=>?_) (fun hb h=>?_)
 ·refine Qa5 (l:=x2) (c:=cStr) (c' := cStr) h (fun _=>rfl) (fun _=>rfl) (by decide) (fun x12 hi h=>?_)
  refine Qah [.sl false (x1.map Qaf),sV x12] Qeg h (fun x13 hy=>(Ql1 x1 x12 x13 hy)) (fun x13 hy h=>?_)
  refine Qag h (fun o14 ho hk=>?_)
  refine Exists.intro (JP2 _ _ o14 (.exit 2) (Qci x1 x2 v6 x13) .ret (Qcj x1 x2 v6 x13)) (And.intro (T_le (τ := Qbv x1 x2 v6 x13 (wr (v6+1))) ?_ (TL.loop (Qje x1 x2 v6 x13 (wr (v6+1)) o14 ho))) (join2 (fun y15 hy=>?_) (fun y16 hy=>?_)))
  ·exact Le.tz 0 0 rfl rfl rfl
  ·have h:=(by rw[hy] at hk; exact hk)
   refine TL.le (τ := Qbw x1 x2 (wr (v6+1))) ?_ ((iQay (wr (v6+1)) _ h))
   exact Le.tz 0 0 rfl rfl rfl
  ·have h:=(by rw[hy] at hk; exact hk)
   exact JP2.b h (Le.tz 0 0 rfl rfl rfl)
 ·exact JP2.a h (Le.tz 0 0 rfl rfl rfl)
theorem Qjf:∀ (x1:(List Qac)) (x2:(List (List UInt8))) (v6:Int) (o9:Unit⊕Unit),Qay x1 x2 v6=some o9→TL (0,0) Tryz.prog 73 Qez (JP2 (0,0) 73 o9 (.exit 0) (Qck x1 x2) .ret (Qcl x1 x2)) (Qbw x1 x2 v6):=fun x1 x2 v6=>(Qi0 x1 x2) v6
noncomputable def Qb0 (p0:(List Qac)) (p1:(List UInt8)):Option (Bool) :=
 Qfk p0 18>>=fun x1 =>
 Qh8 x1>>=fun x2 =>
 ( Qoq x1>>=fun x4 =>
  Qk9 x2 x4>>=fun x5 =>
  if(!x5) then
   some true
  else
   Qge x1 p1>>=fun x6 =>
   Qor x1 p1>>=fun x7 =>
   Qk9 x6 x7>>=fun x8 =>
   some (!x8):Option (Bool))>>=fun o3 =>
 if o3 then
  some false
 else
  (Qay x1 x2 0)>>=fun o9 =>
  match o9 with
  | .inl y10 =>
   Qkx x1>>=fun x19 =>
   ( if(x19.2 != 0) then
     Qc4>>=fun x21 =>
     some x21
    else
     if((x2.length:Int)==(x1.length:Int)) then
      Qc4>>=fun x22 =>
      some x22
     else
      some false:Option (Bool))>>=fun o20 =>
   some o20
  | .inr y11 =>
   some false
theorem Qkz:∀ (p0:(List Qac)) (p1:(List UInt8)) (o:Bool),Qb0 p0 p1=some o→PCall Tryz.prog 4 [.sl false (p0.map Qaf),sV p1] (Qcd o):=by
 intro p0 p1 o h
 unfold Qb0 at h
 refine PCall.ofB mixed tbOk Qdg Tryz.func4 rfl (by kernel_rfl) (Nat.le_of_ble_eq_true rfl) ?_
 refine Qah [.sl false (p0.map Qaf),iV 18] Qh6 h (fun x1 hy=>(Qro p0 18 x1 hy)) (fun x1 hy h=>?_)
 refine Qah [.sl false (x1.map Qaf)] Qg4 h (fun x2 hy=>(Qp0 x1 x2 hy)) (fun x2 hy h=>?_)
 refine Qag h (fun o3 ho hk=>?_)
 refine Exists.intro (JP1 _ _ o3 .normal (Qjp x1 x2)) (And.intro ?_ (join1 ?_))
 ·have h:=ho
  refine Qah [.sl false (x1.map Qaf)] Qmq h (fun x4 hy=>(Q2o x1 x4 hy)) (fun x4 hy h=>?_)
  refine Qah [.sl false (x2.map cStr),.sl false (x4.map cStr)] Qgi h (fun x5 hy=>(Qmz x2 x4 x5 hy)) (fun x5 hy h=>?_)
  refine Qae h (fun hb h=>?_) (fun hb h=>?_)
  ·refine JP1.a h ?_
   exact Le.tz 0 0 rfl rfl rfl
  ·refine Qah [.sl false (x1.map Qaf),sV p1] Qeg h (fun x6 hy=>(Ql1 x1 p1 x6 hy)) (fun x6 hy h=>?_)
   refine Qah [.sl false (x1.map Qaf),sV p1] Qmr h (fun x7 hy=>(Q2p x1 p1 x7 hy)) (fun x7 hy h=>?_)
   refine Qah [.sl false (x6.map cStr),.sl false (x7.map cStr)] Qgi h (fun x8 hy=>(Qmz x6 x7 x8 hy)) (fun x8 hy h=>?_)
   refine JP1.a h ?_
   exact Le.tz 0 0 rfl rfl rfl
 ·have h:=hk
  refine Qae h (fun hb h=>?_) (fun hb h=>?_)
  ·refine Qal (t:=Qcd) h ?_
   exact .refl _
  ·refine Qag h (fun o9 ho hk=>?_)
   refine Exists.intro (JP2 _ _ o9 (.exit 0) (Qck x1 x2) .ret (Qcl x1 x2)) (And.intro (T_le (τ := Qbw x1 x2 0) ?_ (TL.loop (Qjf x1 x2 0 o9 ho))) (join2 (fun y10 hy=>?_) (fun y11 hy=>?_)))
   ·exact Le.tz 0 0 rfl rfl rfl
   ·have h:=(by rw[hy] at hk; exact hk)
    refine Qah [.sl false (x1.map Qaf)] Qef h (fun x19 hy=>(Qop x1 x19 hy)) (fun x19 hy h=>?_)
    refine Qag h (fun o20 ho hk=>?_)
    refine Exists.intro (JP1 _ _ o20 .normal (Qjq )) (And.intro ?_ (join1 ?_))
    ·have h:=ho
     refine Qae h (fun hb h=>?_) (fun hb h=>?_)
     ·refine bT ?_
      refine Qah [] Qej h (fun x21 hy=>(Qjk x21 hy)) (fun x21 hy h=>?_)
      refine JP1.a h ?_
      exact Le.tz 0 0 rfl rfl rfl
     ·refine view (lenMap _ _) rfl ?_
      refine view (lenMap _ _) rfl ?_
      refine Qae h (fun hb h=>?_) (fun hb h=>?_)
      ·refine Qah [] Qej h (fun x22 hy=>(Qjk x22 hy)) (fun x22 hy h=>?_)
       refine JP1.a h ?_
       exact Le.tz 0 0 rfl rfl rfl
      ·refine JP1.a h ?_
       exact Le.tz 0 0 rfl rfl rfl
    ·have h:=hk
     refine Qal (t:=Qcd) h ?_
     exact .refl _
   ·have h:=(by rw[hy] at hk; exact hk)
    refine Qal (t:=Qcd) h ?_
    exact .refl _
end Go.Proofs.YtfgegilhjlnohaaGreat
end

section
namespace Go.Proofs.YtfgegilhjlnohaaGreat
open Go.RowKit
mutual
def nn:Qab→Nat
 | ⟨_,_,_,_,a,b,c⟩=>1+nns a+nns b+nns c
def nns:List Qab→Nat
 | []=>0
 | x::r=>nn x+nns r
end
mutual
def dp:Qab→Nat
 | ⟨_,_,_,_,a,b,c⟩=>1+max (dps a) (max (dps b) (dps c))
def dps:List Qab→Nat
 | []=>0
 | x::r=>max (dp x) (dps r)
end
mutual
def sm:Qab→Prop
 | ⟨_,s,t,_,a,b,c⟩=>s.length≤40∧t.length≤60∧sms a∧sms b∧sms c
def sms:List Qab→Prop
 | []=>True
 | x::r=>sm x∧sms r
end
theorem nn_eq (x:Qab):nn x=1+nns x.L+nns x.Then+nns x.Else:=by cases x; rw[nn]
theorem dp_eq (x:Qab):dp x=1+max (dps x.L) (max (dps x.Then) (dps x.Else)):=by cases x; rw[dp]
theorem sm_eq (x:Qab):sm x↔(x.Name.length≤40∧x.Text.length≤60∧sms x.L∧sms x.Then∧sms x.Else):=by cases x; rw[sm]
theorem Qrp (x:Qab):1≤nn x:=by rw[nn_eq]; omega
theorem Qhk:∀ l:List Qab,l.length≤nns l
 | []=>by simp[nns]
 | x::r=>by have:=Qhk r; have:=Qrp x; simp[nns]; omega
theorem Qjg:∀ {l:List Qab} {x:Qab},x ∈ l→nn x≤nns l
 | y::r,x,h=>by
  rcases List.mem_cons.1 h with rfl | h
  ·simp[nns]
  ·have:=Qjg h; simp[nns]; omega
def lightG (g:List Qab→Nat→List Qab×Nat):List Qab→Nat→List Qab×Nat
 | [],n=>([],n)
 | x::r,n=>if n=0 then([],0) else
  (⟨x.Kind,x.Name.take 40,x.Text.take 60,x.N,(g x.L (n-1)).1,(g x.Then (g x.L (n-1)).2).1,(g x.Else (g x.Then (g x.L (n-1)).2).2).1⟩ ::
   (lightG g r (g x.Else (g x.Then (g x.L (n-1)).2).2).2).1,(lightG g r (g x.Else (g x.Then (g x.L (n-1)).2).2).2).2)
def lightP:Nat→List Qab→Nat→List Qab×Nat
 | 0,_,n=>([],n)
 | d+1,l,n=>lightG (lightP d) l n
def LG (d:Nat) (g:List Qab→Nat→List Qab×Nat):Prop:=∀ (l:List Qab) (n:Nat),nns (g l n).1+(g l n).2=n∧dps (g l n).1≤d∧sms (g l n).1
theorem Q7t {d:Nat} {g:List Qab→Nat→List Qab×Nat} (hg:LG d g):LG (d+1) (lightG g):=fun l=>by
 induction l with
 | nil=>intro n; simp[lightG,nns,dps,sms]
 | cons x r ih =>
  intro n
  unfold lightG
  split
  ·subst_vars; simp[nns,dps,sms]
  ·obtain⟨a1,a2,a3⟩:=hg x.L (n-1)
   obtain⟨b1,b2,b3⟩:=hg x.Then (g x.L (n-1)).2
   obtain⟨c1,c2,c3⟩:=hg x.Else (g x.Then (g x.L (n-1)).2).2
   obtain⟨d1,d2,d3⟩:=ih (g x.Else (g x.Then (g x.L (n-1)).2).2).2
   simp only[nns,nn_eq,dps,dp_eq,sms,sm_eq]
   refine⟨by omega,by omega,⟨?_,?_,a3,b3,c3⟩,d3⟩
   ·simp; omega
   ·simp; omega
theorem Qmh:∀ d,LG d (lightP d)
 | 0=>fun l n=>by simp[lightP,nns,dps,sms]
 | d+1=>Q7t (Qmh d)
theorem takeMin {l:List UInt8} {k:Nat}:(l.take (if(k:Int)<(l.length:Int) then(k:Int) else(l.length:Int)).toNat).drop (0:Int).toNat=l.take k:=by
 split
 ·simp
 ·simp
  rw[List.take_of_length_le (by omega)]
theorem cutMin (l:List UInt8) (k:Nat):cutL l 0 (if(k:Int)<(l.length:Int) then(k:Int) else(l.length:Int))=some (l.take k):=by
 rw[Qld (by omega) (by split<;>omega) (by split<;>omega),takeMin]
def LIs (g:List Qab→Nat→List Qab×Nat) (f:List Qab→Int→Option (List Qab×Int)):Prop:=∀ (l:List Qab) (n:Nat),n≤100→f l n=some ((g l n).1,((g l n).2:Int))
theorem Q8x {d:Nat} (hd:d+1≤15) (hf:LIs (lightP d) (fun l n=>Qa4 l d n)) (l:List Qab):∀ k,k≤l.length→∀ (n:Nat) (acc:List Qab),acc.length=k→k+n≤100 →
  Qbr l ((d+1:Nat):Int) n acc k=some (((lightG (lightP d) (l.drop k) n).2:Int),acc++(lightG (lightP d) (l.drop k) n).1):=by
 refine upto ?_ fun k hk ih=>?_
 ·intro n acc _ _
  rw[Qbr]
  simp[lightG]
 ·intro n acc ha hn
  rw[Qbr,dropE hk]
  have h40:=cutMin (l[k].Name) 40
  have h60:=cutMin (l[k].Text) 60
  simp only[ltI,hk,decide_true,if_true]
  by_cases h0:n=0
  ·subst h0
   simp[lightG]
  ·have e1:wr (((d+1:Nat):Int)-1)=d:=by rw[wr_in (by omega) (by omega)]; omega
   have e2:wr ((n:Int)-1)=((n-1:Nat):Int):=by rw[wr_in (by omega) (by omega)]; omega
   have hpos:decide ((n:Int)>0)=true:=decide_eq_true (by omega)
   have hpos2:decide (((d+1:Nat):Int)>0)=true:=decide_eq_true (by omega)
   simp only[hpos,hpos2,if_true,Qad,Qav,getE hk,e1,e2]
   rw[show(40:Int)=((40:Nat):Int) from rfl,h40,Qad,show(60:Int)=((60:Nat):Int) from rfl,h60,Qad]
   obtain⟨a1,-,-⟩:=Qmh d l[k].L (n-1)
   have f1:=hf l[k].L (n-1) (by omega)
   obtain⟨b1,-,-⟩:=Qmh d l[k].Then (lightP d l[k].L (n-1)).2
   have f2:=hf l[k].Then (lightP d l[k].L (n-1)).2 (by omega)
   obtain⟨c1,-,-⟩:=Qmh d l[k].Else (lightP d l[k].Then (lightP d l[k].L (n-1)).2).2
   have f3:=hf l[k].Else (lightP d l[k].Then (lightP d l[k].L (n-1)).2).2 (by omega)
   simp only at f1 f2 f3
   simp only[f1,f2,f3,Qad]
   rw[Qgt (by simp; omega) (by simp; omega),Qad,Qaq (by omega)]
   rw[ih _ _ (by simp[ha]) (by omega),lightG,if_neg h0]
   simp
theorem Q5f:∀ d,d≤15→LIs (lightP d) (fun l n=>Qa4 l (d:Nat) n)
 | 0,_=>fun l n hn=>by
  have h0:decide (((0:Nat):Int)>0)=false:=rfl
  show Qa4 l ((0:Nat):Int) n=_
  rw[Qa4,Qbr]
  simp only[h0,Qad]
  have e:∀ b c:Bool,(if b=true then if c=true then some false else some false else some false:Option Bool)=some false:=fun b c=>by cases b<;>cases c<;>rfl
  rw[e]
  rfl
 | d+1,h=>fun l n hn=>by
  have:=Q8x h (Q5f d (by omega)) l 0 (by omega) n [] rfl (by omega)
  show Qa4 l ((d+1:Nat):Int) n=_
  rw[Qa4]
  rw[show((0:Nat):Int)=0 from rfl] at this
  rw[this]
  simp[lightP]
section
end
section
end
end Go.Proofs.YtfgegilhjlnohaaGreat
end

section
namespace Go.Proofs.YtfgegilhjlnohaaGreat
open Go.RowKit
def smallB (c:UInt8):Bool:=decide (97≤c.toNat)&&decide (c.toNat≤122)
def digB (c:UInt8):Bool:=decide (48≤c.toNat)&&decide (c.toNat≤57)
def letB (c:UInt8):Bool:=smallB c||(digB c||c.toNat==95)
def headB:List UInt8→Bool
 | []=>false
 | c::_=>decide (97≤c.toNat)
theorem Qyc (c:UInt8) (r:List UInt8):headB (c::r)=decide (97≤c.toNat):=rfl
def wordP (s:List UInt8):Bool := !(s==[])&&(decide (s.length≤32)&&(headB s&&s.all letB))
theorem geN (n k:Nat):decide ((n:Int) ≥ (k:Int))=decide (k≤n):=by
 by_cases h:k≤n
 ·rw[decide_eq_true h,decide_eq_true (by omega:(n:Int) ≥ k)]
 ·rw[decide_eq_false h,decide_eq_false (by omega)]
theorem leN (n k:Nat):decide ((n:Int)≤(k:Int))=decide (n≤k):=by
 by_cases h:n≤k
 ·rw[decide_eq_true h,decide_eq_true (by omega:(n:Int)≤k)]
 ·rw[decide_eq_false h,decide_eq_false (by omega)]
theorem eqN (n k:Nat):((n:Int)==(k:Int))=(n==k):=by
 by_cases h:n=k
 ·subst h; simp
 ·rw[beq_eq_false_iff_ne.2 h,beq_eq_false_iff_ne.2 (by omega)]
theorem lDigit (c:UInt8):Qme (c.toNat:Int)=some (digB c):=by
 have a:=geN c.toNat 48
 have b:=leN c.toNat 57
 rw[Qme]
 rw[show(48:Int)=((48:Nat):Int) from rfl,show(57:Int)=((57:Nat):Int) from rfl,a,b,digB]
 cases decide (48≤c.toNat)<;>rfl
theorem rDigit (c:UInt8):Qon (c.toNat:Int)=some (digB c):=by
 have a:=geN c.toNat 48
 have b:=leN c.toNat 57
 rw[Qon]
 rw[show(48:Int)=((48:Nat):Int) from rfl,show(57:Int)=((57:Nat):Int) from rfl,a,b,digB]
 cases decide (48≤c.toNat)<;>rfl
theorem rSmall (c:UInt8):Qma (c.toNat:Int)=some (smallB c):=by
 have a:=geN c.toNat 97
 have b:=leN c.toNat 122
 rw[Qma]
 rw[show(97:Int)=((97:Nat):Int) from rfl,show(122:Int)=((122:Nat):Int) from rfl,a,b,smallB]
 cases decide (97≤c.toNat)<;>rfl
theorem lLetter (c:UInt8):Qmf (c.toNat:Int)=some (letB c):=by
 have a:=geN c.toNat 97
 have b:=leN c.toNat 122
 have d:=eqN c.toNat 95
 rw[Qmf,lDigit]
 rw[show(97:Int)=((97:Nat):Int) from rfl,show(122:Int)=((122:Nat):Int) from rfl,show(95:Int)=((95:Nat):Int) from rfl,a,b,d,letB,smallB]
 simp only[Qad]
 cases decide (97≤c.toNat)<;>cases decide (c.toNat≤122)<;>cases digB c<;>cases (c.toNat==95)<;>rfl
theorem lWordL (s:List UInt8) (hs:s.length<9223372036854775807):∀ k,k≤s.length→Qfh s k=some (if(s.drop k).all letB then .inl () else .inr ()):=by
 refine upto ?_ fun k hk ih=>?_
 ·rw[Qfh]; simp
 ·rw[Qfh,Qaq (by omega),ih]
  simp only[ltI,hk,decide_true,if_true,Qav,getE hk,Qad,lLetter]
  rw[dropE hk,List.all_cons]
  cases letB s[k]<;>rfl
theorem lWord (s:List UInt8) (hs:s.length<9223372036854775807):Qm4 s=some (wordP s):=by
 have h:=lWordL s hs 0 (by omega)
 rw[Qm4,show(0:Int)=((0:Nat):Int) from rfl,h,List.drop_zero,wordP]
 have e:=leN s.length 32
 rw[show(32:Int)=((32:Nat):Int) from rfl,e]
 cases ha:s.all letB with
 | false=>cases (s==[])<;>cases decide (s.length≤32)<;>cases headB s<;>rfl
 | true =>
  cases s with
  | nil=>rfl
  | cons c r =>
   have g:=geN c.toNat 97
   rw[show(97:Int)=((97:Nat):Int) from rfl]
   simp only[if_true,Qad,Qav,List.getElem?_cons_zero,g,Qyc]
   have e0:((c::r)==([]:List UInt8))=false:=rfl
   rw[e0]
   cases decide ((c::r).length≤32)<;>simp
theorem letSmall {c:UInt8} (h:letB c=true):smallB c=decide (97≤c.toNat):=by
 unfold letB smallB digB at *
 by_cases h1:97≤c.toNat
 ·rw[decide_eq_true h1] at h ⊢
  simp at h ⊢
  omega
 ·rw[decide_eq_false h1]; rfl
theorem rWordL (s:List UInt8) (hs:s.length<9223372036854775807):∀ k,k≤s.length→Qfa s k=some (if(s.drop k).all letB then .inl () else .inr ()):=by
 refine upto ?_ fun k hk ih=>?_
 ·rw[Qfa]; simp
 ·have d:=eqN s[k].toNat 95
  rw[Qfa,Qaq (by omega),ih]
  simp only[ltI,hk,decide_true,if_true,Qav,getE hk,Qad,rSmall,rDigit]
  rw[dropE hk,List.all_cons,letB]
  have e:(((s[k].toNat:Nat):Int) != 95) = !(s[k].toNat==95):=by rw[← d]; rfl
  rw[e]
  cases smallB s[k]<;>cases digB s[k]<;>cases (s[k].toNat==95)<;>rfl
theorem rWord (s:List UInt8) (hs:s.length<9223372036854775807):Qm1 s=some (wordP s):=by
 have h:=rWordL s hs 0 (by omega)
 rw[Qm1,show(0:Int)=((0:Nat):Int) from rfl,h,List.drop_zero,wordP]
 cases s with
 | nil=>rfl
 | cons c r =>
  have e1:decide ((((c::r).length:Nat):Int)<1)=false:=decide_eq_false (by simp; omega)
  have e2:decide ((((c::r).length:Nat):Int)>32) = !(decide ((c::r).length≤32)):=by
   by_cases h:(c::r).length≤32
   ·rw[decide_eq_true h,decide_eq_false (by omega)]; rfl
   ·rw[decide_eq_false h,decide_eq_true (by omega)]; rfl
  simp only[e1,e2,Bool.false_eq_true,if_false,Qav,List.getElem?_cons_zero,Qad,rSmall,Qyc]
  have e0:((c::r)==([]:List UInt8))=false:=rfl
  rw[e0]
  cases ha:(c::r).all letB with
  | true =>
   have hl:letB c=true:=by rw[List.all_cons,Bool.and_eq_true] at ha; exact ha.1
   rw[letSmall hl]
   cases decide ((c::r).length≤32)<;>cases decide (97≤c.toNat)<;>rfl
  | false=>cases decide ((c::r).length≤32)<;>cases decide (97≤c.toNat)<;>cases smallB c<;>rfl
theorem Q7u (a b:List UInt8):s2b (a++b)=s2b a++s2b b:=by simp[s2b]
theorem Qv2 (a:List UInt8):(s2b a).length=a.length:=by simp[s2b]
theorem Q9t (l:List UInt8):b2s (s2b l)=some l:=by
 unfold b2s s2b
 rw[if_pos]
 ·rw[List.map_map]
  congr 1
  have:∀ c:UInt8,((fun n:Int=>UInt8.ofNat n.toNat) ∘ fun c:UInt8=>(c.toNat:Int)) c=c:=fun c=>by simp
  rw[show((fun n:Int=>UInt8.ofNat n.toNat) ∘ fun c:UInt8=>(c.toNat:Int))=id from funext this,List.map_id]
 ·rw[List.all_eq_true]
  intro n hn
  obtain⟨c,-,rfl⟩:=List.mem_map.1 hn
  have:=c.toNat_lt
  simp only[decide_eq_true_eq]
  omega
end Go.Proofs.YtfgegilhjlnohaaGreat
end

section
namespace Go.Proofs.YtfgegilhjlnohaaGreat
open Go.RowKit
def kws:List (List UInt8):=[[105,102],[101,108,115,101],[101,110,100],[101,97,99,104],[105,110],[108,101,116],[117,115,101],[116,114,117,101],[102,97,108,115,101],[115,101,99,114,101,116]]
def nameP (s:List UInt8):Bool := !(kws.any (· == s))&&wordP s
theorem tName (s:List UInt8) (hs:s.length<9223372036854775807):Qhg s=some (nameP s):=by
 have c:∀ a:List UInt8,(a==s)=(s==a):=fun a=>by rw[Bool.beq_comm]
 rw[Qhg,lWord s hs,nameP]
 simp only[kws,List.any_cons,List.any_nil,c]
 generalize (s==[105,102])=a1
 generalize (s==[101,108,115,101])=a2
 generalize (s==[101,110,100])=a3
 generalize (s==[101,97,99,104])=a4
 generalize (s==[105,110])=a5
 generalize (s==[108,101,116])=a6
 generalize (s==[117,115,101])=a7
 generalize (s==[116,114,117,101])=a8
 generalize (s==[102,97,108,115,101])=a9
 generalize (s==[115,101,99,114,101,116])=a10
 generalize wordP s=b
 cases a1
 ·cases a2
  ·cases a3
   ·cases a4
    ·cases a5
     ·cases a6
      ·cases a7
       ·cases a8
        ·cases a9
         ·cases a10<;>cases b<;>rfl
         ·rfl
        ·rfl
       ·rfl
      ·rfl
     ·rfl
    ·rfl
   ·rfl
  ·rfl
 ·rfl
theorem rNameL (s:List UInt8) (l:List (List UInt8)) (hl:l.length<9223372036854775807):∀ k,k≤l.length→Qek s l k=some (if(l.drop k).any (· == s) then .inr () else .inl ()):=by
 refine upto ?_ fun k hk ih=>?_
 ·rw[Qek]; simp
 ·rw[Qek,Qaq (by omega),ih]
  simp only[ltI,hk,decide_true,if_true,Qav,getE hk,Qad]
  rw[dropE hk,List.any_cons]
  cases (l[k]==s)<;>rfl
theorem rName (s:List UInt8) (hs:s.length<9223372036854775807):Qjr s=some (nameP s):=by
 have h:=rNameL s kws (by decide) 0 (by omega)
 rw[Qjr,Qra]
 simp only[Qad,rWord s hs]
 rw[show(0:Int)=((0:Nat):Int) from rfl]
 show(Qek s kws _>>=_)=_
 rw[h,List.drop_zero,nameP]
 cases kws.any (· == s)<;>rfl
theorem Qv3 {s:List UInt8} (h:wordP s=true):(s==[])=false:=by
 unfold wordP at h
 cases hs:(s==[]) with
 | false=>rfl
 | true=>rw[hs] at h; cases h
theorem Qox {s:List UInt8} (h:nameP s=true):wordP s=true:=by
 unfold nameP at h
 cases hw:wordP s with
 | true=>rfl
 | false=>rw[hw] at h; simp at h
def hasB:List UInt8→Bool
 | []=>false
 | c::r=>(c==123&&r.head? == some 123)||hasB r
theorem pre2 (l:List UInt8):([123,123]:List UInt8).isPrefixOf l=(match l with | []=>false | c::r=>c==123&&r.head? == some 123):=by
 match l with
 | []=>rfl
 | [c]=>simp[List.isPrefixOf]
 | c::d::r =>
  simp only[List.isPrefixOf,List.head?_cons]
  have e1:(123==c)=(c==123):=Bool.beq_comm
  have e2:(123==d)=(d==123):=Bool.beq_comm
  rw[e1,e2]
  cases (c==123)<;>cases hd:(d==123)<;>simp_all
theorem Q2w:∀ l:List UInt8,decide (Lib.index l [123,123] ≥ 0)=hasB l
 | []=>rfl
 | c::r=>by
  have ih:=Q2w r
  have hg:=Lib.index_ge r [123,123]
  have hp2:([123,123]:List UInt8).isPrefixOf (c::r)=(c==123&&r.head? == some 123):=pre2 (c::r)
  unfold Lib.index
  rw[hp2,hasB]
  generalize (c==123&&r.head? == some 123)=b
  cases b with
  | true=>rfl
  | false =>
   simp only[Bool.false_or]
   by_cases h1:Lib.index r [123,123] = -1
   ·rw[h1] at ih ⊢
    rw[← ih]; rfl
   ·rw[if_neg (by decide),if_neg (by simpa using h1),← ih,decide_eq_true (by omega),decide_eq_true (by omega)]
theorem tHas (s:List UInt8) (hs:s.length<4294967281):strings_Contains s [123,123]=some (hasB s):=by
 rw[strings_Contains,strings_Index,Qb5,Qhq hs]
 simp only[Qad,Q2w]
theorem rBegins (s:List UInt8) (k:Nat) (hk:k<s.length) (hs:s.length<4294967281):Ql8 s [123,123] k=some (match s.drop k with | []=>false | c::r=>c==123&&r.head? == some 123):=by
 have e1:decide ((k:Int) ≥ 0)=true:=decide_eq_true (by omega)
 have e2:decide ((k:Int)≤(s.length:Int))=true:=decide_eq_true (by omega)
 have e3:wr ((s.length:Int)-k)=((s.length-k:Nat):Int):=by rw[wr_in (by omega) (by omega)]; omega
 have e4:wr ((k:Int)+(([123,123]:List UInt8).length:Int))=((k+2:Nat):Int):=by rw[wr_in (by simp; omega) (by simp; omega)]; simp
 rw[Ql8,e1,e2,e3,e4]
 simp only[if_true]
 by_cases h2:2≤s.length-k
 ·have e5:decide (((([123,123]:List UInt8).length:Nat):Int)≤((s.length-k:Nat):Int))=true:=decide_eq_true (by simp; omega)
  rw[e5,Qld (by omega) (by omega) (by omega)]
  simp only[if_true,Qad]
  have hk1:k+1<s.length:=by omega
  have e6:(s.take (k+2)).drop k=[s[k],s[k+1]]:=by
   apply List.ext_getElem
   ·simp; omega
   ·intro i h1 h2
    simp at h1 h2
    match i,h2 with
    | 0,_=>simp
    | 1,_=>simp
  rw[Int.toNat_natCast,Int.toNat_natCast,e6,dropE hk,dropE hk1]
  simp only[List.head?_cons]
  have:(([s[k],s[k+1]]:List UInt8)==[123,123])=(s[k]==123&&(some s[k+1]==some 123)):=by
   have e:(some s[k+1]==some (123:UInt8))=(s[k+1]==123):=rfl
   rw[e,List.cons_beq_cons,List.cons_beq_cons]
   show(s[k]==123&&(s[k+1]==123&&true))=_
   rw[Bool.and_true]
  rw[this]
 ·have e5:decide (((([123,123]:List UInt8).length:Nat):Int)≤((s.length-k:Nat):Int))=false:=decide_eq_false (by simp; omega)
  rw[e5,dropE hk]
  have:s.drop (k+1)=[]:=List.drop_eq_nil_of_le (by omega)
  rw[this]
  simp
theorem rStandsL (s:List UInt8) (hs:s.length<4294967281):∀ k,k≤s.length→Qdo s [123,123] k=some (if hasB (s.drop k) then .inr () else .inl ()):=by
 refine upto ?_ fun k hk ih=>?_
 ·rw[Qdo]; simp[hasB]
 ·rw[Qdo,Qaq (by omega),ih,rBegins s k hk hs]
  simp only[ltI,hk,decide_true,if_true,Qad]
  rw[dropE hk,hasB]
  show(if(s[k]==123&&(s.drop (k+1)).head? == some 123)=true then _ else _)=_
  generalize (s[k]==123&&(s.drop (k+1)).head? == some 123)=b
  cases b<;>rfl
theorem rStands (s:List UInt8) (hs:s.length<4294967281):Qmb s [123,123]=some (hasB s):=by
 have h:=rStandsL s hs 0 (by omega)
 rw[Qmb,show(0:Int)=((0:Nat):Int) from rfl,h,List.drop_zero]
 cases hasB s<;>rfl
def endB (s:List UInt8):Bool:=s.getLast? == some 123
theorem tEnd (s:List UInt8) (hs:s.length<4294967281):strings_HasSuffix s [123]=some (endB s):=by
 rw[strings_HasSuffix,Qbs,endB]
 cases hl:s.getLast? with
 | none =>
  have:s=[]:=List.getLast?_eq_none_iff.1 hl
  subst this
  rfl
 | some c =>
  have hne:s≠[]:=fun h=>by subst h; cases hl
  have hpos:0<s.length:=List.length_pos_iff.2 hne
  have e1:decide ((s.length:Int) ≥ ((([123]:List UInt8).length:Nat):Int))=true:=decide_eq_true (by simp; omega)
  have e2:wr ((s.length:Int)-((([123]:List UInt8).length:Nat):Int))=((s.length-1:Nat):Int):=by rw[wr_in (by simp; omega) (by simp; omega)]; simp; omega
  rw[e1,e2,Qld (by omega) (by omega) (by omega)]
  simp only[if_true,Qad,Int.toNat_natCast,List.take_length]
  have e3:s.drop (s.length-1)=[c]:=by
   have h1:s.length-1<s.length:=by omega
   rw[dropE h1,List.drop_eq_nil_of_le (by omega)]
   rw[List.getLast?_eq_getElem?,getE h1] at hl
   cases hl; rfl
  rw[e3]
  simp
theorem rEnd (s:List UInt8) (hs:s.length<4294967281) (hne:(s==[])=false):(idx s (wr ((s.length:Int)-1))>>=fun x=>some ((x.toNat:Int)==123))=some (endB s):=by
 have hne:s≠[]:=fun h=>by subst h; cases hne
 have hpos:0<s.length:=List.length_pos_iff.2 hne
 have e2:wr ((s.length:Int)-1)=((s.length-1:Nat):Int):=by rw[wr_in (by omega) (by omega)]; omega
 have h1:s.length-1<s.length:=by omega
 rw[e2,Qav,getE h1,Qad,endB,List.getLast?_eq_getElem?,getE h1]
 have d:=eqN s[s.length-1].toNat 123
 rw[show(123:Int)=((123:Nat):Int) from rfl,d]
 congr 1
 by_cases h:s[s.length-1]=123
 ·rw[h]; rfl
 ·have:s[s.length-1].toNat≠123:=fun e=>h (UInt8.toNat_inj.1 (by rw[e]; rfl))
  rw[beq_eq_false_iff_ne.2 this]
  symm
  rw[beq_eq_false_iff_ne]
  intro e; exact h (Option.some.inj e)
end Go.Proofs.YtfgegilhjlnohaaGreat
end

section
namespace Go.Proofs.YtfgegilhjlnohaaGreat
open Go.RowKit
mutual
def allN (Q:Qab→Prop):Qab→Prop
 | ⟨k,s,t,n,a,b,c⟩=>Q ⟨k,s,t,n,a,b,c⟩∧allL Q a∧allL Q b∧allL Q c
def allL (Q:Qab→Prop):List Qab→Prop
 | []=>True
 | x::r=>allN Q x∧allL Q r
end
theorem Qjh (Q:Qab→Prop) (x:Qab):allN Q x↔(Q x∧allL Q x.L∧allL Q x.Then∧allL Q x.Else):=by cases x; rw[allN]
theorem Qm8 {Q:Qab→Prop}:∀ {l:List Qab} {x:Qab},x ∈ l→allL Q l→allN Q x
 | y::r,x,h,hs=>by
  rw[allL] at hs
  rcases List.mem_cons.1 h with rfl | h
  ·exact hs.1
  ·exact Qm8 h hs.2
theorem Q9u {R Q:Qab→Prop} (h:∀ x:Qab,x.Name.length≤40→x.Text.length≤60→R x→Q x):∀ n (l:List Qab),nns l≤n→sms l→allL R l→allL Q l:=by
 intro n
 induction n with
 | zero=>intro l hn _; cases l with
  | nil=>intro _; rw[allL]; trivial
  | cons x r=>have:=Qrp x; simp[nns] at hn; omega
 | succ n ih =>
  intro l
  induction l with
  | nil=>intro _ _ _; rw[allL]; trivial
  | cons x r ihr =>
   intro hn hs hr
   rw[nns,nn_eq] at hn
   rw[sms,sm_eq] at hs
   obtain⟨⟨h1,h2,h3,h4,h5⟩,h6⟩:=hs
   rw[allL,Qjh] at hr ⊢
   obtain⟨⟨g1,g2,g3,g4⟩,g5⟩:=hr
   exact⟨⟨h x h1 h2 g1,ih _ (by omega) h3 g2,ih _ (by omega) h4 g3,ih _ (by omega) h5 g4⟩,ihr (by omega) h6 g5⟩
structure okNd (x:Qab):Prop where
 nm:x.Name.length≤1000000
 tx:x.Text.length≤1000000
 rg : -9223372036854775808≤x.N∧x.N≤9223372036854775807
 qt:x.Kind=1→∃ q,Qiy x.Text=some q∧Qkt x.Text=some q
noncomputable def quoteP (s:List UInt8):List UInt8×Bool:=(Qiy s).getD ([],false)
def zl (l:List Qab):Bool:=l.length==0
mutual
noncomputable def exprP:Qab→Bool
 | ⟨k,s,t,n,a,b,c⟩ =>
  if k==1 then(quoteP t).2&&(s==[]&&(n==0&&(zl a&&(zl b&&zl c)))) else
  if k==2 then s==[]&&(t==[]&&(zl a&&(zl b&&zl c))) else
  if k==3 then(n==0||n==1)&&(s==[]&&(t==[]&&(zl a&&(zl b&&zl c)))) else
  if k==4 then nameP s&&(t==[]&&(n==0&&(zl a&&(zl b&&zl c)))) else
  if k==5 then wordP s&&(a.length==1&&(exprsP a&&(t==[]&&(n==0&&(zl b&&zl c))))) else
  if k==6 then nameP s&&(decide (a.length≤3)&&(exprsP a&&(t==[]&&(n==0&&(zl b&&zl c))))) else
  if k==7 then wordP s&&(t==[]&&(n==0&&(zl a&&(zl b&&zl c)))) else false
noncomputable def exprsP:List Qab→Bool
 | []=>true
 | x::r=>exprP x&&exprsP r
end
theorem Q0m (x:Qab):exprP x =
  if x.Kind==1 then(quoteP x.Text).2&&(x.Name==[]&&(x.N==0&&(zl x.L&&(zl x.Then&&zl x.Else)))) else
  if x.Kind==2 then x.Name==[]&&(x.Text==[]&&(zl x.L&&(zl x.Then&&zl x.Else))) else
  if x.Kind==3 then(x.N==0||x.N==1)&&(x.Name==[]&&(x.Text==[]&&(zl x.L&&(zl x.Then&&zl x.Else)))) else
  if x.Kind==4 then nameP x.Name&&(x.Text==[]&&(x.N==0&&(zl x.L&&(zl x.Then&&zl x.Else)))) else
  if x.Kind==5 then wordP x.Name&&(x.L.length==1&&(exprsP x.L&&(x.Text==[]&&(x.N==0&&(zl x.Then&&zl x.Else))))) else
  if x.Kind==6 then nameP x.Name&&(decide (x.L.length≤3)&&(exprsP x.L&&(x.Text==[]&&(x.N==0&&(zl x.Then&&zl x.Else))))) else
  if x.Kind==7 then wordP x.Name&&(x.Text==[]&&(x.N==0&&(zl x.L&&(zl x.Then&&zl x.Else)))) else false:=by cases x; rw[exprP]
theorem zI (l:List Qab):((l.length:Int)==0)=zl l:=eqN l.length 0
theorem gI (l:List Qab):decide ((l.length:Int)>0) = !zl l:=by
 unfold zl
 by_cases h:l.length=0
 ·rw[h]; rfl
 ·rw[beq_eq_false_iff_ne.2 h,decide_eq_true (by omega)]; rfl
theorem oneI (l:List Qab):((l.length:Int)==1)=(l.length==1):=eqN l.length 1
theorem low1 (a:BitVec 64):a &&& ~~~1#64=0#64↔(a=0#64∨a=1#64):=by
 constructor
 ·intro h
  have hb:∀ i,0<i→a.getLsbD i=false:=fun i hi=>by
   have:=congrArg (fun x:BitVec 64=>x.getLsbD i) h
   simp only[BitVec.getLsbD_and,BitVec.getLsbD_not,BitVec.getLsbD_zero] at this
   by_cases h64:i<64
   ·have h1:(1#64).getLsbD i=false:=by simp[BitVec.getLsbD_one]; omega
    rw[h1] at this
    simpa [h64] using this
   ·exact BitVec.getLsbD_of_ge a i (by omega)
  cases h0:a.getLsbD 0 with
  | false =>
   left
   apply BitVec.eq_of_getLsbD_eq
   intro i _
   by_cases hi:i=0
   ·subst hi; rw[h0]; simp
   ·rw[hb i (by omega)]; simp
  | true =>
   right
   apply BitVec.eq_of_getLsbD_eq
   intro i _
   by_cases hi:i=0
   ·subst hi; rw[h0]; simp
   ·rw[hb i (by omega)]; simp[BitVec.getLsbD_one]; omega
 ·rintro (h | h)<;>subst h<;>decide
theorem ofI {n:Int} (h1 : -9223372036854775808≤n) (h2:n≤9223372036854775807) (m:Int) (h3:0≤m) (h4:m≤1):BitVec.ofInt 64 n=BitVec.ofInt 64 m↔n=m:=by
 constructor
 ·intro h
  have:=congrArg BitVec.toInt h
  rw[BitVec.toInt_ofInt,BitVec.toInt_ofInt,Int.bmod_def,Int.bmod_def] at this
  simp only[show(((2:Nat) ^ 64:Nat):Int)=18446744073709551616 from rfl] at this
  split at this<;>split at this<;>omega
 ·intro h; rw[h]
theorem wrap0 (m:Nat) (h:m<18446744073709551616):(IntKind.i64.wrap (m:Int)=0)↔m=0:=by
 rw[IntKind.wrap_i64]
 omega
theorem truthI (n:Int) (h1 : -9223372036854775808≤n) (h2:n≤9223372036854775807):((bits .andNot .i64 n 1)==0)=(n==0||n==1):=by
 have hw:=wrap0 (BitVec.ofInt 64 n &&& ~~~(BitVec.ofInt 64 1)).toNat (BitVec.isLt _)
 have e:bits .andNot .i64 n 1=IntKind.i64.wrap ((BitVec.ofInt 64 n &&& ~~~(BitVec.ofInt 64 1)).toNat:Int):=rfl
 have e2:(BitVec.ofInt 64 n &&& ~~~(BitVec.ofInt 64 1)).toNat=0↔(n=0∨n=1):=by
  have z:(BitVec.ofInt 64 n &&& ~~~(BitVec.ofInt 64 1)).toNat=0↔BitVec.ofInt 64 n &&& ~~~1#64=0#64:=by
   constructor
   ·intro h; exact BitVec.eq_of_toNat_eq h
   ·intro h; exact congrArg BitVec.toNat h
  rw[z,low1]
  have a0:=ofI h1 h2 0 (by omega) (by omega)
  have a1:=ofI h1 h2 1 (by omega) (by omega)
  rw[← a0,← a1]
  exact Iff.rfl
 rw[e2] at hw
 rw[e]
 by_cases h:n=0∨n=1
 ·rw[hw.2 h]
  rcases h with h | h<;>subst h<;>rfl
 ·have:¬ IntKind.i64.wrap ((BitVec.ofInt 64 n &&& ~~~(BitVec.ofInt 64 1)).toNat:Int)=0:=fun k=>h (hw.1 k)
  rw[beq_eq_false_iff_ne.2 this]
  simp only[not_or] at h
  rw[beq_eq_false_iff_ne.2 h.1,beq_eq_false_iff_ne.2 h.2]
  rfl
section
variable (n:Nat) (ih:∀ x:Qab,nn x≤n→allN okNd x→Qeo x=some (exprP x))
include ih
theorem tExprL (l:List Qab) (h:nns l≤n) (ho:allL okNd l) (hl:l.length<9223372036854775807):∀ k,k≤l.length→∃ r,Qan l k=some r ∧
  (match r with | .inl _=>exprsP (l.drop k)=true | .inr v=>0≤v∧exprsP (l.drop k)=false):=by
 refine upto ?_ fun k hk ihk=>?_
 ·rw[Qan]
  refine⟨.inl (),by simp,?_⟩
  simp[exprsP]
 ·have hx:=Qjg (List.getElem_mem hk)
  rw[Qan,Qaq (by omega)]
  simp only[ltI,hk,decide_true,if_true,Qav,getE hk,Qad,Qqf,ih l[k] (by omega) (Qm8 (List.getElem_mem hk) ho)]
  rw[dropE hk]
  simp only[exprsP]
  cases he:exprP l[k] with
  | true =>
   obtain⟨r,h1,h2⟩:=ihk
   refine⟨r,by simpa using h1,?_⟩
   simpa using h2
  | false=>exact⟨.inr k,by simp,by omega,rfl⟩
end
theorem tExpr:∀ n (x:Qab),n<1000000000→nn x≤n→allN okNd x→Qeo x=some (exprP x):=by
 intro n
 induction n with
 | zero=>intro x _ h; have:=Qrp x; omega
 | succ n ih =>
  intro x hb h ho
  rw[nn_eq] at h
  obtain⟨hq,ho1,-,-⟩:=(Qjh okNd x).1 ho
  have hnm:=hq.nm
  rw[Qeo,Qgp,Q0m,tName x.Name (by omega),lWord x.Name (by omega)]
  simp only[Qad,gI,truthI _ hq.rg.1 hq.rg.2]
  have e2:(x.N != 0) = !(x.N==0):=rfl
  have e3:((x.L.length:Int)==0)=zl x.L:=zI x.L
  have e4:((x.L.length:Int)==1)=(x.L.length==1):=oneI x.L
  simp only[e2,e3,e4]
  by_cases k1:x.Kind=1
  ·obtain⟨q,q1,q2⟩:=hq.qt k1
   simp only[k1,beq_self_eq_true,if_true,q1,Qad,quoteP,Option.getD_some]
   generalize (x.Name==[])=a1
   generalize (x.Text==[])=a2
   generalize (x.N==0)=a3
   generalize zl x.L=a4
   generalize zl x.Then=a5
   generalize zl x.Else=a6
   cases q.2<;>cases a1<;>cases a2<;>cases a3<;>cases a4<;>cases a5<;>cases a6<;>rfl
  by_cases k2:x.Kind=2
  ·simp only[k2,beq_self_eq_true,if_true,show((2:Int)==1)=false from rfl,Bool.false_eq_true,if_false]
   generalize (x.Name==[])=a1
   generalize (x.Text==[])=a2
   generalize (x.N==0)=a3
   generalize zl x.L=a4
   generalize zl x.Then=a5
   generalize zl x.Else=a6
   cases a1<;>cases a2<;>cases a3<;>cases a4<;>cases a5<;>cases a6<;>rfl
  by_cases k3:x.Kind=3
  ·simp only[k3,beq_self_eq_true,if_true,show((3:Int)==1)=false from rfl,show((3:Int)==2)=false from rfl,Bool.false_eq_true,if_false]
   generalize (x.N==0||x.N==1)=a0
   generalize (x.Name==[])=a1
   generalize (x.Text==[])=a2
   generalize (x.N==0)=a3
   generalize zl x.L=a4
   generalize zl x.Then=a5
   generalize zl x.Else=a6
   cases a0<;>cases a1<;>cases a2<;>cases a3<;>cases a4<;>cases a5<;>cases a6<;>rfl
  have nw:nameP x.Name=true→(x.Name==[])=false:=fun h=>Qv3 (Qox h)
  have ww:wordP x.Name=true→(x.Name==[])=false:=fun h=>Qv3 h
  by_cases k4:x.Kind=4
  ·simp only[k4,beq_self_eq_true,if_true,show((4:Int)==1)=false from rfl,show((4:Int)==2)=false from rfl,show((4:Int)==3)=false from rfl,Bool.false_eq_true,if_false]
   cases hn:nameP x.Name with
   | false=>rfl
   | true =>
    rw[nw hn]
    generalize (x.Text==[])=a2
    generalize (x.N==0)=a3
    generalize zl x.L=a4
    generalize zl x.Then=a5
    generalize zl x.Else=a6
    cases a2<;>cases a3<;>cases a4<;>cases a5<;>cases a6<;>rfl
  by_cases k7:x.Kind=7
  ·simp only[k7,beq_self_eq_true,if_true,show((7:Int)==1)=false from rfl,show((7:Int)==2)=false from rfl,show((7:Int)==3)=false from rfl,show((7:Int)==4)=false from rfl,show((7:Int)==5)=false from rfl,show((7:Int)==6)=false from rfl,Bool.false_eq_true,if_false]
   cases hn:wordP x.Name with
   | false=>rfl
   | true =>
    rw[ww hn]
    generalize (x.Text==[])=a2
    generalize (x.N==0)=a3
    generalize zl x.L=a4
    generalize zl x.Then=a5
    generalize zl x.Else=a6
    cases a2<;>cases a3<;>cases a4<;>cases a5<;>cases a6<;>rfl
  have b1:(x.Kind==1)=false:=beq_eq_false_iff_ne.2 k1
  have b2:(x.Kind==2)=false:=beq_eq_false_iff_ne.2 k2
  have b3:(x.Kind==3)=false:=beq_eq_false_iff_ne.2 k3
  have b4:(x.Kind==4)=false:=beq_eq_false_iff_ne.2 k4
  have b7:(x.Kind==7)=false:=beq_eq_false_iff_ne.2 k7
  simp only[b1,b2,b3,b4,b7,Bool.false_eq_true,if_false]
  by_cases k5:x.Kind=5
  ·simp only[k5,beq_self_eq_true,if_true]
   cases hn:wordP x.Name with
   | false=>rfl
   | true =>
    rw[ww hn]
    cases hl:(x.L.length==1) with
    | false =>
     generalize (x.Text==[])=a2
     generalize (x.N==0)=a3
     generalize zl x.Then=a5
     generalize zl x.Else=a6
     cases a2<;>cases a3<;>cases a5<;>cases a6<;>rfl
    | true =>
     have hl1:x.L.length=1:=by simpa using hl
     obtain⟨y,hy⟩:=List.length_eq_one_iff.1 hl1
     have hy1:nn y≤n:=by have:=Qjg (show y ∈ x.L by rw[hy]; simp); omega
     have hy2:allN okNd y:=Qm8 (show y ∈ x.L by rw[hy]; simp) ho1
     rw[hy]
     simp only[idx_0,List.getElem?_cons_zero,Qad,ih y (by omega) hy1 hy2,exprsP,Bool.and_true]
     generalize (x.Text==[])=a2
     generalize (x.N==0)=a3
     generalize zl x.Then=a5
     generalize zl x.Else=a6
     generalize exprP y=a7
     cases a2<;>cases a3<;>cases a5<;>cases a6<;>cases a7<;>rfl
  by_cases k6:x.Kind=6
  ·simp only[k6,beq_self_eq_true,if_true,show((6:Int)==5)=false from rfl,Bool.false_eq_true,if_false]
   cases hn:nameP x.Name with
   | false=>rfl
   | true =>
    rw[nw hn]
    have hmin:((x.L.length:Int)==(if 3<(x.L.length:Int) then 3 else(x.L.length:Int)))=decide (x.L.length≤3):=by
     by_cases h3:x.L.length≤3
     ·rw[if_neg (by omega),decide_eq_true h3]; simp
     ·rw[if_pos (by omega),decide_eq_false h3,beq_eq_false_iff_ne.2 (by omega)]
    rw[hmin]
    have hll:=Qhk x.L
    obtain⟨r,hr,hp⟩:=tExprL n (fun y=>ih y (by omega)) x.L (by omega) ho1 (by omega) 0 (by omega)
    rw[Qat,Qbb,show(0:Int)=((0:Nat):Int) from rfl,hr]
    rw[List.drop_zero] at hp
    cases r with
    | inl u =>
     simp only at hp
     rw[hp]
     generalize (x.Text==[])=a2
     generalize (x.N==((0:Nat):Int))=a3
     generalize zl x.Then=a5
     generalize zl x.Else=a6
     generalize decide (x.L.length≤3)=a7
     cases a2<;>cases a3<;>cases a5<;>cases a6<;>cases a7<;>rfl
    | inr v =>
     simp only at hp
     have hv:decide (v ≥ ((0:Nat):Int))=true:=decide_eq_true (by omega)
     simp only[hp.2,Qad,hv]
     generalize (x.Text==[])=a2
     generalize (x.N==((0:Nat):Int))=a3
     generalize zl x.Then=a5
     generalize zl x.Else=a6
     generalize decide (x.L.length≤3)=a7
     cases a2<;>cases a3<;>cases a5<;>cases a6<;>cases a7<;>rfl
  have b5:(x.Kind==5)=false:=beq_eq_false_iff_ne.2 k5
  have b6:(x.Kind==6)=false:=beq_eq_false_iff_ne.2 k6
  simp only[b5,b6,Bool.false_eq_true,if_false]
def bareB (x:Qab) (p1 p2 p3 p4 p5:Bool):Bool:=(p1||x.Name==[])&&((p2||x.Text==[])&&((p3||x.N==0)&&((p4||zl x.L)&&((p5||zl x.Then)&&(x.Kind==10||zl x.Else)))))
theorem rBare (x:Qab) (p1 p2 p3 p4 p5:Bool):Qdn x p1 p2 p3 p4 p5=some (bareB x p1 p2 p3 p4 p5):=by
 unfold Qdn bareB
 simp only[zI]
 generalize (x.Name==[])=a1
 generalize (x.Text==[])=a2
 generalize (x.N==0)=a3
 generalize zl x.L=a4
 generalize zl x.Then=a5
 generalize zl x.Else=a6
 generalize (x.Kind==10)=a7
 have e:∀ b:Bool,(if a7=true then some true else some b:Option Bool)=some (a7||b):=fun b=>by cases a7<;>rfl
 simp only[e]
 generalize (a7||a6)=a8
 cases p1<;>cases p2<;>cases p3<;>cases p4<;>cases p5<;>cases a1<;>(try rfl)<;>cases a2<;>(try rfl)<;>cases a3<;>(try rfl)<;>cases a4<;>(try rfl)<;>cases a5<;>rfl
section
variable (n:Nat) (ih:∀ x:Qab,nn x≤n→allN okNd x→Qo9 x=some (exprP x))
include ih
theorem rExprsL (l:List Qab) (h:nns l≤n) (ho:allL okNd l) (hl:l.length<9223372036854775807):∀ k,k≤l.length→Qgn l k=some (if exprsP (l.drop k) then .inl () else .inr ()):=by
 refine upto ?_ fun k hk ihk=>?_
 ·rw[Qgn]; simp[exprsP]
 ·have hx:=Qjg (List.getElem_mem hk)
  rw[Qgn,Qaq (by omega),ihk]
  simp only[ltI,hk,decide_true,if_true,Qav,getE hk,Qad,ih l[k] (by omega) (Qm8 (List.getElem_mem hk) ho)]
  rw[dropE hk,exprsP]
  cases exprP l[k]<;>rfl
theorem rExprs (l:List Qab) (h:nns l≤n) (ho:allL okNd l) (hl:l.length<9223372036854775807):Qkv l=some (exprsP l):=by
 have:=rExprsL n ih l h ho hl 0 (by omega)
 rw[Qkv,show(0:Int)=((0:Nat):Int) from rfl,this,List.drop_zero]
 cases exprsP l<;>rfl
end
theorem rExpr:∀ n (x:Qab),n<1000000000→nn x≤n→allN okNd x→Qo9 x=some (exprP x):=by
 intro n
 induction n with
 | zero=>intro x _ h; have:=Qrp x; omega
 | succ n ih =>
  intro x hb h ho
  rw[nn_eq] at h
  obtain⟨hq,ho1,-,-⟩:=(Qjh okNd x).1 ho
  have hnm:=hq.nm
  have hll:=Qhk x.L
  have hex:=rExprs n (fun y=>ih y (by omega)) x.L (by omega) ho1 (by omega)
  have el:decide ((x.L.length:Int)≤3)=decide (x.L.length≤3):=leN x.L.length 3
  rw[Qo9,Q0m,rName x.Name (by omega),rWord x.Name (by omega),hex]
  simp only[Qad,rBare,bareB,oneI,el]
  by_cases k1:x.Kind=1
  ·obtain⟨q,q1,q2⟩:=hq.qt k1
   have e10:(x.Kind==10)=false:=beq_eq_false_iff_ne.2 (by omega)
   simp only[e10]
   simp only[k1,beq_self_eq_true,if_true,q2,q1,Qad,quoteP,Option.getD_some]
   generalize (x.Name==[])=a1
   generalize (x.N==0)=a3
   generalize zl x.L=a4
   generalize zl x.Then=a5
   generalize zl x.Else=a6
   cases q.2<;>cases a1<;>cases a3<;>cases a4<;>cases a5<;>cases a6<;>rfl
  have b1:(x.Kind==1)=false:=beq_eq_false_iff_ne.2 k1
  by_cases h10:x.Kind=10
  ·simp only[h10]; rfl
  have e10:(x.Kind==10)=false:=beq_eq_false_iff_ne.2 h10
  simp only[e10,b1,Bool.false_eq_true,if_false,Bool.false_or,Bool.true_or,Bool.true_and]
  generalize (x.Kind==2)=k2
  generalize (x.Kind==3)=k3
  generalize (x.Kind==4)=k4
  generalize (x.Kind==5)=k5
  generalize (x.Kind==6)=k6
  generalize (x.Kind==7)=k7
  generalize (x.Name==[])=a1
  generalize (x.Text==[])=a2
  generalize (x.N==0)=a3
  generalize (x.N==1)=a8
  generalize zl x.L=a4
  generalize zl x.Then=a5
  generalize zl x.Else=a6
  generalize nameP x.Name=n1
  generalize wordP x.Name=n2
  generalize (x.L.length==1)=l1
  generalize decide (x.L.length≤3)=l3
  generalize exprsP x.L=ex
  cases k2
  ·cases k3
   ·cases k4
    ·cases k5
     ·cases k6
      ·cases k7
       ·rfl
       ·cases n2<;>rfl
      ·cases n1<;>(try rfl)<;>cases l3<;>(try rfl)<;>cases ex<;>rfl
     ·cases n2<;>(try rfl)<;>cases l1<;>(try rfl)<;>cases ex<;>rfl
    ·cases n1<;>rfl
   ·cases a3<;>(try rfl)<;>cases a8<;>rfl
  ·rfl
def litB:List Qab→Bool
 | []=>false
 | x::_=>x.Kind==8
def badSt (x:Qab) (r:List Qab) (inn:Bool):Bool:=x.Kind==8&&(litB r||((!r.isEmpty||inn)&&endB x.Text))
mutual
noncomputable def stmtP:Qab→Bool
 | ⟨k,s,t,n,a,b,c⟩ =>
  if k==8 then !(t==[])&&(!(hasB t)&&(s==[]&&(n==0&&(zl a&&(zl b&&zl c))))) else
  if k==9 then(a.length==1&&exprsP a)&&(s==[]&&(t==[]&&(n==0&&(zl b&&zl c)))) else
  if k==10 then(a.length==1&&exprsP a)&&((blockP b true&&blockP c true)&&(s==[]&&(t==[]&&n==0))) else
  if k==11||k==12 then nameP s&&((a.length==1&&exprsP a)&&(blockP b true&&(t==[]&&(n==0&&zl c)))) else
  if k==13 then nameP s&&((a.length==1&&exprsP a)&&(t==[]&&(n==0&&(zl b&&zl c)))) else false
noncomputable def blockP:List Qab→Bool→Bool
 | [],_=>true
 | x::r,inn=>stmtP x&&(!(badSt x r inn)&&blockP r inn)
end
theorem Qt2 (x:Qab):stmtP x =
  if x.Kind==8 then !(x.Text==[])&&(!(hasB x.Text)&&(x.Name==[]&&(x.N==0&&(zl x.L&&(zl x.Then&&zl x.Else))))) else
  if x.Kind==9 then(x.L.length==1&&exprsP x.L)&&(x.Name==[]&&(x.Text==[]&&(x.N==0&&(zl x.Then&&zl x.Else)))) else
  if x.Kind==10 then(x.L.length==1&&exprsP x.L)&&((blockP x.Then true&&blockP x.Else true)&&(x.Name==[]&&(x.Text==[]&&x.N==0))) else
  if x.Kind==11||x.Kind==12 then nameP x.Name&&((x.L.length==1&&exprsP x.L)&&(blockP x.Then true&&(x.Text==[]&&(x.N==0&&zl x.Else)))) else
  if x.Kind==13 then nameP x.Name&&((x.L.length==1&&exprsP x.L)&&(x.Text==[]&&(x.N==0&&(zl x.Then&&zl x.Else)))) else false:=by cases x; rw[stmtP]
theorem Q89 {l:List Qab} (h:zl l=true):l=[]:=List.eq_nil_of_length_eq_zero (by simpa [zl] using h)
theorem Q2x (b:Bool):blockP [] b=true:=by rw[blockP]
theorem Q7v {x:Qab} (h:stmtP x=true) (hk:x.Kind=8):(x.Text==[])=false:=by
 rw[Qt2,hk] at h
 simp only[beq_self_eq_true,if_true] at h
 cases ht:(x.Text==[]) with
 | false=>rfl
 | true=>rw[ht] at h; cases h
theorem lastI (k n:Nat) (hk:k<n) (hn:n<9223372036854775807):((k:Int)==wr ((n:Int)-1))=(k+1==n):=by
 have e:wr ((n:Int)-1)=((n-1:Nat):Int):=by rw[wr_in (by omega) (by omega)]; omega
 rw[e,eqN]
 by_cases h:k+1=n
 ·rw[beq_iff_eq.2 h,beq_iff_eq.2 (by omega)]
 ·rw[beq_eq_false_iff_ne.2 h,beq_eq_false_iff_ne.2 (by omega)]
theorem dropNil {l:List Qab} {k:Nat} (hk:k<l.length):(l.drop (k+1)).isEmpty=(k+1==l.length):=by
 by_cases h:k+1=l.length
 ·rw[List.drop_eq_nil_of_le (by omega),beq_iff_eq.2 h]; rfl
 ·rw[beq_eq_false_iff_ne.2 h,dropE (by omega:k+1<l.length)]; rfl
end Go.Proofs.YtfgegilhjlnohaaGreat
end

section
namespace Go.Proofs.YtfgegilhjlnohaaGreat
open Go.RowKit
theorem Q7w (l:List Qab) (k:Nat) (h:k+1<l.length):litB (l.drop (k+1))=(l[k+1].Kind==8):=by
 rw[dropE h]; rfl
section
variable (n:Nat) (hn:n<900000000) (ih:∀ x:Qab,nn x≤n→allN okNd x→Qou x=some (stmtP x))
include hn ih
theorem tBlockL (l:List Qab) (h:nns l≤n) (ho:allL okNd l) (top:Bool):∀ k,k≤l.length→Qfu l top k=some (if blockP (l.drop k) (!top) then .inl () else .inr ()):=by
 have hl:=Qhk l
 refine upto ?_ fun k hk ihk=>?_
 ·rw[Qfu]; simp[blockP]
 ·have hx:=Qjg (List.getElem_mem hk)
  have ha:=Qm8 (List.getElem_mem hk) ho
  have htx:=((Qjh okNd l[k]).1 ha).1.tx
  rw[Qfu,Qaq (by omega),ihk]
  simp only[ltI,hk,decide_true,if_true,Qav,getE hk,Qad,ih l[k] (by omega) ha,lastI k l.length hk (by omega),tEnd l[k].Text (by omega)]
  rw[dropE hk,blockP,badSt]
  rw[dropNil hk]
  cases hs:stmtP l[k] with
  | false=>rfl
  | true =>
   cases h8:(l[k].Kind==8) with
   | false=>simp
   | true =>
    by_cases hlast:k+1=l.length
    ·have e1:(k+1==l.length)=true:=beq_iff_eq.2 hlast
     have e2:litB (l.drop (k+1))=false:=by rw[List.drop_eq_nil_of_le (by omega)]; rfl
     rw[e1,e2]
     cases top<;>cases endB l[k].Text<;>simp
    ·have e1:(k+1==l.length)=false:=beq_eq_false_iff_ne.2 hlast
     have hk1:k+1<l.length:=by omega
     rw[e1,Q7w l k hk1,getE hk1]
     simp only[Qad]
     cases (l[k+1].Kind==8)<;>cases endB l[k].Text<;>cases top<;>simp
theorem tBlock (l:List Qab) (h:nns l≤n) (ho:allL okNd l) (top:Bool):Qgq l top=some (blockP l (!top)):=by
 have:=tBlockL n hn ih l h ho top 0 (by omega)
 rw[Qgq,show(0:Int)=((0:Nat):Int) from rfl,this,List.drop_zero]
 cases blockP l (!top)<;>rfl
end
theorem tStmt:∀ n (x:Qab),n<900000000→nn x≤n→allN okNd x→Qou x=some (stmtP x):=by
 intro n
 induction n with
 | zero=>intro x _ h; have:=Qrp x; omega
 | succ n ih =>
  intro x hb h ho
  rw[nn_eq] at h
  obtain⟨hq,ho1,ho2,ho3⟩:=(Qjh okNd x).1 ho
  have hnm:=hq.nm
  have htx:=hq.tx
  have ih' := fun y=>ih y (by omega)
  have t1:=tBlock n (by omega) ih' x.Then (by omega) ho2 false
  have t2:=tBlock n (by omega) ih' x.Else (by omega) ho3 false
  have e2:(x.N != 0) = !(x.N==0):=rfl
  rw[Qou,Qgp,Qt2,tName x.Name (by omega),tHas x.Text (by omega),t1,t2]
  simp only[Qad,gI,e2,zI,oneI]
  obtain⟨ex,hex,hex2⟩:∃ ex:Bool,exprsP x.L=ex∧(x.L.length==1→(idx x.L 0>>=fun y=>Qeo y)=some ex):=by
   refine⟨_,rfl,fun hl=>?_⟩
   obtain⟨y,hy⟩:=List.length_eq_one_iff.1 (by simpa using hl:x.L.length=1)
   have hy1:nn y≤n:=by have:=Qjg (show y ∈ x.L by rw[hy]; simp); omega
   have hy2:allN okNd y:=Qm8 (show y ∈ x.L by rw[hy]; simp) ho1
   rw[hy]
   simp only[idx_0,List.getElem?_cons_zero,Qad,tExpr n y (by omega) hy1 hy2,exprsP,Bool.and_true]
  rw[hex]
  have hidx:∀ (f:Bool→Option Bool) (g:Qab→Option Bool),x.L.length=1→(∀ y,g y=Qeo y>>=f)→(idx x.L 0>>=g)=f ex:=fun f g hl hg=>by
   have:=hex2 (by simpa using hl)
   obtain⟨y,hy⟩:=List.length_eq_one_iff.1 hl
   rw[hy] at this ⊢
   simp only[idx_0,List.getElem?_cons_zero,Qad] at this ⊢
   rw[hg,this,Qad]
  have nw:nameP x.Name=true→(x.Name==[])=false:=fun h=>Qv3 (Qox h)
  by_cases k8:x.Kind=8
  ·simp only[k8,beq_self_eq_true,if_true]
   generalize (x.Name==[])=a1
   generalize (x.Text==[])=a2
   generalize (x.N==0)=a3
   generalize zl x.L=a4
   generalize zl x.Then=a5
   generalize zl x.Else=a6
   generalize hasB x.Text=hh
   cases a1<;>(try (cases a2<;>cases hh<;>rfl))<;>cases a2<;>(try (cases hh<;>rfl))<;>cases a3<;>(try (cases hh<;>rfl))<;>cases a4<;>(try (cases hh<;>rfl))<;>cases a5<;>(try (cases hh<;>rfl))<;>cases a6<;>cases hh<;>rfl
  have b8:(x.Kind==8)=false:=beq_eq_false_iff_ne.2 k8
  have hE:x.L.length=1→(idx x.L 0>>=fun y=>Qeo y>>=fun b=>if b=true then if blockP x.Then (!false)=true then some (blockP x.Else (!false)) else some false else some false)=some (ex&&(blockP x.Then true&&blockP x.Else true)):=fun hl=>by
   rw[hidx (fun b=>if b=true then if blockP x.Then (!false)=true then some (blockP x.Else (!false)) else some false else some false) _ hl fun y=>rfl]
   show(if ex=true then if blockP x.Then true=true then some (blockP x.Else true) else some false else some false)=_
   cases ex<;>cases blockP x.Then true<;>rfl
  have hb5:zl x.Then=true→blockP x.Then true=true:=fun h=>by rw[Q89 h,Q2x]
  have hb6:zl x.Else=true→blockP x.Else true=true:=fun h=>by rw[Q89 h,Q2x]
  have half:∀ w th ot nmd:Bool,(if(w==nmd)=true then if((!x.Name==[])==w&&((!x.Text==[])==false&&((!x.N==0)==false&&((!zl x.Then)==th&&((!zl x.Else)==ot&&(x.L.length==1&&true))))))=true then
    idx x.L 0>>=fun y=>Qeo y>>=fun b=>if b=true then if blockP x.Then (!false)=true then some (blockP x.Else (!false)) else some false else some false else some false else some false) =
    some ((w==nmd)&&(((!x.Name==[])==w)&&((x.Text==[])&&((x.N==0)&&(((!zl x.Then)==th)&&(((!zl x.Else)==ot)&&((x.L.length==1)&&(ex&&(blockP x.Then true&&blockP x.Else true))))))))):=fun w th ot nmd=>by
   have e0:∀ b:Bool,((!b)==false)=b:=fun b=>by cases b<;>rfl
   simp only[e0]
   cases hl:(x.L.length==1) with
   | true =>
    rw[hE (by simpa using hl)]
    generalize (ex&&(blockP x.Then true&&blockP x.Else true))=q
    generalize ((!x.Name==[])==w)=q1
    generalize (x.Text==[])=q2
    generalize (x.N==0)=q3
    generalize ((!zl x.Then)==th)=q4
    generalize ((!zl x.Else)==ot)=q5
    generalize (w==nmd)=q6
    cases q6<;>(try rfl)<;>cases q1<;>(try rfl)<;>cases q2<;>(try rfl)<;>cases q3<;>(try rfl)<;>cases q4<;>(try rfl)<;>cases q5<;>rfl
   | false =>
    generalize ((!x.Name==[])==w)=q1
    generalize (x.Text==[])=q2
    generalize (x.N==0)=q3
    generalize ((!zl x.Then)==th)=q4
    generalize ((!zl x.Else)==ot)=q5
    generalize (w==nmd)=q6
    cases q6<;>(try rfl)<;>cases q1<;>(try rfl)<;>cases q2<;>(try rfl)<;>cases q3<;>(try rfl)<;>cases q4<;>(try rfl)<;>cases q5<;>rfl
  have bnd:∀ m:Option Bool,(m>>=fun o=>some o)=m:=fun m=>by cases m<;>rfl
  simp only[b8,Bool.false_eq_true,if_false]
  by_cases k9:x.Kind=9
  ·simp only[k9,beq_self_eq_true,if_true,Qad,show((9:Int)==11)=false from rfl,show((9:Int)==12)=false from rfl,show((9:Int)==13)=false from rfl,Bool.false_eq_true,if_false,bnd]
   have hh:=half false false false false
   simp only[beq_self_eq_true,if_true,Bool.true_and] at hh
   rw[hh]
   have e0:∀ b:Bool,((!b)==false)=b:=fun b=>by cases b<;>rfl
   simp only[e0]
   cases h5:zl x.Then with
   | false=>generalize (x.Name==[])=a1; generalize (x.Text==[])=a2; generalize (x.N==0)=a3; cases a1<;>cases a2<;>cases a3<;>simp
   | true=>cases h6:zl x.Else with
    | false=>generalize (x.Name==[])=a1; generalize (x.Text==[])=a2; generalize (x.N==0)=a3; cases a1<;>cases a2<;>cases a3<;>simp
    | true =>
     rw[hb5 h5,hb6 h6]
     generalize (x.Name==[])=a1; generalize (x.Text==[])=a2; generalize (x.N==0)=a3; generalize (x.L.length==1)=l1
     cases a1<;>cases a2<;>cases a3<;>cases l1<;>cases ex<;>rfl
  have b9:(x.Kind==9)=false:=beq_eq_false_iff_ne.2 k9
  simp only[b9,Bool.false_eq_true,if_false]
  by_cases k10:x.Kind=10
  ·simp only[k10,beq_self_eq_true,if_true,Qad,show((10:Int)==11)=false from rfl,show((10:Int)==12)=false from rfl,show((10:Int)==13)=false from rfl,Bool.false_eq_true,if_false,bnd]
   have hh:=half false (!zl x.Then) (!zl x.Else) false
   simp only[beq_self_eq_true,if_true,Bool.true_and] at hh ⊢
   rw[hh]
   have e0:∀ b:Bool,((!b)==false)=b:=fun b=>by cases b<;>rfl
   simp only[e0]
   generalize (x.Name==[])=a1; generalize (x.Text==[])=a2; generalize (x.N==0)=a3; generalize (x.L.length==1)=l1; generalize zl x.Then=a5; generalize zl x.Else=a6; generalize blockP x.Then true=bt; generalize blockP x.Else true=be
   cases a5<;>cases a6<;>cases a1<;>cases a2<;>cases a3<;>cases l1<;>cases ex<;>cases bt<;>cases be<;>rfl
  have b10:(x.Kind==10)=false:=beq_eq_false_iff_ne.2 k10
  simp only[b10,Bool.false_eq_true,if_false]
  have e11:(if(x.Kind==11)=true then some (x.Kind==11) else some (x.Kind==12):Option Bool)=some (x.Kind==11||x.Kind==12):=by cases (x.Kind==11)<;>rfl
  rw[e11]
  cases h11:(x.Kind==11||x.Kind==12) with
  | true =>
   have e12:(if(x.Kind==11)=true then some true else if(x.Kind==12)=true then some true else some (x.Kind==13):Option Bool)=some true:=by
    revert h11; cases (x.Kind==11)<;>cases (x.Kind==12)<;>intro h<;>first | rfl | cases h
   rw[e12]
   simp only[Qad,if_true,bnd]
   rw[half (nameP x.Name) (!zl x.Then) false true]
   have e0:∀ b:Bool,((!b)==false)=b:=fun b=>by cases b<;>rfl
   simp only[e0]
   cases hn:nameP x.Name with
   | false=>rfl
   | true =>
    rw[nw hn]
    cases h6:zl x.Else with
    | false=>generalize (x.Text==[])=a2; generalize (x.N==0)=a3; generalize zl x.Then=a5; cases a2<;>cases a3<;>cases a5<;>simp
    | true =>
     rw[hb6 h6]
     generalize (x.Text==[])=a2; generalize (x.N==0)=a3; generalize (x.L.length==1)=l1; generalize zl x.Then=a5; generalize blockP x.Then true=bt
     cases a5<;>cases a2<;>cases a3<;>cases l1<;>cases ex<;>cases bt<;>rfl
  | false =>
   have e12:(if(x.Kind==11)=true then some true else if(x.Kind==12)=true then some true else some (x.Kind==13):Option Bool)=some (x.Kind==13):=by
    revert h11; cases (x.Kind==11)<;>cases (x.Kind==12)<;>intro h<;>first | rfl | cases h
   rw[e12]
   simp only[Qad,Bool.false_eq_true,if_false]
   by_cases k13:x.Kind=13
   ·simp only[k13,beq_self_eq_true,if_true,Qad,bnd]
    rw[half (nameP x.Name) false false true]
    have e0:∀ b:Bool,((!b)==false)=b:=fun b=>by cases b<;>rfl
    simp only[e0]
    cases hn:nameP x.Name with
    | false=>rfl
    | true =>
     rw[nw hn]
     cases h5:zl x.Then with
     | false=>generalize (x.Text==[])=a2; generalize (x.N==0)=a3; cases a2<;>cases a3<;>simp
     | true=>cases h6:zl x.Else with
      | false=>generalize (x.Text==[])=a2; generalize (x.N==0)=a3; cases a2<;>cases a3<;>simp
      | true =>
       rw[hb5 h5,hb6 h6]
       generalize (x.Text==[])=a2; generalize (x.N==0)=a3; generalize (x.L.length==1)=l1
       cases a2<;>cases a3<;>cases l1<;>cases ex<;>rfl
   ·have b13:(x.Kind==13)=false:=beq_eq_false_iff_ne.2 k13
    simp only[b13,Bool.false_eq_true,if_false,Qad]
section
variable (n:Nat) (hn:n<900000000) (ih:∀ x:Qab,nn x≤n→allN okNd x→Qrb x=some (stmtP x))
include hn ih
theorem rBlockL (l:List Qab) (h:nns l≤n) (ho:allL okNd l) (inn:Bool):∀ k,k≤l.length→Qfd l inn k=some (if blockP (l.drop k) inn then .inl () else .inr ()):=by
 have hl:=Qhk l
 refine upto ?_ fun k hk ihk=>?_
 ·rw[Qfd]; simp[blockP]
 ·have hx:=Qjg (List.getElem_mem hk)
  have ha:=Qm8 (List.getElem_mem hk) ho
  have htx:=((Qjh okNd l[k]).1 ha).1.tx
  rw[Qfd,Qaq (by omega),ihk]
  simp only[ltI,hk,decide_true,if_true,Qav,getE hk,Qad,ih l[k] (by omega) ha,lastI k l.length hk (by omega)]
  rw[dropE hk,blockP,badSt]
  rw[dropNil hk]
  cases hs:stmtP l[k] with
  | false=>rfl
  | true =>
   cases h8:(l[k].Kind==8) with
   | false =>
    have:(l[k].Kind != 8)=true:=by rw[bne,h8]; rfl
    rw[this]
    simp
   | true =>
    have h8' : (l[k].Kind != 8)=false:=by rw[bne,h8]; rfl
    rw[h8', rEnd l[k].Text (by omega) (Q7v hs (by simpa using h8))]
    by_cases hlast:k+1=l.length
    ·have e1:(k+1==l.length)=true:=beq_iff_eq.2 hlast
     have e2:litB (l.drop (k+1))=false:=by rw[List.drop_eq_nil_of_le (by omega)]; rfl
     rw[e1,e2]
     cases inn<;>cases endB l[k].Text<;>simp
    ·have e1:(k+1==l.length)=false:=beq_eq_false_iff_ne.2 hlast
     have hk1:k+1<l.length:=by omega
     rw[e1,Q7w l k hk1,getE hk1]
     simp only[Qad]
     cases (l[k+1].Kind==8)<;>cases endB l[k].Text<;>cases inn<;>simp
theorem rBlock (l:List Qab) (h:nns l≤n) (ho:allL okNd l) (inn:Bool):Qhe l inn=some (blockP l inn):=by
 have:=rBlockL n hn ih l h ho inn 0 (by omega)
 rw[Qhe,show(0:Int)=((0:Nat):Int) from rfl,this,List.drop_zero]
 cases blockP l inn<;>rfl
end
theorem rStmt:∀ n (x:Qab),n<900000000→nn x≤n→allN okNd x→Qrb x=some (stmtP x):=by
 intro n
 induction n with
 | zero=>intro x _ h; have:=Qrp x; omega
 | succ n ih =>
  intro x hb h ho
  rw[nn_eq] at h
  obtain⟨hq,ho1,ho2,ho3⟩:=(Qjh okNd x).1 ho
  have hnm:=hq.nm
  have htx:=hq.tx
  have hll:=Qhk x.L
  have ih' := fun y=>ih y (by omega)
  have t1:=rBlock n (by omega) ih' x.Then (by omega) ho2 true
  have t2:=rBlock n (by omega) ih' x.Else (by omega) ho3 true
  have hex:=rExprs n (fun y hy=>rExpr n y (by omega) hy) x.L (by omega) ho1 (by omega)
  rw[Qrb,Qt2,rName x.Name (by omega),rStands x.Text (by omega),t1,t2,hex]
  simp only[Qad,oneI,rBare,bareB]
  have e1:(if(x.L.length==1)=true then some (exprsP x.L) else some false:Option Bool)=some (x.L.length==1&&exprsP x.L):=by cases (x.L.length==1)<;>rfl
  rw[e1]
  simp only[Qad]
  generalize (x.L.length==1&&exprsP x.L)=one
  by_cases k8:x.Kind=8
  ·have e10:(x.Kind==10)=false:=beq_eq_false_iff_ne.2 (by omega)
   simp only[e10]
   simp only[k8,beq_self_eq_true,if_true]
   generalize (x.Name==[])=a1
   generalize (x.Text==[])=a2
   generalize (x.N==0)=a3
   generalize zl x.L=a4
   generalize zl x.Then=a5
   generalize zl x.Else=a6
   generalize hasB x.Text=hh
   cases a2<;>(try rfl)<;>cases hh<;>(try rfl)<;>cases a1<;>(try rfl)<;>cases a3<;>rfl
  have b8:(x.Kind==8)=false:=beq_eq_false_iff_ne.2 k8
  simp only[b8,Bool.false_eq_true,if_false]
  by_cases k10:x.Kind=10
  ·simp only[k10,beq_self_eq_true,if_true,show((10:Int)==9)=false from rfl,Bool.false_eq_true,if_false]
   generalize (x.Name==[])=a1
   generalize (x.Text==[])=a2
   generalize (x.N==0)=a3
   generalize blockP x.Then true=bt
   generalize blockP x.Else true=be
   generalize zl x.L=a4
   generalize zl x.Then=a5
   generalize zl x.Else=a6
   cases one<;>(try rfl)<;>cases bt<;>(try rfl)<;>cases be<;>(try rfl)<;>cases a1<;>(try rfl)<;>cases a2<;>(try rfl)<;>cases a3<;>rfl
  have b10:(x.Kind==10)=false:=beq_eq_false_iff_ne.2 k10
  simp only[b10,Bool.false_eq_true,if_false]
  have e11:(if(x.Kind==11)=true then some (x.Kind==11) else some (x.Kind==12):Option Bool)=some (x.Kind==11||x.Kind==12):=by cases (x.Kind==11)<;>rfl
  rw[e11]
  simp only[Qad]
  have nw:nameP x.Name=true→(x.Name==[])=false:=fun h=>Qv3 (Qox h)
  generalize (x.Kind==9)=k9
  generalize (x.Kind==11||x.Kind==12)=k11
  generalize (x.Kind==13)=k13
  generalize (x.Name==[])=a1
  generalize nameP x.Name=nm
  generalize (x.Text==[])=a2
  generalize (x.N==0)=a3
  generalize blockP x.Then true=bt
  generalize blockP x.Else true=be
  generalize zl x.L=a4
  generalize zl x.Then=a5
  generalize zl x.Else=a6
  cases k9
  ·cases k11
   ·cases k13
    ·rfl
    ·cases nm<;>(try rfl)<;>cases one<;>(try rfl)<;>cases a2<;>(try rfl)<;>cases a3<;>rfl
   ·cases nm<;>(try rfl)<;>cases one<;>(try rfl)<;>cases bt<;>(try rfl)<;>cases a2<;>(try rfl)<;>cases a3<;>rfl
  ·cases one<;>(try rfl)<;>cases a1<;>(try rfl)<;>cases a2<;>(try rfl)<;>cases a3<;>rfl
end Go.Proofs.YtfgegilhjlnohaaGreat
end

section
namespace Go.Proofs.YtfgegilhjlnohaaGreat
open Go.RowKit
def maxD (l:List (Qab×Int)) (m:Int):Int:=l.foldl (fun m x=>if x.2>m then x.2 else m) m
theorem Qt3 (a b:List (Qab×Int)) (m:Int):maxD (a++b) m=maxD b (maxD a m):=by unfold maxD; rw[List.foldl_append]
theorem tDeepL (x1:List Qab×Int):∀ (l:List (Qab×Int)) (m:Int),Qee x1 l m=some (maxD l m)
 | [],m=>by rw[Qee]; rfl
 | x::r,m=>by rw[Qee,tDeepL x1 r]; rfl
theorem tCountL (x1:List Qab×Int):∀ (l:List (Qab×Int)) (m:Nat),m+l.length<9223372036854775807→Qds x1 l m=some ((m+l.length:Nat):Int)
 | [],m,_=>by rw[Qds]; rfl
 | x::r,m,h=>by
  simp at h
  rw[Qds,Qaq (by omega),tCountL x1 r (m+1) (by omega)]
  simp; omega
theorem tAll3 (p0:List Qab) (p1 v12:Int) (x3:Qab) (v28:Int) (x7:List Qab×Int):∀ l:List (Qab×Int),Qdt p0 p1 v12 x3 v28 x7 l=some (l,())
 | []=>by rw[Qdt]
 | x::r=>by
  obtain⟨⟨k,s,t,n,a,b,c⟩,d⟩:=x
  rw[Qdt,tAll3 p0 p1 v12 x3 v28 x7 r]; rfl
def AllIs (d:Nat) (k dep:Nat) (o:Option (List (Qab×Int)×Unit)):Prop:=∃ out,o=some (out,())∧out.length=k∧∀ m:Int,(d:Int)-1≤m→maxD out m=max m ((d:Int)-1+dep)
section
variable (n:Nat) (ih:∀ (l:List Qab) (d:Nat),nns l≤n→n+d≤1000000000→AllIs d (nns l) (dps l) (Qer l d))
include ih
theorem tAll2 (l:List Qab) (d:Nat) (v:Int) (x:Qab) (hx:nn x≤n+1) (hd:n+1+d≤1000000000) :
  AllIs (d+1) (nns x.L+nns x.Then+nns x.Else) (max (dps x.L) (max (dps x.Then) (dps x.Else))) (Qbx l d v x 0):=by
 rw[nn_eq] at hx
 have ed:wr ((d:Int)+1)=((d+1:Nat):Int):=Qaq (by omega)
 obtain⟨o1,a1,a2,a3⟩:=ih x.L (d+1) (by omega) (by omega)
 obtain⟨o2,b1,b2,b3⟩:=ih x.Then (d+1) (by omega) (by omega)
 obtain⟨o3,c1,c2,c3⟩:=ih x.Else (d+1) (by omega) (by omega)
 have s3:Qbx l d v x 3=some ([],()):=by rw[Qbx]; rfl
 have s2:Qbx l d v x 2=some (o3++[],()):=by
  rw[Qbx]
  have e:wr ((2:Int)+1)=3:=by rw[wr_in (by omega) (by omega)]; rfl
  have g:idx ([x.L,x.Then,x.Else]:List (List Qab)) 2=some x.Else:=Q31 _ 2
  rw[g,e,s3]
  simp only[Qad,Qio,ed,c1,tAll3,show decide ((2:Int)<3)=true from rfl,if_true]
 have s1:Qbx l d v x 1=some (o2++(o3++[]),()):=by
  rw[Qbx]
  have e:wr ((1:Int)+1)=2:=by rw[wr_in (by omega) (by omega)]; rfl
  have g:idx ([x.L,x.Then,x.Else]:List (List Qab)) 1=some x.Then:=Q31 _ 1
  rw[g,e,s2]
  simp only[Qad,Qio,ed,b1,tAll3,show decide ((1:Int)<3)=true from rfl,if_true]
 have s0:Qbx l d v x 0=some (o1++(o2++(o3++[])),()):=by
  rw[Qbx]
  have e:wr ((0:Int)+1)=1:=by rw[wr_in (by omega) (by omega)]; rfl
  have g:idx ([x.L,x.Then,x.Else]:List (List Qab)) 0=some x.L:=Q31 _ 0
  rw[g,e,s1]
  simp only[Qad,Qio,ed,a1,tAll3,show decide ((0:Int)<3)=true from rfl,if_true]
 refine⟨_,s0,by simp; omega,fun m hm=>?_⟩
 rw[List.append_nil,Qt3,Qt3,a3 m hm,b3 _ (by omega),c3 _ (by omega)]
 omega
theorem tAll1 (l:List Qab) (d:Nat) (hl:nns l≤n+1) (hd:n+1+d≤1000000000):∀ k,k≤l.length→AllIs d (nns (l.drop k)) (dps (l.drop k)) (Qem l d k):=by
 have hlen:=Qhk l
 refine upto ?_ fun k hk ihk=>?_
 ·rw[Qem,List.drop_length]
  refine⟨[],by simp,by simp[nns],fun m hm=>?_⟩
  simp[maxD,dps]; omega
 ·have hx:=Qjg (List.getElem_mem hk)
  obtain⟨o1,a1,a2,a3⟩:=tAll2 n ih l d k l[k] (by omega) hd
  obtain⟨o2,b1,b2,b3⟩:=ihk
  rw[Qem,Qaq (by omega)]
  simp only[ltI,hk,decide_true,if_true,Qav,getE hk,Qad,a1,b1]
  rw[dropE hk]
  refine⟨_,rfl,?_,fun m hm=>?_⟩
  ·simp[nns,nn_eq,a2,b2]; omega
  ·show maxD ([(l[k],(d:Int))]++(o1++o2)) m=_
   have e0:maxD [(l[k],(d:Int))] m=max m d:=by
    show(if(d:Int)>m then(d:Int) else m)=_
    split<;>omega
   rw[Qt3,Qt3,e0,a3 _ (by omega),b3 _ (by omega),dps,dp_eq]
   omega
end
theorem tAll:∀ n (l:List Qab) (d:Nat),nns l≤n→n+d≤1000000000→AllIs d (nns l) (dps l) (Qer l d):=by
 intro n
 induction n with
 | zero =>
  intro l d h _
  have hl:l=[]:=List.eq_nil_of_length_eq_zero (by have:=Qhk l; omega)
  subst hl
  rw[Qer,Qem]
  refine⟨[],by simp,by simp[nns],fun m hm=>?_⟩
  simp[maxD,dps]; omega
 | succ n ih =>
  intro l d h hd
  obtain⟨o,a1,a2,a3⟩:=tAll1 n ih l d h hd 0 (by omega)
  rw[List.drop_zero] at a2 a3
  refine⟨o,?_,a2,a3⟩
  rw[Qer,show(0:Int)=((0:Nat):Int) from rfl,a1]
  simp
theorem tDeep (l:List Qab) (h:nns l≤900000000):Qos l=some (dps l:Int):=by
 obtain⟨o,a1,a2,a3⟩:=tAll 900000000 l 1 h (by omega)
 rw[Qos,Qio]
 simp only[Qad]
 rw[show(1:Int)=((1:Nat):Int) from rfl,a1]
 simp only[Qad,tDeepL]
 rw[a3 0 (by omega)]
 congr 1
 omega
theorem tCount (l:List Qab) (h:nns l≤900000000):Qmd l=some (nns l:Int):=by
 obtain⟨o,a1,a2,a3⟩:=tAll 900000000 l 1 h (by omega)
 have:=tCountL (l,((1:Nat):Int)) o 0 (by omega)
 rw[Qmd,Qio]
 simp only[Qad]
 rw[show(1:Int)=((1:Nat):Int) from rfl,a1]
 simp only[Qad]
 rw[show(0:Int)=((0:Nat):Int) from rfl,this]
 simp[a2]
theorem Q7x:∀ m (l:List Qab),nns l≤m→dps l≤nns l:=by
 intro m
 induction m with
 | zero =>
  intro l h
  have hl:l=[]:=List.eq_nil_of_length_eq_zero (by have:=Qhk l; omega)
  subst hl; simp[dps]
 | succ m ihm =>
  intro l
  induction l with
  | nil=>intro _; simp[dps]
  | cons x r ihr =>
   intro h
   rw[nns,nn_eq] at h
   have h1:=ihm x.L (by omega)
   have h2:=ihm x.Then (by omega)
   have h3:=ihm x.Else (by omega)
   have h4:=ihr (by omega)
   rw[dps,dp_eq,nns,nn_eq]
   omega
section
variable (n:Nat) (hn:n≤900000000) (ih:∀ l:List Qab,nns l≤n→Qhd l=some (dps l:Int)∧Qfb l=some (nns l:Int))
include hn ih
theorem rDeepL (l:List Qab) (h:nns l≤n+1):∀ k,k≤l.length→∀ v:Nat,v≤1000000000→Qgb l v k=some ((max v (dps (l.drop k)):Nat):Int):=by
 have hl:=Qhk l
 refine upto ?_ fun k hk ihk=>?_
 ·intro v _; rw[Qgb]; simp[dps]
 ·intro v hv
  have hx:=Qjg (List.getElem_mem hk)
  rw[nn_eq] at hx
  have d1:=Q7x _ l[k].L (Nat.le_refl _)
  have d2:=Q7x _ l[k].Then (Nat.le_refl _)
  have d3:=Q7x _ l[k].Else (Nat.le_refl _)
  have em:(if(dps l[k].Else:Int)>(if(dps l[k].Then:Int)>(dps l[k].L:Int) then(dps l[k].Then:Int) else(dps l[k].L:Int)) then(dps l[k].Else:Int) else(if(dps l[k].Then:Int)>(dps l[k].L:Int) then(dps l[k].Then:Int) else(dps l[k].L:Int)))=((max (dps l[k].L) (max (dps l[k].Then) (dps l[k].Else)):Nat):Int):=by
   split<;>split at * <;> omega
  rw[Qgb,Qaq (by omega)]
  simp only[ltI,hk,decide_true,if_true,Qav,getE hk,Qad,(ih l[k].L (by omega)).1,(ih l[k].Then (by omega)).1,(ih l[k].Else (by omega)).1]
  rw[em]
  have ew:wr (1+((max (dps l[k].L) (max (dps l[k].Then) (dps l[k].Else)):Nat):Int))=((dp l[k]:Nat):Int):=by
   rw[wr_in (by omega) (by omega),dp_eq]; omega
  rw[ew]
  have ei:(if((dp l[k]:Nat):Int)>(v:Int) then((dp l[k]:Nat):Int) else(v:Int))=((max v (dp l[k]):Nat):Int):=by split<;>omega
  have hdp:dp l[k]≤1000000000:=by rw[dp_eq]; omega
  rw[ei,ihk (max v (dp l[k])) (by omega),dropE hk,dps]
  congr 2
  omega
theorem rCountL (l:List Qab) (h:nns l≤n+1):∀ k,k≤l.length→∀ v:Nat,v+nns (l.drop k)≤1000000000→Qfc l v k=some ((v+nns (l.drop k):Nat):Int):=by
 have hl:=Qhk l
 refine upto ?_ fun k hk ihk=>?_
 ·intro v _; rw[Qfc]; simp[nns]
 ·intro v hv
  have hx:=Qjg (List.getElem_mem hk)
  rw[nn_eq] at hx
  rw[dropE hk,nns,nn_eq] at hv
  rw[Qfc,Qaq (i:=k) (by omega)]
  simp only[ltI,hk,decide_true,if_true,Qav,getE hk,Qad,(ih l[k].L (by omega)).2,(ih l[k].Then (by omega)).2,(ih l[k].Else (by omega)).2]
  have ew:wr ((wr ((wr ((wr ((v:Int)+1))+(nns l[k].L:Int)))+(nns l[k].Then:Int)))+(nns l[k].Else:Int))=((v+nn l[k]:Nat):Int):=by
   rw[wr_in (n:=(v:Int)+1) (by omega) (by omega),wr_in (n:=(v:Int)+1+(nns l[k].L:Int)) (by omega) (by omega),wr_in (n:=(v:Int)+1+(nns l[k].L:Int)+(nns l[k].Then:Int)) (by omega) (by omega),wr_in (by omega) (by omega),nn_eq]
   omega
  rw[ew,ihk (v+nn l[k]) (by rw[nn_eq]; omega),dropE hk,nns]
  congr 2
  omega
end
theorem rDC:∀ n (l:List Qab),n≤900000000→nns l≤n→Qhd l=some (dps l:Int)∧Qfb l=some (nns l:Int):=by
 intro n
 induction n with
 | zero =>
  intro l _ h
  have hl:l=[]:=List.eq_nil_of_length_eq_zero (by have:=Qhk l; omega)
  subst hl
  rw[Qhd,Qfb,Qgb,Qfc]
  simp[dps,nns]
 | succ n ih =>
  intro l hn h
  have h1:=rDeepL n (by omega) (fun l hl=>ih l (by omega) hl) l h 0 (by omega) 0 (by omega)
  have h2:=rCountL n (by omega) (fun l hl=>ih l (by omega) hl) l h 0 (by omega) 0 (by rw[List.drop_zero]; omega)
  rw[Qhd,Qfb,show(0:Int)=((0:Nat):Int) from rfl,h1,h2]
  simp
noncomputable def isP (l:List Qab):Bool:=decide (dps l≤12)&&(decide (nns l≤1024)&&blockP l false)
theorem tIs (l:List Qab) (h:nns l≤800000000) (ho:allL okNd l):Qv0 l=some (isP l):=by
 have e1:decide ((dps l:Int)≤12)=decide (dps l≤12):=leN _ 12
 have e2:decide ((nns l:Int)≤1024)=decide (nns l≤1024):=leN _ 1024
 have hb:=tBlock 800000000 (by omega) (fun x hx=>tStmt 800000000 x (by omega) hx) l h ho true
 rw[Qv0,tDeep l (by omega),tCount l (by omega),hb,isP]
 simp only[Qad,e1,e2]
 cases decide (dps l≤12)<;>cases decide (nns l≤1024)<;>rfl
theorem rIs (l:List Qab) (h:nns l≤800000000) (ho:allL okNd l):Q2l l=some (isP l):=by
 have e1:decide ((dps l:Int)≤12)=decide (dps l≤12):=leN _ 12
 have e2:decide ((nns l:Int)≤1024)=decide (nns l≤1024):=leN _ 1024
 have hb:=rBlock 800000000 (by omega) (fun x hx=>rStmt 800000000 x (by omega) hx) l h ho false
 obtain⟨hd,hc⟩:=rDC 800000000 l (by omega) h
 rw[Q2l,hd,hc,hb,isP]
 simp only[Qad,e1,e2]
 cases decide (dps l≤12)<;>cases decide (nns l≤1024)<;>cases blockP l false<;>rfl
end Go.Proofs.YtfgegilhjlnohaaGreat
end

section
namespace Go.Proofs.YtfgegilhjlnohaaGreat
open Go.RowKit
def Puts (w:List UInt8) (acc:List Int) (o:Option (Bool×List Int)):Prop:=∃ f,o=some (f,acc++s2b w)
abbrev room:Nat:=100000000000
theorem Puts.seq {w1 w2:List UInt8} {acc:List Int} {o:Option (Bool×List Int)} {g:Bool×List Int→Option (Bool×List Int)} (h:Puts w1 acc o) (k:∀ f,Puts w2 (acc++s2b w1) (g (f,acc++s2b w1))):Puts (w1++w2) acc (o>>=g):=by
 obtain⟨f,rfl⟩:=h
 obtain⟨f', hf⟩:=k f
 refine⟨f', ?_⟩
 rw[Qad,hf,Q7u,List.append_assoc]
theorem Puts.ret {w:List UInt8} {acc:List Int} {o:Option (Bool×List Int)} (h:Puts w acc o):Puts w acc (o>>=fun x=>some (x.1,x.2)):=by
 obtain⟨f,rfl⟩:=h
 exact⟨f,rfl⟩
section
end
end Go.Proofs.YtfgegilhjlnohaaGreat
end

section
namespace Go.Proofs.YtfgegilhjlnohaaGreat
open Go.RowKit
def contB (c:UInt8):Bool:=decide (128≤c.toNat)&&decide (c.toNat<192)
def runeB (n:Nat):Bool:=decide (n≤1114111) && !(decide (55296≤n)&&decide (n≤57343))
def nextC (c:UInt8) (r:List UInt8):Nat×Nat :=
  if c.toNat<128 then(c.toNat,1)
  else if 192≤c.toNat∧c.toNat<224 then
   match r with
   | c1::_=>if contB c1=true∧128≤(c.toNat-192)*64+(c1.toNat-128) then((c.toNat-192)*64+(c1.toNat-128),2) else(65533,1)
   | _=>(65533,1)
  else if 224≤c.toNat∧c.toNat<240 then
   match r with
   | c1::c2::_=>if contB c1=true∧contB c2=true∧2048≤((c.toNat-224)*64+(c1.toNat-128))*64+(c2.toNat-128)∧runeB (((c.toNat-224)*64+(c1.toNat-128))*64+(c2.toNat-128))=true then(((c.toNat-224)*64+(c1.toNat-128))*64+(c2.toNat-128),3) else(65533,1)
   | _=>(65533,1)
  else if 240≤c.toNat∧c.toNat<248 then
   match r with
   | c1::c2::c3::_=>if contB c1=true∧contB c2=true∧contB c3=true∧65536≤(((c.toNat-240)*64+(c1.toNat-128))*64+(c2.toNat-128))*64+(c3.toNat-128)∧runeB ((((c.toNat-240)*64+(c1.toNat-128))*64+(c2.toNat-128))*64+(c3.toNat-128))=true then((((c.toNat-240)*64+(c1.toNat-128))*64+(c2.toNat-128))*64+(c3.toNat-128),4) else(65533,1)
   | _=>(65533,1)
  else(65533,1)
def nextP:List UInt8→Nat×Nat
 | []=>(0,0)
 | c::r=>nextC c r
theorem Qv4 {n:Int} (h1 : -2147483648≤n) (h2:n≤2147483647):IntKind.i32.wrap n=n:=by
 simp[IntKind.wrap,IntKind.bits,IntKind.signed]
 omega
theorem u8_in {n:Int} (h1:0≤n) (h2:n≤255):IntKind.u8.wrap n=n:=by
 simp[IntKind.wrap,IntKind.bits,IntKind.signed]
 omega
theorem and63:∀ c:Fin 256,bits .and .u8 ((c.1:Nat):Int) 63=((c.1 % 64:Nat):Int):=by decide +kernel
theorem and192:∀ c:Fin 256,(bits .and .u8 ((c.1:Nat):Int) 192 != 128) = !(decide (128≤c.1)&&decide (c.1<192)):=by decide +kernel
theorem and31:∀ c:Fin 256,bits .and .u8 ((c.1:Nat):Int) 31=((c.1 % 32:Nat):Int):=by decide +kernel
theorem and15:∀ c:Fin 256,bits .and .u8 ((c.1:Nat):Int) 15=((c.1 % 16:Nat):Int):=by decide +kernel
theorem and7:∀ c:Fin 256,bits .and .u8 ((c.1:Nat):Int) 7=((c.1 % 8:Nat):Int):=by decide +kernel
theorem or64 (a b:Nat) (ha:a<1000000) (hb:b<64):bits .or .i32 (IntKind.i32.wrap ((a:Int)*2 ^ (min (6:Int).toNat (IntKind.i32.bits)))) (IntKind.i32.wrap (b:Int))=((a*64+b:Nat):Int):=by
 have e1:IntKind.i32.wrap ((a:Int)*2 ^ (min (6:Int).toNat (IntKind.i32.bits)))=((a*64:Nat):Int):=by
  have:(min (6:Int).toNat (IntKind.i32.bits))=6:=rfl
  rw[this,Qv4 (by omega) (by omega)]; omega
 rw[e1,Qv4 (by omega) (by omega)]
 have e2:(2:Nat) ^ 6*a+b=2 ^ 6*a ||| b:=Nat.two_pow_add_eq_or_of_lt (by omega) a
 have e3:a*64 ||| b=a*64+b:=by
  have:(2:Nat) ^ 6*a=a*64:=by omega
  rw[this] at e2; omega
 show IntKind.i32.wrap ((BitVec.ofInt 32 ((a*64:Nat):Int) ||| BitVec.ofInt 32 (b:Int)).toNat:Int)=_
 rw[BitVec.toNat_or,BitVec.ofInt_natCast,BitVec.ofInt_natCast,BitVec.toNat_ofNat,BitVec.toNat_ofNat,Nat.mod_eq_of_lt (by omega),Nat.mod_eq_of_lt (by omega),e3,Qv4 (by omega) (by omega)]
theorem b63 (c:UInt8):bits .and .u8 (c.toNat:Int) 63=((c.toNat % 64:Nat):Int):=and63 ⟨c.toNat,c.toNat_lt⟩
theorem b192 (c:UInt8):(bits .and .u8 (c.toNat:Int) 192 != 128) = !contB c:=and192 ⟨c.toNat,c.toNat_lt⟩
theorem b31 (c:UInt8):bits .and .u8 (c.toNat:Int) 31=((c.toNat % 32:Nat):Int):=and31 ⟨c.toNat,c.toNat_lt⟩
theorem b15 (c:UInt8):bits .and .u8 (c.toNat:Int) 15=((c.toNat % 16:Nat):Int):=and15 ⟨c.toNat,c.toNat_lt⟩
theorem b7 (c:UInt8):bits .and .u8 (c.toNat:Int) 7=((c.toNat % 8:Nat):Int):=and7 ⟨c.toNat,c.toNat_lt⟩
theorem Q8y {c:UInt8} (h:contB c=true):c.toNat % 64=c.toNat-128:=by
 unfold contB at h
 simp at h
 omega
def tailP:Nat→List UInt8→Nat→Option Nat
 | 0,_,v=>some v
 | _+1,[],_=>none
 | m+1,c::r,v=>if contB c=true then tailP m r (v*64+(c.toNat-128)) else none
set_option maxRecDepth 20000 in
theorem tTailL (l:List UInt8) (m:Nat) (hm:m≤l.length) (hm3:m≤3):∀ (d k v:Nat),k+d=m→((k=0→v<64)∧(k≤1→v<4096)∧(k≤2→v<262144)) →
  Qfi l m v k=some (match tailP d (l.drop k) v with | some n =>.inl (n:Int) | none =>.inr ()):=by
 intro d
 induction d with
 | zero =>
  intro k v hk _
  rw[Qfi,ltI,decide_eq_false (by omega:¬ k<m)]
  rfl
 | succ d ih =>
  intro k v hk hv
  have hkl:k<l.length:=by omega
  have:decide ((k:Int)<(m:Int))=true:=decide_eq_true (by omega)
  rw[Qfi]
  simp only[this,if_true,Qav,getE hkl,Qad,b192,b63]
  rw[or64 v _ (by omega) (Nat.mod_lt _ (by omega)),Qaq (by omega),dropE hkl]
  unfold tailP
  cases hc:contB l[k] with
  | false=>rfl
  | true =>
   rw[Q8y hc]
   have hlt:l[k].toNat-128<64:=by unfold contB at hc; simp at hc; omega
   have hv2:(k+1=0→v*64+(l[k].toNat-128)<64)∧(k+1≤1→v*64+(l[k].toNat-128)<4096)∧(k+1≤2→v*64+(l[k].toNat-128)<262144):=by omega
   simp only[Bool.not_true,Bool.false_eq_true,if_false,if_true]
   exact ih (k+1) _ (by omega) hv2
theorem tTail (l:List UInt8) (m v:Nat) (hm3:m≤3) (hv:v<64):Qpa l v m=some (match (if l.length<m then none else tailP m l v) with | some n=>((n:Int),true) | none=>(0,false)):=by
 rw[Qpa,ltI]
 by_cases h:l.length<m
 ·rw[decide_eq_true h,if_pos h]; rfl
 ·rw[decide_eq_false h,if_neg h]
  have:=tTailL l m (by omega) hm3 m 0 v (by omega) (by omega)
  rw[List.drop_zero] at this
  rw[show(0:Int)=((0:Nat):Int) from rfl,this]
  cases tailP m l v<;>rfl
theorem tIsR (n:Nat):Qyb (n:Int)=some (runeB n):=by
 have a:decide ((n:Int) ≥ 0)=true:=decide_eq_true (by omega)
 have b:decide ((n:Int)≤1114111)=decide (n≤1114111):=by
  by_cases h:n≤1114111
  ·rw[decide_eq_true h,decide_eq_true (by omega)]
  ·rw[decide_eq_false h,decide_eq_false (by omega)]
 rw[Qyb,a,b,runeB]
 by_cases h1:n<55296
 ·rw[decide_eq_true (show(n:Int)<55296 by omega),decide_eq_true (show n≤1114111 by omega),decide_eq_false (show ¬ 55296≤n by omega)]; rfl
 ·rw[decide_eq_false (show ¬ (n:Int)<55296 by omega),decide_eq_true (show 55296≤n by omega)]
  by_cases h2:n≤57343
  ·rw[decide_eq_false (show ¬ (n:Int)>57343 by omega),decide_eq_true h2,decide_eq_true (show n≤1114111 by omega)]; rfl
  ·rw[decide_eq_true (show(n:Int)>57343 by omega),decide_eq_false h2]
   cases decide (n≤1114111)<;>rfl
theorem rIsR (n:Nat):Qm0 (n:Int)=some (runeB n):=by
 have a:decide ((n:Int) ≥ 0)=true:=decide_eq_true (by omega)
 have b:decide ((n:Int)≤1114111)=decide (n≤1114111):=by
  by_cases h:n≤1114111
  ·rw[decide_eq_true h,decide_eq_true (by omega)]
  ·rw[decide_eq_false h,decide_eq_false (by omega)]
 have c:decide ((n:Int) ≥ 55296)=decide (55296≤n):=by
  by_cases h:55296≤n
  ·rw[decide_eq_true h,decide_eq_true (by omega)]
  ·rw[decide_eq_false h,decide_eq_false (by omega)]
 have d:decide ((n:Int)≤57343)=decide (n≤57343):=by
  by_cases h:n≤57343
  ·rw[decide_eq_true h,decide_eq_true (by omega)]
  ·rw[decide_eq_false h,decide_eq_false (by omega)]
 rw[Qm0,a,b,c,d,runeB]
 cases decide (n≤1114111)<;>cases decide (55296≤n)<;>cases decide (n≤57343)<;>rfl
theorem ltC (c:UInt8) (k:Nat):decide ((c.toNat:Int)<(k:Int))=decide (c.toNat<k):=ltI _ _
theorem geC (c:UInt8) (k:Nat):decide ((c.toNat:Int) ≥ (k:Int))=decide (k≤c.toNat):=by
 by_cases h:k≤c.toNat
 ·rw[decide_eq_true h,decide_eq_true (by omega)]
 ·rw[decide_eq_false h,decide_eq_false (by omega)]
def endP (o:Option Nat) (least m:Nat):Nat×Nat:=match o with
 | some n=>if least≤n∧runeB n=true then(n,m+1) else(65533,1)
 | none=>(65533,1)
set_option maxRecDepth 20000 in
theorem tNext (s:List UInt8) (k:Nat) (hk:k<s.length) (hs:s.length<9223372036854775807):Qre s k=some (((nextP (s.drop k)).1:Int),((nextP (s.drop k)).2:Int)):=by
 have d1:decide ((k:Int)<0)=false:=decide_eq_false (by omega)
 have d2:decide ((k:Int) ≥ (s.length:Int))=false:=decide_eq_false (by omega)
 have hc:=s[k].toNat_lt
 have hr:cutL s (wr ((k:Int)+1)) (s.length:Int)=some (s.drop (k+1)):=by
  rw[Qaq (by omega),Qld (by omega) (by omega) (by omega)]
  simp
 rw[Qre,d1,d2,hr,dropE hk]
 have l128:=ltC s[k] 128
 have g192:=geC s[k] 192
 have l224:=ltC s[k] 224
 have g224:=geC s[k] 224
 have l240:=ltC s[k] 240
 have g240:=geC s[k] 240
 have l248:=ltC s[k] 248
 have b1:∀ a b:Bool,(if a=true then some b else some false:Option Bool)=some (a&&b):=fun a b=>by cases a<;>rfl
 simp only[Bool.false_eq_true,if_false,Qad,Qav,getE hk]
 rw[show(128:Int)=((128:Nat):Int) from rfl,show(192:Int)=((192:Nat):Int) from rfl,show(224:Int)=((224:Nat):Int) from rfl,show(240:Int)=((240:Nat):Int) from rfl,show(248:Int)=((248:Nat):Int) from rfl,l128,g192,l224,g224,l240,g240,l248]
 simp only[b1,Qad]
 rw[nextP]
 unfold nextC
 have fin:∀ (v least m:Nat),m≤3→v<64→(Qpa (s.drop (k+1)) (v:Int) (m:Int)>>=fun x10 =>
   (if(!x10.2)=true then some true else if decide (x10.1<(least:Int))=true then some true else Qyb x10.1>>=fun x12=>some (!x12):Option Bool)>>=fun o11 =>
   if o11=true then some ((65533:Int),(1:Int)) else some (x10.1,wr ((m:Int)+1))) =
   some (((endP (if(s.drop (k+1)).length<m then none else tailP m (s.drop (k+1)) v) least m).1:Int),((endP (if(s.drop (k+1)).length<m then none else tailP m (s.drop (k+1)) v) least m).2:Int)):=fun v least m hm hv=>by
  rw[tTail _ m v hm hv]
  cases (if(s.drop (k+1)).length<m then none else tailP m (s.drop (k+1)) v) with
  | none=>rfl
  | some n =>
   simp only[Qad,Bool.not_true,Bool.false_eq_true,if_false,ltI,tIsR,endP]
   by_cases h1:n<least
   ·rw[decide_eq_true h1,if_neg (fun h=>absurd h.1 (by omega):¬ (least≤n∧runeB n=true))]; rfl
   ·rw[decide_eq_false h1]
    cases hrn:runeB n with
    | true=>rw[if_pos (⟨by omega,rfl⟩:least≤n∧true=true),Qaq (by omega)]; rfl
    | false=>rw[if_neg (fun h=>by cases h.2:¬ (least≤n∧false=true))]; rfl
 by_cases h1:s[k].toNat<128
 ·rw[decide_eq_true h1,if_pos h1]
  simp only[if_true,Qad]
  rw[Qv4 (by omega) (by omega)]; rfl
 rw[decide_eq_false h1,if_neg h1]
 simp only[Bool.false_eq_true,if_false]
 have cc:∀ c:UInt8,contB c=true→c.toNat-128<64:=fun c h=>by unfold contB at h; simp at h; omega
 by_cases h2:192≤s[k].toNat∧s[k].toNat<224
 ·rw[decide_eq_true h2.1,decide_eq_true h2.2,if_pos h2,b31]
  simp only[Bool.and_true,if_true,Qad]
  rw[Qv4 (by omega) (by omega)]
  have f:=fin (s[k].toNat % 32) 128 1 (by omega) (by omega)
  rw[show((1:Nat):Int)=1 from rfl] at f
  rw[f]
  have e:s[k].toNat % 32=s[k].toNat-192:=by omega
  rw[e]
  cases s.drop (k+1) with
  | nil=>rfl
  | cons c1 r1 =>
   simp only[List.length_cons,if_neg (by omega:¬ r1.length+1<1),tailP]
   cases h:contB c1 with
   | false=>rfl
   | true =>
    have:=cc c1 h
    have hr:runeB ((s[k].toNat-192)*64+(c1.toNat-128))=true:=by unfold runeB; rw[decide_eq_true (by omega),decide_eq_false (by omega)]; rfl
    simp only[if_true,endP,hr,and_true,true_and]
 rw[if_neg h2]
 have d2:(decide (192≤s[k].toNat)&&decide (s[k].toNat<224))=false:=by
  rw[Bool.and_eq_false_iff]
  by_cases h:192≤s[k].toNat
  ·exact .inr (decide_eq_false (by omega))
  ·exact .inl (decide_eq_false h)
 rw[d2]
 simp only[Bool.false_eq_true,if_false]
 by_cases h3:224≤s[k].toNat∧s[k].toNat<240
 ·rw[decide_eq_true h3.1,decide_eq_true h3.2,if_pos h3,b15]
  simp only[Bool.and_true,if_true,Qad]
  rw[Qv4 (by omega) (by omega)]
  have f:=fin (s[k].toNat % 16) 2048 2 (by omega) (by omega)
  rw[show((2:Nat):Int)=2 from rfl,show((2048:Nat):Int)=2048 from rfl] at f
  rw[f]
  have e:s[k].toNat % 16=s[k].toNat-224:=by omega
  rw[e]
  match s.drop (k+1) with
  | []=>rfl
  | [c1]=>rfl
  | c1::c2::r1 =>
   simp only[List.length_cons,if_neg (by omega:¬ r1.length+1+1<2),tailP]
   cases h:contB c1 with
   | false=>rfl
   | true =>
    cases h' : contB c2 with
    | false=>simp[endP]
    | true=>simp only[if_true,endP,true_and]
 rw[if_neg h3]
 have d3:(decide (224≤s[k].toNat)&&decide (s[k].toNat<240))=false:=by
  rw[Bool.and_eq_false_iff]
  by_cases h:224≤s[k].toNat
  ·exact .inr (decide_eq_false (by omega))
  ·exact .inl (decide_eq_false h)
 rw[d3]
 simp only[Bool.false_eq_true,if_false]
 by_cases h4:240≤s[k].toNat∧s[k].toNat<248
 ·rw[decide_eq_true h4.1,decide_eq_true h4.2,if_pos h4,b7]
  simp only[Bool.and_true,if_true,Qad]
  rw[Qv4 (by omega) (by omega)]
  have f:=fin (s[k].toNat % 8) 65536 3 (by omega) (by omega)
  rw[show((3:Nat):Int)=3 from rfl,show((65536:Nat):Int)=65536 from rfl] at f
  rw[f]
  have e:s[k].toNat % 8=s[k].toNat-240:=by omega
  rw[e]
  match s.drop (k+1) with
  | []=>rfl
  | [c1]=>rfl
  | [c1,c2]=>rfl
  | c1::c2::c3::r1 =>
   simp only[List.length_cons,if_neg (by omega:¬ r1.length+1+1+1<3),tailP]
   cases h:contB c1 with
   | false=>rfl
   | true =>
    cases h' : contB c2 with
    | false=>simp[endP]
    | true =>
     cases h'' : contB c3 with
     | false=>simp[endP]
     | true=>simp only[if_true,endP,true_and]
 rw[if_neg h4]
 have d4:(decide (240≤s[k].toNat)&&decide (s[k].toNat<248))=false:=by
  rw[Bool.and_eq_false_iff]
  by_cases h:240≤s[k].toNat
  ·exact .inr (decide_eq_false (by omega))
  ·exact .inl (decide_eq_false h)
 rw[d4]
 rfl
theorem Qyd (l:List UInt8) (h:l≠[]):1≤(nextP l).2∧(nextP l).2≤l.length:=by
 cases l with
 | nil=>exact absurd rfl h
 | cons c r =>
  rw[nextP]
  unfold nextC
  split
  ·simp
  ·split
   ·split
    ·split<;>simp
    ·simp
   ·split
    ·split
     ·split<;>simp
     ·simp
    ·split
     ·split
      ·split<;>simp
      ·simp
     ·simp
end Go.Proofs.YtfgegilhjlnohaaGreat
end
