/- The proof's texts, part 9 of 10: the walks by a logic in which data are by value, the plain laws, and at the end the law, for every input. -/
import Derived.Test.YtfgegilhjlnohaaMgCallsUses8

section
set_option linter.unusedVariables false
set_option linter.unusedSimpArgs false
set_option maxRecDepth 100000
set_option maxHeartbeats 4000000
namespace Go.Proofs.Ytfgegilhjlnohaa
open Go.RowKit
theorem Qms:∀ (p0:(List Qac)),(∀ (v22:Int) (o1:Unit⊕((List UInt8)×Int)),Qck p0 v22=some o1→TL (0,0) Try.prog 102 Qjv (JP2 (0,0) 102 o1 (.exit 0) (Qf9 p0) .ret (Qga p0)) (Qeo p0 v22)):=by
 intro p0
 refine Qck.partial_correctness p0 _ ?_
 intro Qck' iQck v22 o1 h
 refine TL.round (Qaj mixed tbOk (lv:=Qez) _ _ _ ?_)
 refine Qae h (fun hb h=>?_) (fun hb h=>?_)
 ·refine Qb4 (l:=p0) (c:=Qaf) (c' := Qaf) h (fun _=>rfl) (fun _=>rfl) (by decide) (fun x4 hi h=>?_)
  refine Qai h (fun o5 ho hk=>?_)
  refine Exists.intro (JP1 _ _ o5 .normal (Qod p0 v22 x4)) (And.intro ?_ (join1 ?_))
  ·have h:=ho
   refine Qal [sV x4.Name] Qea h (fun x6 hy=>(Qg5 x4.Name x6 hy)) (fun x6 hy h=>?_)
   refine Qae h (fun hb h=>?_) (fun hb h=>?_)
   ·refine JP1.a h ?_
    exact Le.tz 1 0 rfl rfl rfl
   ·refine Qal [.sl false (x4.L.map Qaa)] Qpw h (fun x7 hy=>(Qyy x4.L x7 hy)) (fun x7 hy h=>?_)
    refine JP1.a h ?_
    exact Le.tz 1 0 rfl rfl rfl
  ·have h:=hk
   refine Qae h (fun hb h=>?_) (fun hb h=>?_)
   ·exact JP2.b h (Le.tz 0 0 rfl rfl rfl)
   ·refine And.intro (by decide +kernel) (And.intro rfl ?_)
    refine Qzx (c:=Qaf) none (some v22) h (fun _=>rfl) (fun x8 hi h=>?_)
    refine Qov [.sl false (x8.map Qaf),sV x4.Name] Qfi h (fun x9 hy=>(Qjl x8 x4.Name x9 hy)) (fun x9 hy h=>?_)
    refine Qae h (fun hb h=>?_) (fun hb h=>?_)
    ·exact JP2.b h (Le.tz 0 0 rfl rfl rfl)
    ·refine TL.le (τ := Qeo p0 (wr (v22+1))) ?_ ((iQck (wr (v22+1)) _ h))
     exact Le.tz 0 0 rfl rfl rfl
 ·exact JP2.a h (Le.tz 0 0 rfl rfl rfl)
theorem Qnr:∀ (p0:(List Qac)) (v22:Int) (o1:Unit⊕((List UInt8)×Int)),Qck p0 v22=some o1→TL (0,0) Try.prog 102 Qjv (JP2 (0,0) 102 o1 (.exit 0) (Qf9 p0) .ret (Qga p0)) (Qeo p0 v22):=fun p0 v22=>(Qms p0) v22
noncomputable def Qcl (p0:(List Qac)) (x10:(List ((List UInt8)×(List (List UInt8))))) (v56:Int) (x14:Qac) (v66:Int):Option (Unit⊕Unit) :=
 if(decide (v66<(((mget (fun a b=>a==b) x14.Name x10).getD []).length:Int))) then
  idx ((mget (fun a b=>a==b) x14.Name x10).getD []) v66>>=fun x18 =>
  if(!((mget (fun a b=>a==b) x18 x10).isSome)) then
   some (.inr ())
  else
   Qcl p0 x10 v56 x14 (wr (v66+1))
 else
  some (.inl ())
 partial_fixpoint
theorem Qmt:∀ (p0:(List Qac)) (x10:(List ((List UInt8)×(List (List UInt8))))) (v56:Int) (x14:Qac),(∀ (v66:Int) (o15:Unit⊕Unit),Qcl p0 x10 v56 x14 v66=some o15→TL (0,0) Try.prog 102 Qjw (JP2 (0,0) 102 o15 (.exit 4) (Qgb p0 x10 v56 x14) .ret (Qgc p0 x10 v56 x14)) (Qep p0 x10 v56 x14 v66)):=by
 intro p0 x10 v56 x14
 refine Qcl.partial_correctness p0 x10 v56 x14 _ ?_
 intro Qcl' iQcl v66 o15 h
 refine TL.round (Qaj mixed tbOk (lv:=Qez) _ _ _ ?_)
 refine Qae h (fun hb h=>?_) (fun hb h=>?_)
 ·refine Qb4 (l:=((mget (fun a b=>a==b) x14.Name x10).getD [])) (c:=cStr) (c' := cStr) h (fun _=>rfl) (fun _=>rfl) (by decide) (fun x18 hi h=>?_)
  refine Qlt (l:=x10) (k:=x18) (fun a b=>a==b) (ck:=sV) (ca:=(fun x =>.sl false (x.map cStr))) (z0:=[]) (by exact rfl) (by exact rfl) (by exact rfl) (by exact fun _ _=>rfl) (by exact rfl) (by exact .not) ?_
  refine Qae h (fun hb h=>?_) (fun hb h=>?_)
  ·exact JP2.b h (Le.tz 3 0 rfl rfl rfl)
  ·refine TL.le (τ := Qep p0 x10 v56 x14 (wr (v66+1))) ?_ ((iQcl (wr (v66+1)) _ h))
   exact Le.tz 3 0 rfl rfl rfl
 ·exact JP2.a h (Le.tz 3 0 rfl rfl rfl)
theorem Qns:∀ (p0:(List Qac)) (x10:(List ((List UInt8)×(List (List UInt8))))) (v56:Int) (x14:Qac) (v66:Int) (o15:Unit⊕Unit),Qcl p0 x10 v56 x14 v66=some o15→TL (0,0) Try.prog 102 Qjw (JP2 (0,0) 102 o15 (.exit 4) (Qgb p0 x10 v56 x14) .ret (Qgc p0 x10 v56 x14)) (Qep p0 x10 v56 x14 v66):=fun p0 x10 v56 x14 v66=>(Qmt p0 x10 v56 x14) v66
noncomputable def Qcm (p0:(List Qac)) (x10:(List ((List UInt8)×(List (List UInt8))))) (v56:Int):Option (Unit⊕(List UInt8)) :=
 if(decide (v56<(p0.length:Int))) then
  idx p0 v56>>=fun x14 =>
  (Qcl p0 x10 v56 x14 0)>>=fun o15 =>
  match o15 with
  | .inl y16 =>
   Qcm p0 x10 (wr (v56+1))
  | .inr y17 =>
   some (.inr x14.Name)
 else
  some (.inl ())
 partial_fixpoint
theorem Qmu:∀ (p0:(List Qac)) (x10:(List ((List UInt8)×(List (List UInt8))))),(∀ (v56:Int) (o11:Unit⊕(List UInt8)),Qcm p0 x10 v56=some o11→TL (0,0) Try.prog 102 Qjx (JP2 (0,0) 102 o11 (.exit 2) (Qgd p0 x10) .ret (Qge p0 x10)) (Qeq p0 x10 v56)):=by
 intro p0 x10
 refine Qcm.partial_correctness p0 x10 _ ?_
 intro Qcm' iQcm v56 o11 h
 refine TL.round (Qaj mixed tbOk (lv:=Qez) _ _ _ ?_)
 refine Qae h (fun hb h=>?_) (fun hb h=>?_)
 ·refine Qb4 (l:=p0) (c:=Qaf) (c' := Qaf) h (fun _=>rfl) (fun _=>rfl) (by decide) (fun x14 hi h=>?_)
  refine Qlt (l:=x10) (k:=x14.Name) (fun a b=>a==b) (ck:=sV) (ca:=(fun x =>.sl false (x.map cStr))) (z0:=[]) (by exact rfl) (by exact rfl) (by exact rfl) (by exact fun _ _=>rfl) (by exact rfl) (by exact .not) ?_
  refine view (lenMap _ _) rfl ?_
  refine Qai h (fun o15 ho hk=>?_)
  refine Exists.intro (JP2 _ _ o15 (.exit 4) (Qgb p0 x10 v56 x14) .ret (Qgc p0 x10 v56 x14)) (And.intro (T_le (τ := Qep p0 x10 v56 x14 0) ?_ (TL.loop (Qns p0 x10 v56 x14 0 o15 ho))) (join2 (fun y16 hy=>?_) (fun y17 hy=>?_)))
  ·exact Le.tz 3 0 rfl rfl rfl
  ·have h:=(by rw[hy] at hk; exact hk)
   refine TL.le (τ := Qeq p0 x10 (wr (v56+1))) ?_ ((iQcm (wr (v56+1)) _ h))
   exact Le.tz 2 0 rfl rfl rfl
  ·have h:=(by rw[hy] at hk; exact hk)
   exact JP2.b h (Le.tz 2 0 rfl rfl rfl)
 ·exact JP2.a h (Le.tz 2 0 rfl rfl rfl)
theorem Qnt:∀ (p0:(List Qac)) (x10:(List ((List UInt8)×(List (List UInt8))))) (v56:Int) (o11:Unit⊕(List UInt8)),Qcm p0 x10 v56=some o11→TL (0,0) Try.prog 102 Qjx (JP2 (0,0) 102 o11 (.exit 2) (Qgd p0 x10) .ret (Qge p0 x10)) (Qeq p0 x10 v56):=fun p0 x10 v56=>(Qmu p0 x10) v56
noncomputable def Qbk (h0_0:(List ((List UInt8)×(List (List UInt8))))) (x1:(List (List UInt8))) (v17:Int) (h2_0:(List ((List UInt8)×Int))):Option (((List ((List UInt8)×Int)))) :=
 if(decide (v17<(x1.length:Int))) then
  idx x1 v17>>=fun x3 =>
  Qbk h0_0 x1 (wr (v17+1)) (mset (fun a b=>a==b) x3 1 h2_0)
 else
  some h2_0
 partial_fixpoint
theorem Qjn:∀ (h0_0:(List ((List UInt8)×(List (List UInt8))))) (x1:(List (List UInt8))),(∀ (v17:Int) (h2_0:(List ((List UInt8)×Int))) (o2:((List ((List UInt8)×Int)))),Qbk h0_0 x1 v17 h2_0=some o2→TL (1,0) Try.prog 56 Qg1 (JP1 (1,0) 56 o2 (.exit 0) (Qd3 h0_0 x1)) (Qc4 h0_0 x1 v17 h2_0)):=by
 intro h0_0 x1
 refine Qbk.partial_correctness h0_0 x1 _ ?_
 intro Qbk' iQbk v17 h2_0 o2 h
 refine TL.round (Qaj mixed tbOk (lv:=Qdt) _ _ _ ?_)
 refine Qae h (fun hb h=>?_) (fun hb h=>?_)
 ·refine Qs5 (l:=x1) (c:=cStr) (c' := cStr) h rfl (fun _=>rfl) (fun _=>rfl) (by decide) (fun x3 hi h=>?_)
  refine And.intro rfl (And.intro (Nat.le_of_ble_eq_true rfl) ?_)
  refine Qz9 (l:=h2_0) (k:=x3) (x:=1) (fun a b=>a==b) (ck:=sV) (ca:=iV) (by exact rfl) (by exact rfl) (by exact rfl) (by exact .refl _) (by exact fun _ _=>rfl) ?_
  refine TL.le (τ := Qc4 h0_0 x1 (wr (v17+1)) (mset (fun a b=>a==b) x3 1 h2_0)) ?_ ((iQbk (wr (v17+1)) (mset (fun a b=>a==b) x3 1 h2_0) _ h))
  exact Le.tz 3 1 rfl rfl rfl
 ·exact JP1.a h (Le.tz 3 1 rfl rfl rfl)
theorem Qj9:∀ (h0_0:(List ((List UInt8)×(List (List UInt8))))) (x1:(List (List UInt8))) (v17:Int) (h2_0:(List ((List UInt8)×Int))) (o2:((List ((List UInt8)×Int)))),Qbk h0_0 x1 v17 h2_0=some o2→TL (1,0) Try.prog 56 Qg1 (JP1 (1,0) 56 o2 (.exit 0) (Qd3 h0_0 x1)) (Qc4 h0_0 x1 v17 h2_0):=fun h0_0 x1 v17 h2_0=>(Qjn h0_0 x1) v17 h2_0
noncomputable def Qa8 (h0_0:(List ((List UInt8)×(List (List UInt8))))) (v9:Int) (x5:(List UInt8)) (v6_:(List (List UInt8))) (v38:Int) (h2_0_:(List ((List UInt8)×Int))):Option (((List (List UInt8))×(List ((List UInt8)×Int)))) :=
 if(decide (v38<(((mget (fun a b=>a==b) x5 h0_0).getD []).length:Int))) then
  idx ((mget (fun a b=>a==b) x5 h0_0).getD []) v38>>=fun x7 =>
  if(((mget (fun a b=>a==b) x7 h2_0_).getD 0)==0) then
   appL 16 v6_ [x7]>>=fun x8 =>
   Qa8 h0_0 v9 x5 x8 (wr (v38+1)) (mset (fun a b=>a==b) x7 1 h2_0_)
  else
   Qa8 h0_0 v9 x5 v6_ (wr (v38+1)) h2_0_
 else
  some (v6_,h2_0_)
 partial_fixpoint
theorem Qjo:∀ (h0_0:(List ((List UInt8)×(List (List UInt8))))) (v9:Int) (x5:(List UInt8)),(∀ (v6_:(List (List UInt8))) (v38:Int) (h2_0_:(List ((List UInt8)×Int))) (o6:((List (List UInt8))×(List ((List UInt8)×Int)))),Qa8 h0_0 v9 x5 v6_ v38 h2_0_=some o6→TL (1,0) Try.prog 56 Qg2 (JP1 (1,0) 56 o6 (.exit 4) (Qd4 h0_0 v9 x5)) (Qb5 h0_0 v9 x5 v6_ v38 h2_0_)):=by
 intro h0_0 v9 x5
 refine Qa8.partial_correctness h0_0 v9 x5 _ ?_
 intro Qa8' iQa8 v6_ v38 h2_0_ o6 h
 refine TL.round (Qaj mixed tbOk (lv:=Qdt) _ _ _ ?_)
 refine Qae h (fun hb h=>?_) (fun hb h=>?_)
 ·refine Qb4 (l:=((mget (fun a b=>a==b) x5 h0_0).getD [])) (c:=cStr) (c' := cStr) h (fun _=>rfl) (fun _=>rfl) (by decide) (fun x7 hi h=>?_)
  refine Qlt (l:=h2_0_) (k:=x7) (fun a b=>a==b) (ck:=sV) (ca:=iV) (z0:=0) (by exact rfl) (by exact rfl) (by exact rfl) (by exact fun _ _=>rfl) (by exact rfl) (by exact .refl _) ?_
  refine Qae h (fun hb h=>?_) (fun hb h=>?_)
  ·refine Qz9 (l:=h2_0_) (k:=x7) (x:=1) (fun a b=>a==b) (ck:=sV) (ca:=iV) (by exact rfl) (by exact rfl) (by exact rfl) (by exact .refl _) (by exact fun _ _=>rfl) ?_
   refine Qz2 (a:=v6_) (b:=[x7]) (c:=cStr) h (.refl _) (fun _=>rfl) rfl (fun x8 hi h=>?_)
   refine TL.le (τ := Qb5 h0_0 v9 x5 x8 (wr (v38+1)) (mset (fun a b=>a==b) x7 1 h2_0_)) ?_ ((iQa8 x8 (wr (v38+1)) (mset (fun a b=>a==b) x7 1 h2_0_) _ h))
   exact Le.trans (τ := ⟨[(2,.ptr 1 0),(5,.mh 2),(6,.x 0 2 (.sl 9 1 (x8.map cStr))),(9,.p (iV v9)),(36,.p (.sl false (((mget (fun a b=>a==b) x5 h0_0).getD []).map cStr))),(37,.p (iV (((mget (fun a b=>a==b) x5 h0_0).getD []).length:Int))),(38,.p (iV (wr (v38+1))))],⟨[[mpD sV (fun x =>.sl false (x.map cStr)) h0_0],[.mh 0],[mpD sV iV (mset (fun a b=>a==b) x7 1 h2_0_)]],[2]⟩⟩) (Le.tz 3 1 rfl rfl rfl) ((Le.ver (.s 6) 0 2 1 rfl rfl rfl rfl).trans (Le.tz 3 1 rfl rfl rfl))
  ·refine TL.le (τ := Qb5 h0_0 v9 x5 v6_ (wr (v38+1)) h2_0_) ?_ ((iQa8 v6_ (wr (v38+1)) h2_0_ _ h))
   exact Le.tz 3 1 rfl rfl rfl
 ·exact JP1.a h (Le.tz 3 1 rfl rfl rfl)
theorem Qka:∀ (h0_0:(List ((List UInt8)×(List (List UInt8))))) (v9:Int) (x5:(List UInt8)) (v6_:(List (List UInt8))) (v38:Int) (h2_0_:(List ((List UInt8)×Int))) (o6:((List (List UInt8))×(List ((List UInt8)×Int)))),Qa8 h0_0 v9 x5 v6_ v38 h2_0_=some o6→TL (1,0) Try.prog 56 Qg2 (JP1 (1,0) 56 o6 (.exit 4) (Qd4 h0_0 v9 x5)) (Qb5 h0_0 v9 x5 v6_ v38 h2_0_):=fun h0_0 v9 x5 v6_ v38 h2_0_=>(Qjo h0_0 v9 x5) v6_ v38 h2_0_
noncomputable def Qa9 (h0_0:(List ((List UInt8)×(List (List UInt8))))) (v6:(List (List UInt8))) (v9:Int) (h2_0:(List ((List UInt8)×Int))):Option (((List (List UInt8))×(List ((List UInt8)×Int)))) :=
 if(decide (v9<(v6.length:Int))) then
  idx v6 v9>>=fun x5 =>
  (Qa8 h0_0 v9 x5 v6 0 h2_0)>>=fun o6 =>
  Qa9 h0_0 o6.1 (wr (v9+1)) o6.2
 else
  some (v6,h2_0)
 partial_fixpoint
theorem Qjp:∀ (h0_0:(List ((List UInt8)×(List (List UInt8))))),(∀ (v6:(List (List UInt8))) (v9:Int) (h2_0:(List ((List UInt8)×Int))) (o4:((List (List UInt8))×(List ((List UInt8)×Int)))),Qa9 h0_0 v6 v9 h2_0=some o4→TL (1,0) Try.prog 56 Qg3 (JP1 (1,0) 56 o4 (.exit 2) (Qd5 h0_0)) (Qc5 h0_0 v6 v9 h2_0)):=by
 intro h0_0
 refine Qa9.partial_correctness h0_0 _ ?_
 intro Qa9' iQa9 v6 v9 h2_0 o4 h
 refine TL.round (Qaj mixed tbOk (lv:=Qdt) _ _ _ ?_)
 refine And.intro rfl (Exists.intro _ (And.intro (List.length_map _) ?_))
 refine Qae h (fun hb h=>?_) (fun hb h=>?_)
 ·refine And.intro (by decide +kernel) (And.intro rfl ?_)
  refine And.intro rfl ?_
  refine Qs5 (l:=v6) (c:=cStr) (c' := cStr) h rfl (fun _=>rfl) (fun _=>rfl) (by decide) (fun x5 hi h=>?_)
  refine And.intro rfl ?_
  refine And.intro rfl (And.intro (Nat.le_of_ble_eq_true rfl) ?_)
  refine And.intro rfl ?_
  refine Qlt (l:=h0_0) (k:=x5) (fun a b=>a==b) (ck:=sV) (ca:=(fun x =>.sl false (x.map cStr))) (z0:=[]) (by exact rfl) (by exact rfl) (by exact rfl) (by exact fun _ _=>rfl) (by exact rfl) (by exact .not) ?_
  refine view (lenMap _ _) rfl ?_
  refine Qai h (fun o6 ho hk=>?_)
  refine Exists.intro (JP1 _ _ o6 (.exit 4) (Qd4 h0_0 v9 x5)) (And.intro (T_le (τ := Qb5 h0_0 v9 x5 v6 0 h2_0) ?_ (TL.loop (Qka h0_0 v9 x5 v6 0 h2_0 o6 ho))) (join1 ?_))
  ·exact Le.tz 3 1 rfl rfl rfl
  have h:=hk
  refine TL.le (τ := Qc5 h0_0 o6.1 (wr (v9+1)) o6.2) ?_ ((iQa9 o6.1 (wr (v9+1)) o6.2 _ h))
  exact Le.tz 3 1 rfl rfl rfl
 ·exact JP1.a h (Le.tz 3 1 rfl rfl rfl)
theorem Qkb:∀ (h0_0:(List ((List UInt8)×(List (List UInt8))))) (v6:(List (List UInt8))) (v9:Int) (h2_0:(List ((List UInt8)×Int))) (o4:((List (List UInt8))×(List ((List UInt8)×Int)))),Qa9 h0_0 v6 v9 h2_0=some o4→TL (1,0) Try.prog 56 Qg3 (JP1 (1,0) 56 o4 (.exit 2) (Qd5 h0_0)) (Qc5 h0_0 v6 v9 h2_0):=fun h0_0 v6 v9 h2_0=>(Qjp h0_0) v6 v9 h2_0
noncomputable def Qb2 (p0:(List (List UInt8))):Option ((List (List UInt8))) :=
 appL 16 [] p0
theorem Qhg:∀ (p0:(List (List UInt8))) (o:(List (List UInt8))),Qb2 p0=some o→CallOK Try.prog 40 [.p (.sl false (p0.map cStr))] ⟨[],[]⟩ (Qch o) ⟨[],[1]⟩:=by
 intro p0 o h
 unfold Qb2 at h
 have h:(appL 16 ([]:List (List UInt8)) p0>>=fun r=>some r)=some o:=by rw[h]; rfl
 refine CallOK.ofB mixed tbOk Qg9 Try.func40 rfl (by kernel_rfl) (Nat.le_of_ble_eq_true rfl) rfl rfl rfl ?_
 refine⟨rfl,rfl,rfl,fun b hb=>?_⟩
 cases b with
 | true =>
  refine bT ?_
  obtain rfl:=List.map_eq_nil_iff.1 (hb rfl)
  have h:some ([]:List (List UInt8))=some o:=h
  refine Exists.intro _ (And.intro (Le.xnil (.s 2) 9 1 rfl) ?_)
  exact Qe7 (t:=Qch) (ss:=fun o=>⟨[],[1]⟩) h ⟨[0],rfl,.refl _,.refl _,rfl⟩
 | false =>
  refine bF ?_
  refine Q1a (a:=([]:List (List UInt8))) (b:=p0) (c:=cStr) h (.refl _) (.refl _) (fun _=>rfl) (.inl rfl) (fun r hi h=>?_)
  refine Exists.intro _ (And.intro (Le.refl _ _ _) ?_)
  exact Qe7 (t:=Qch) (ss:=fun o=>⟨[],[1]⟩) h ⟨[0],rfl,.refl _,.refl _,rfl⟩
noncomputable def Qc9 (p1:(List (List UInt8))) (h0_0:(List ((List UInt8)×(List (List UInt8))))):Option ((List (List UInt8))) :=
 Qb2 p1>>=fun x1 =>
 (Qbk h0_0 x1 0 [])>>=fun o2 =>
 (Qa9 h0_0 x1 0 o2)>>=fun o4 =>
 need (o4.1.length<4611686018427387904)>>=fun _ =>
 some (srtL o4.1)
theorem Qh4:∀ (p1:(List (List UInt8))) (h0_0:(List ((List UInt8)×(List (List UInt8))))) (o:(List (List UInt8))),Qc9 p1 h0_0=some o→CallOK Try.prog 26 [.agg [.mh 0],.p (.sl false (p1.map cStr))] ⟨[[mpD sV (fun x =>.sl false (x.map cStr)) h0_0]],[]⟩ (Qfp o) ⟨[[mpD sV (fun x =>.sl false (x.map cStr)) h0_0]],[]⟩:=by
 intro p1 h0_0 o h
 unfold Qc9 at h
 refine CallOK.ofB mixed tbOk Qdt Try.func26 rfl (by kernel_rfl) (Nat.le_of_ble_eq_true rfl) rfl rfl rfl ?_
 refine And.intro rfl (Exists.intro false ?_)
 refine Qds _ _ h (fun x1 hy=>((Qhg p1 x1 hy).fr [] [] rfl rfl rfl)) (fun x1 hy h=>?_)
 refine And.intro rfl (Exists.intro _ (And.intro (List.length_map _) ?_))
 refine Qai h (fun o2 ho hk=>?_)
 refine Exists.intro (JP1 _ _ o2 (.exit 0) (Qd3 h0_0 x1)) (And.intro (T_le (τ := Qc4 h0_0 x1 0 []) ?_ (TL.loop (Qj9 h0_0 x1 0 [] o2 ho))) (join1 ?_))
 ·exact Le.tz 3 1 rfl rfl rfl
 have h:=hk
 refine Qai h (fun o4 ho hk=>?_)
 refine Exists.intro (JP1 _ _ o4 (.exit 2) (Qd5 h0_0)) (And.intro (T_le (τ := Qc5 h0_0 x1 0 o2) ?_ (TL.loop (Qkb h0_0 x1 0 o2 o4 ho))) (join1 ?_))
 ·exact Le.tz 3 1 rfl rfl rfl
 have h:=hk
 refine Qhm h (fun hn0 h=>?_)
 refine Or.inl ?_
 refine⟨rfl,rfl,_,false,o4.1,(srtL o4.1),_,rfl,rfl,sortFn  hn0 ,rfl,rfl,?_⟩
 refine Exists.intro _ (And.intro (Le.trans (τ := ⟨[(4,.x 0 2 (.sl 9 1 ((srtL o4.1).map cStr)))],⟨[[mpD sV (fun x =>.sl false (x.map cStr)) h0_0]],[2]⟩⟩) (Le.tz 1 1 rfl rfl rfl) (Le.trans (τ := ⟨[(4,.x 0 2 (.sl 9 1 ((srtL o4.1).map cStr)))],⟨[[mpD sV (fun x =>.sl false (x.map cStr)) h0_0]],[2]⟩⟩) (Le.tz 1 1 rfl rfl rfl) ((Le.frzv (.s 4) 0 2 rfl rfl rfl rfl).trans (Le.refl _ _ _)))) ?_)
 refine Qe7 (t:=Qfp) (ss:=fun o=>⟨[[mpD sV (fun x =>.sl false (x.map cStr)) h0_0]],[]⟩) h ?_
 exact⟨[],rfl,.refl _,.refl _,rfl⟩
noncomputable def Qaq (p0:(List (List UInt8))) (p1:(List UInt8)) (v8:Int):Option (Unit⊕Int) :=
 if(decide (v8<(p0.length:Int))) then
  idx p0 v8>>=fun x4 =>
  if(p1==x4) then
   some (.inr v8)
  else
   Qaq p0 p1 (wr (v8+1))
 else
  some (.inl ())
 partial_fixpoint
theorem Qf0:∀ (p0:(List (List UInt8))) (p1:(List UInt8)),(∀ (v8:Int) (o1:Unit⊕Int),Qaq p0 p1 v8=some o1→TL (0,0) Try.prog 19 Qdl (JP2 (0,0) 19 o1 (.exit 0) (Qbz p0 p1) .ret (Qb0 p0 p1)) (Qbg p0 p1 v8)):=by
 intro p0 p1
 refine Qaq.partial_correctness p0 p1 _ ?_
 intro Qaq' iQaq v8 o1 h
 refine TL.round (Qaj mixed tbOk (lv:=Qdy) _ _ _ ?_)
 refine Qae h (fun hb h=>?_) (fun hb h=>?_)
 ·refine Qb4 (l:=p0) (c:=cStr) (c' := cStr) h (fun _=>rfl) (fun _=>rfl) (by decide) (fun x4 hi h=>?_)
  refine Qae h (fun hb h=>?_) (fun hb h=>?_)
  ·exact JP2.b h (Le.tz 0 0 rfl rfl rfl)
  ·refine TL.le (τ := Qbg p0 p1 (wr (v8+1))) ?_ ((iQaq (wr (v8+1)) _ h))
   exact Le.tz 0 0 rfl rfl rfl
 ·exact JP2.a h (Le.tz 0 0 rfl rfl rfl)
theorem Qf2:∀ (p0:(List (List UInt8))) (p1:(List UInt8)) (v8:Int) (o1:Unit⊕Int),Qaq p0 p1 v8=some o1→TL (0,0) Try.prog 19 Qdl (JP2 (0,0) 19 o1 (.exit 0) (Qbz p0 p1) .ret (Qb0 p0 p1)) (Qbg p0 p1 v8):=fun p0 p1 v8=>(Qf0 p0 p1) v8
noncomputable def Qb3 (p0:(List (List UInt8))) (p1:(List UInt8)):Option (Int) :=
 (Qaq p0 p1 0)>>=fun o1 =>
 match o1 with
 | .inl y2 =>
  some (-1)
 | .inr y3 =>
  some y3
theorem Qhh:∀ (p0:(List (List UInt8))) (p1:(List UInt8)) (o:Int),Qb3 p0 p1=some o→PCall Try.prog 39 [.sl false (p0.map cStr),sV p1] (Qbu o):=by
 intro p0 p1 o h
 unfold Qb3 at h
 refine PCall.ofB mixed tbOk Qdy Try.func39 rfl (by kernel_rfl) (Nat.le_of_ble_eq_true rfl) ?_
 refine view (lenMap _ _) rfl ?_
 refine Qai h (fun o1 ho hk=>?_)
 refine Exists.intro (JP2 _ _ o1 (.exit 0) (Qbz p0 p1) .ret (Qb0 p0 p1)) (And.intro (T_le (τ := Qbg p0 p1 0) ?_ (TL.loop (Qf2 p0 p1 0 o1 ho))) (join2 (fun y2 hy=>?_) (fun y3 hy=>?_)))
 ·exact Le.tz 0 0 rfl rfl rfl
 ·have h:=(by rw[hy] at hk; exact hk)
  refine Qat (t:=Qbu) h ?_
  exact .refl _
 ·have h:=(by rw[hy] at hk; exact hk)
  refine Qat (t:=Qbu) h ?_
  exact .refl _
noncomputable def Qa3 (p0:(List (List UInt8))) (p1:(List UInt8)):Option (Bool) :=
 Qb3 p0 p1>>=fun x1 =>
 some (decide (x1 ≥ 0))
theorem Qdh:∀ (p0:(List (List UInt8))) (p1:(List UInt8)) (o:Bool),Qa3 p0 p1=some o→PCall Try.prog 25 [.sl false (p0.map cStr),sV p1] (Qbl o):=by
 intro p0 p1 o h
 unfold Qa3 at h
 refine PCall.ofB mixed tbOk Qf1 Try.func25 rfl (by kernel_rfl) (Nat.le_of_ble_eq_true rfl) ?_
 refine Qal [.sl false (p0.map cStr),sV p1] Qbu h (fun x1 hy=>(Qhh p0 p1 x1 hy)) (fun x1 hy h=>?_)
 refine Qat (t:=Qbl) h ?_
 exact .refl _
noncomputable def Qcn (p0:(List Qac)) (x10:(List ((List UInt8)×(List (List UInt8))))) (v85:Int):Option (Unit⊕(List UInt8)) :=
 if(decide (v85<(p0.length:Int))) then
  idx p0 v85>>=fun x22 =>
  Qc9 ((mget (fun a b=>a==b) x22.Name x10).getD []) x10>>=fun x23 =>
  Qa3 x23 x22.Name>>=fun x24 =>
  if x24 then
   some (.inr x22.Name)
  else
   Qcn p0 x10 (wr (v85+1))
 else
  some (.inl ())
 partial_fixpoint
theorem Qmv:∀ (p0:(List Qac)) (x10:(List ((List UInt8)×(List (List UInt8))))),(∀ (v85:Int) (o19:Unit⊕(List UInt8)),Qcn p0 x10 v85=some o19→TL (0,0) Try.prog 102 Qjy (JP2 (0,0) 102 o19 (.exit 6) (Qgf p0 x10) .ret (Qgg p0 x10)) (Qer p0 x10 v85)):=by
 intro p0 x10
 refine Qcn.partial_correctness p0 x10 _ ?_
 intro Qcn' iQcn v85 o19 h
 refine TL.round (Qaj mixed tbOk (lv:=Qez) _ _ _ ?_)
 refine Qae h (fun hb h=>?_) (fun hb h=>?_)
 ·refine Qb4 (l:=p0) (c:=Qaf) (c' := Qaf) h (fun _=>rfl) (fun _=>rfl) (by decide) (fun x22 hi h=>?_)
  refine And.intro (by decide +kernel) (And.intro rfl ?_)
  refine And.intro rfl ?_
  refine Qlt (l:=x10) (k:=x22.Name) (fun a b=>a==b) (ck:=sV) (ca:=(fun x =>.sl false (x.map cStr))) (z0:=[]) (by exact rfl) (by exact rfl) (by exact rfl) (by exact fun _ _=>rfl) (by exact rfl) (by exact .not) ?_
  refine Qs2 (fun x23=>(Qfp x23).ren [0] []) h (fun x23 hy=>(Qh4 ((mget (fun a b=>a==b) x22.Name x10).getD []) x10 x23 hy).fd rfl rfl [0] rfl rfl) (fun x23 hy h=>?_)
  refine Qov [.sl false (x23.map cStr),sV x22.Name] Qbl h (fun x24 hy=>(Qdh x23 x22.Name x24 hy)) (fun x24 hy h=>?_)
  refine Qae h (fun hb h=>?_) (fun hb h=>?_)
  ·exact JP2.b h (Le.tz 2 0 rfl rfl rfl)
  ·refine TL.le (τ := Qer p0 x10 (wr (v85+1))) ?_ ((iQcn (wr (v85+1)) _ h))
   exact Le.tz 2 0 rfl rfl rfl
 ·exact JP2.a h (Le.tz 2 0 rfl rfl rfl)
theorem Qnu:∀ (p0:(List Qac)) (x10:(List ((List UInt8)×(List (List UInt8))))) (v85:Int) (o19:Unit⊕(List UInt8)),Qcn p0 x10 v85=some o19→TL (0,0) Try.prog 102 Qjy (JP2 (0,0) 102 o19 (.exit 6) (Qgf p0 x10) .ret (Qgg p0 x10)) (Qer p0 x10 v85):=fun p0 x10 v85=>(Qmv p0 x10) v85
mutual
noncomputable def Qco (p0:(List Qab)) (h0_0:(List (List UInt8))):Option ((List (List UInt8))) :=
 (Qcz p0 0 h0_0)>>=fun o1 =>
 some o1
 partial_fixpoint
noncomputable def Qcz (p0:(List Qab)) (v8:Int) (h0_0_:(List (List UInt8))):Option ((List (List UInt8))) :=
 if(decide (v8<(p0.length:Int))) then
  idx p0 v8>>=fun x2 =>
  ( if(x2.Kind==13) then
    appL 16 h0_0_ [x2.Name]>>=fun x4 =>
    some x4
   else
    some h0_0_:Option ((List (List UInt8))))>>=fun o3 =>
  Qco x2.Then o3>>=fun x5 =>
  Qco x2.Else x5>>=fun x6 =>
  Qcz p0 (wr (v8+1)) x6
 else
  some h0_0_
 partial_fixpoint
end
theorem Qom:(∀ (p0:(List Qab)) (h0_0:(List (List UInt8))) (o:(List (List UInt8))),Qco p0 h0_0=some o→CallOK Try.prog 15 [.p (.sl false (p0.map Qaa)),.ptr 0 0,.ptr 1 0] ⟨[[.x 0 (h0_0.length+1) (.sl 9 1 (h0_0.map cStr))],[.fn (.func 15) [] [.ptr 0 0,.ptr 1 0]]],[(h0_0.length+1)]⟩ (Qiq o) ⟨[[.x 0 (o.length+1) (.sl 9 1 (o.map cStr))],[.fn (.func 15) [] [.ptr 0 0,.ptr 1 0]]],[(o.length+1)]⟩)∧(∀ (p0:(List Qab)) (v8:Int) (h0_0_:(List (List UInt8))) (o1:(List (List UInt8))),Qcz p0 v8 h0_0_=some o1→TL (2,1) Try.prog 29 Qnn (JP1 (2,1) 29 o1 (.exit 0) (Qie p0)) (Qfo p0 v8 h0_0_)):=by
 refine Qco.mutual_partial_correctness _ _ ?_ ?_
 ·intro Qcz' iQcz p0 h0_0 o h
  refine CallOK.ofB mixed tbOk Qkn Try.func15 rfl (by kernel_rfl) (Nat.le_of_ble_eq_true rfl) rfl rfl rfl ?_
  refine view (lenMap _ _) rfl ?_
  refine Qai h (fun o1 ho hk=>?_)
  refine Exists.intro (JP1 _ _ o1 (.exit 0) (Qie p0)) (And.intro (T_le (τ := Qfo p0 0 h0_0) ?_ (TL.loop (iQcz p0 0 h0_0 o1 ho))) (join1 ?_))
  ·exact Le.tz 2 1 rfl rfl rfl
  have h:=hk
  refine Exists.intro _ (And.intro (Le.refl _ _ _) ?_)
  exact Qe7 (t:=Qiq) (ss:=fun o=>⟨[[.x 0 (o.length+1) (.sl 9 1 (o.map cStr))],[.fn (.func 15) [] [.ptr 0 0,.ptr 1 0]]],[(o.length+1)]⟩) h ⟨[0],rfl,.refl _,.refl _,rfl⟩
 ·intro Qco' Qcz' iQco iQcz p0 v8 h0_0_ o1 h
  refine TL.round (Qaj mixed tbOk (lv:=Qkn) _ _ _ ?_)
  refine Qae h (fun hb h=>?_) (fun hb h=>?_)
  ·refine Qb4 (l:=p0) (c:=Qaa) (c' := Qbw) h Qam (fun _=>rfl) (by decide) (fun x2 hi h=>?_)
   refine Qai h (fun o3 ho hk=>?_)
   refine Exists.intro (JP1 _ _ o3 .normal (Qnm p0 v8 x2)) (And.intro ?_ (join1 ?_))
   ·have h:=ho
    refine Qae h (fun hb h=>?_) (fun hb h=>?_)
    ·refine Q09 (a:=h0_0_) (b:=[x2.Name]) (c:=cStr) h (.refl _) (fun _=>rfl) rfl rfl (Nat.zero_lt_succ _) (fun x4 hi h=>?_)
     refine JP1.a h ?_
     exact Le.tz 3 1 rfl rfl rfl
    ·refine JP1.a h ?_
     exact Le.tz 3 1 rfl rfl rfl
   ·have h:=hk
    refine Qds _ _ h (fun x5 hy=>((iQco x2.Then o3 x5 hy).fr [0,1] [0] rfl rfl rfl)) (fun x5 hy h=>?_)
    refine Qds _ _ h (fun x6 hy=>((iQco x2.Else x5 x6 hy).fr [0,1] [0] rfl rfl rfl)) (fun x6 hy h=>?_)
    refine TL.le (τ := Qfo p0 (wr (v8+1)) x6) ?_ ((iQcz p0 (wr (v8+1)) x6 _ h))
    exact Le.tz 2 1 rfl rfl rfl
  ·exact JP1.a h (Le.tz 2 1 rfl rfl rfl)
theorem Qqg:∀ (p0:(List Qab)) (h0_0:(List (List UInt8))) (o:(List (List UInt8))),Qco p0 h0_0=some o→CallOK Try.prog 15 [.p (.sl false (p0.map Qaa)),.ptr 0 0,.ptr 1 0] ⟨[[.x 0 (h0_0.length+1) (.sl 9 1 (h0_0.map cStr))],[.fn (.func 15) [] [.ptr 0 0,.ptr 1 0]]],[(h0_0.length+1)]⟩ (Qiq o) ⟨[[.x 0 (o.length+1) (.sl 9 1 (o.map cStr))],[.fn (.func 15) [] [.ptr 0 0,.ptr 1 0]]],[(o.length+1)]⟩:=fun p0 h0_0=>Qom.1 p0 h0_0
noncomputable def Qht (p0:(List Qab)):Option ((List (List UInt8))) :=
 Qco p0 []>>=fun x1 =>
 need (x1.length<4611686018427387904)>>=fun _ =>
 need ((srtL x1).length<4611686018427387904)>>=fun _ =>
 some (Lib.compact (srtL x1))
theorem Qmw:∀ (p0:(List Qab)) (o:(List (List UInt8))),Qht p0=some o→CallOK Try.prog 9 [.p (.sl false (p0.map Qaa))] ⟨[],[]⟩ (Qid o) ⟨[],[]⟩:=by
 intro p0 o h
 unfold Qht at h
 refine CallOK.ofB mixed tbOk Qtd Try.func9 rfl (by kernel_rfl) (Nat.le_of_ble_eq_true rfl) rfl rfl rfl ?_
 refine Exists.intro _ (And.intro (Le.xnil (.h 0 0) 9 1 rfl) ?_)
 refine Qds _ _ h (fun x1 hy=>((Qqg p0 [] x1 hy).fr [0,1] [0] rfl rfl rfl)) (fun x1 hy h=>?_)
 refine Qhm h (fun hn0 h=>?_)
 refine Or.inl ?_
 refine⟨rfl,rfl,_,false,x1,(srtL x1),_,rfl,rfl,sortFn  hn0 ,rfl,rfl,?_⟩
 refine Qhm h (fun hn0 h=>?_)
 refine Or.inl ?_
 refine⟨rfl,rfl,_,true,(srtL x1),(Lib.compact (srtL x1)),_,rfl,rfl,compactFn  hn0 ,rfl,?_⟩
 refine Exists.intro _ (And.intro (Le.trans (τ := ⟨[(2,.x 0 (((x1.length+1)+1)+1) (.sl 9 1 ((Lib.compact (srtL x1)).map cStr)))],⟨[],[(((x1.length+1)+1)+1)]⟩⟩) (Le.tz 0 1 rfl rfl rfl) (Le.trans (τ := ⟨[(2,.x 0 (((x1.length+1)+1)+1) (.sl 9 1 ((Lib.compact (srtL x1)).map cStr)))],⟨[],[(((x1.length+1)+1)+1)]⟩⟩) (Le.tz 0 1 rfl rfl rfl) ((Le.verh 2 0 (((x1.length+1)+1)+1) 1 rfl rfl rfl rfl).trans ((Le.frzv (.s 2) 0 1 rfl rfl rfl rfl).trans (Le.refl _ _ _))))) ?_)
 exact Qe7 (t:=Qid) (ss:=fun o=>⟨[],[]⟩) h ⟨[],rfl,.refl _,.refl _,rfl⟩
noncomputable def Qb8 (p0:(List Qac)) (v12:Int) (h1_0:(List ((List UInt8)×(List (List UInt8))))):Option (((List ((List UInt8)×(List (List UInt8)))))) :=
 if(decide (v12<(p0.length:Int))) then
  idx p0 v12>>=fun x2 =>
  if(!((mget (fun a b=>a==b) x2.Name h1_0).isSome)) then
   Qht x2.L>>=fun x3 =>
   Qb8 p0 (wr (v12+1)) (mset (fun a b=>a==b) x2.Name x3 h1_0)
  else
   Qb8 p0 (wr (v12+1)) h1_0
 else
  some h1_0
 partial_fixpoint
theorem Qmx:∀ (p0:(List Qac)),(∀ (v12:Int) (h1_0:(List ((List UInt8)×(List (List UInt8))))) (o1:((List ((List UInt8)×(List (List UInt8)))))),Qb8 p0 v12 h1_0=some o1→TL (0,0) Try.prog 35 Qj1 (JP1 (0,0) 35 o1 (.exit 0) (Qgj p0)) (Qdk p0 v12 h1_0)):=by
 intro p0
 refine Qb8.partial_correctness p0 _ ?_
 intro Qb8' iQb8 v12 h1_0 o1 h
 refine TL.round (Qaj mixed tbOk (lv:=Qlo) _ _ _ ?_)
 refine Qae h (fun hb h=>?_) (fun hb h=>?_)
 ·refine Qb4 (l:=p0) (c:=Qaf) (c' := Qaf) h (fun _=>rfl) (fun _=>rfl) (by decide) (fun x2 hi h=>?_)
  refine Qlt (l:=h1_0) (k:=x2.Name) (fun a b=>a==b) (ck:=sV) (ca:=(fun x =>.sl false (x.map cStr))) (z0:=[]) (by exact rfl) (by exact rfl) (by exact rfl) (by exact fun _ _=>rfl) (by exact rfl) (by exact .not) ?_
  refine Qae h (fun hb h=>?_) (fun hb h=>?_)
  ·refine And.intro (by decide +kernel) (And.intro (by decide +kernel) (And.intro rfl ?_))
   refine Qs2 (fun x3=>(Qid x3).ren [] []) h (fun x3 hy=>(Qmw x2.L x3 hy).fd rfl rfl [] rfl rfl) (fun x3 hy h=>?_)
   refine Qz9 (l:=h1_0) (k:=x2.Name) (x:=x3) (fun a b=>a==b) (ck:=sV) (ca:=(fun x =>.sl false (x.map cStr))) (by exact rfl) (by exact rfl) (by exact rfl) (by exact .refl _) (by exact fun _ _=>rfl) ?_
   refine TL.le (τ := Qdk p0 (wr (v12+1)) (mset (fun a b=>a==b) x2.Name x3 h1_0)) ?_ ((iQb8 (wr (v12+1)) (mset (fun a b=>a==b) x2.Name x3 h1_0) _ h))
   exact Le.tz 3 0 rfl rfl rfl
  ·refine TL.le (τ := Qdk p0 (wr (v12+1)) h1_0) ?_ ((iQb8 (wr (v12+1)) h1_0 _ h))
   exact Le.tz 3 0 rfl rfl rfl
 ·exact JP1.a h (Le.tz 3 0 rfl rfl rfl)
theorem Qnv:∀ (p0:(List Qac)) (v12:Int) (h1_0:(List ((List UInt8)×(List (List UInt8))))) (o1:((List ((List UInt8)×(List (List UInt8)))))),Qb8 p0 v12 h1_0=some o1→TL (0,0) Try.prog 35 Qj1 (JP1 (0,0) 35 o1 (.exit 0) (Qgj p0)) (Qdk p0 v12 h1_0):=fun p0 v12 h1_0=>(Qmx p0) v12 h1_0
noncomputable def Qfc (p0:(List Qac)):Option ((List ((List UInt8)×(List (List UInt8))))) :=
 (Qb8 p0 0 [])>>=fun o1 =>
 some o1
theorem Qiv:∀ (p0:(List Qac)) (o:(List ((List UInt8)×(List (List UInt8))))),Qfc p0=some o→CallOK Try.prog 24 [.p (.sl false (p0.map Qaf))] ⟨[],[]⟩ (Qmj o) ⟨[[mpD sV (fun x =>.sl false (x.map cStr)) o]],[]⟩:=by
 intro p0 o h
 unfold Qfc at h
 refine CallOK.ofBN mixed tbOk Qlo Try.func24 rfl (by kernel_rfl) (Nat.le_of_ble_eq_true rfl) rfl rfl (Nat.le_of_ble_eq_true rfl) ?_
 refine And.intro rfl (Exists.intro false ?_)
 refine view (lenMap _ _) rfl ?_
 refine Qai h (fun o1 ho hk=>?_)
 refine Exists.intro (JP1 _ _ o1 (.exit 0) (Qgj p0)) (And.intro (T_le (τ := Qdk p0 0 []) ?_ (TL.loop (Qnv p0 0 [] o1 ho))) (join1 ?_))
 ·exact Le.tz 3 0 rfl rfl rfl
 have h:=hk
 refine Exists.intro _ (And.intro (Le.refl _ _ _) ?_)
 refine Qs6 (t:=Qmj) (ss:=fun o=>⟨[[mpD sV (fun x =>.sl false (x.map cStr)) o]],[]⟩) h ?_
 exact⟨[1],[],rfl,rfl,.refl _,.refl _,rfl,rfl⟩
noncomputable def Qfd (p0:(List Qac)):Option ((List UInt8)×Int) :=
 if(decide ((p0.length:Int)>16)) then
  some ([],5)
 else
  (Qck p0 0)>>=fun o1 =>
  match o1 with
  | .inl y2 =>
   Qfc p0>>=fun x10 =>
   (Qcm p0 x10 0)>>=fun o11 =>
   match o11 with
   | .inl y12 =>
    (Qcn p0 x10 0)>>=fun o19 =>
    match o19 with
    | .inl y20 =>
     some ([],0)
    | .inr y21 =>
     some (y21,10)
   | .inr y13 =>
    some (y13,4)
  | .inr y3 =>
   some (y3.1,y3.2)
theorem Qiw:∀ (p0:(List Qac)) (o:(List UInt8)×Int),Qfd p0=some o→PCall Try.prog 13 [.sl false (p0.map Qaf)] (Qcg o):=by
 intro p0 o h
 unfold Qfd at h
 refine PCall.ofB mixed tbOk Qez Try.func13 rfl (by kernel_rfl) (Nat.le_of_ble_eq_true rfl) ?_
 refine view (lenMap _ _) rfl ?_
 refine Qae h (fun hb h=>?_) (fun hb h=>?_)
 ·refine Qat (t:=Qcg) h ?_
  exact .refl _
 ·refine view (lenMap _ _) rfl ?_
  refine Qai h (fun o1 ho hk=>?_)
  refine Exists.intro (JP2 _ _ o1 (.exit 0) (Qf9 p0) .ret (Qga p0)) (And.intro (T_le (τ := Qeo p0 0) ?_ (TL.loop (Qnr p0 0 o1 ho))) (join2 (fun y2 hy=>?_) (fun y3 hy=>?_)))
  ·exact Le.tz 0 0 rfl rfl rfl
  ·have h:=(by rw[hy] at hk; exact hk)
   refine Qds _ _ h (fun x10 hy=>((Qiv p0 x10 hy).frN [] [] rfl rfl rfl)) (fun x10 hy h=>?_)
   refine view (lenMap _ _) rfl ?_
   refine Qai h (fun o11 ho hk=>?_)
   refine Exists.intro (JP2 _ _ o11 (.exit 2) (Qgd p0 x10) .ret (Qge p0 x10)) (And.intro (T_le (τ := Qeq p0 x10 0) ?_ (TL.loop (Qnt p0 x10 0 o11 ho))) (join2 (fun y12 hy=>?_) (fun y13 hy=>?_)))
   ·exact Le.tz 2 0 rfl rfl rfl
   ·have h:=(by rw[hy] at hk; exact hk)
    refine view (lenMap _ _) rfl ?_
    refine Qai h (fun o19 ho hk=>?_)
    refine Exists.intro (JP2 _ _ o19 (.exit 6) (Qgf p0 x10) .ret (Qgg p0 x10)) (And.intro (T_le (τ := Qer p0 x10 0) ?_ (TL.loop (Qnu p0 x10 0 o19 ho))) (join2 (fun y20 hy=>?_) (fun y21 hy=>?_)))
    ·exact Le.tz 2 0 rfl rfl rfl
    ·have h:=(by rw[hy] at hk; exact hk)
     refine Qat (t:=Qcg) h ?_
     exact .refl _
    ·have h:=(by rw[hy] at hk; exact hk)
     refine Qat (t:=Qcg) h ?_
     exact .refl _
   ·have h:=(by rw[hy] at hk; exact hk)
    refine Qat (t:=Qcg) h ?_
    exact .refl _
  ·have h:=(by rw[hy] at hk; exact hk)
   refine Qat (t:=Qcg) h ?_
   exact .refl _
noncomputable def Qcp (p0:(List Qac)) (x2:(List ((List UInt8)×(List (List UInt8))))) (v6:(List (List UInt8))) (v22:Int):Option ((List (List UInt8))) :=
 if(decide (v22<(p0.length:Int))) then
  idx p0 v22>>=fun x4 =>
  appL 16 v6 [x4.Name]>>=fun x5 =>
  Qcp p0 x2 x5 (wr (v22+1))
 else
  some v6
 partial_fixpoint
theorem Qmy:∀ (p0:(List Qac)) (x2:(List ((List UInt8)×(List (List UInt8))))),(∀ (v6:(List (List UInt8))) (v22:Int) (o3:(List (List UInt8))),Qcp p0 x2 v6 v22=some o3→TL (0,0) Try.prog 53 Qjz (JP1 (0,0) 53 o3 (.exit 0) (Qgh p0 x2)) (Qes p0 x2 v6 v22)):=by
 intro p0 x2
 refine Qcp.partial_correctness p0 x2 _ ?_
 intro Qcp' iQcp v6 v22 o3 h
 refine TL.round (Qaj mixed tbOk (lv:=Qip) _ _ _ ?_)
 refine Qae h (fun hb h=>?_) (fun hb h=>?_)
 ·refine Qb4 (l:=p0) (c:=Qaf) (c' := Qaf) h (fun _=>rfl) (fun _=>rfl) (by decide) (fun x4 hi h=>?_)
  refine Qz2 (a:=v6) (b:=[x4.Name]) (c:=cStr) h (.refl _) (fun _=>rfl) rfl (fun x5 hi h=>?_)
  refine TL.le (τ := Qes p0 x2 x5 (wr (v22+1))) ?_ ((iQcp x5 (wr (v22+1)) _ h))
  exact Le.trans (τ := ⟨[(5,.ptr 1 0),(6,.x 0 2 (.sl 9 1 (x5.map cStr))),(7,.ptr 2 0),(20,.p (.sl false (p0.map Qaf))),(21,.p (iV (p0.length:Int))),(22,.p (iV (wr (v22+1))))],⟨[[mpD sV (fun x =>.sl false (x.map cStr)) x2],[.mh 0],[.p (.sl true [])],[.p (sV x4.Name),.p (.sl false (x4.L.map Qaa))]],[2]⟩⟩) (Le.tz 4 1 rfl rfl rfl) ((Le.ver (.s 6) 0 2 1 rfl rfl rfl rfl).trans (Le.tz 3 1 rfl rfl rfl))
 ·exact JP1.a h (Le.tz 3 1 rfl rfl rfl)
theorem Qnw:∀ (p0:(List Qac)) (x2:(List ((List UInt8)×(List (List UInt8))))) (v6:(List (List UInt8))) (v22:Int) (o3:(List (List UInt8))),Qcp p0 x2 v6 v22=some o3→TL (0,0) Try.prog 53 Qjz (JP1 (0,0) 53 o3 (.exit 0) (Qgh p0 x2)) (Qes p0 x2 v6 v22):=fun p0 x2 v6 v22=>(Qmy p0 x2) v6 v22
noncomputable def Qev (p0:(List UInt8)) (h0_0:(List (List UInt8))):Option (Bool) :=
 Qa3 h0_0 p0>>=fun x1 =>
 some (!x1)
theorem Qli:∀ (p0:(List UInt8)) (h0_0:(List (List UInt8))) (o:Bool),Qev p0 h0_0=some o→CallOK Try.prog 33 [.p (sV p0),.ptr 0 0] ⟨[[.own 0 9 1 (h0_0.map cStr)]],[(h0_0.map cStr).length]⟩ (Qhz o) ⟨[[.own 0 9 1 (h0_0.map cStr)]],[(h0_0.map cStr).length]⟩:=by
 intro p0 h0_0 o h
 unfold Qev at h
 refine CallOK.ofB mixed tbOk Qlc Try.func33 rfl (by kernel_rfl) (Nat.le_of_ble_eq_true rfl) rfl rfl rfl ?_
 refine Qal [.sl false (h0_0.map cStr),sV p0] Qbl h (fun x1 hy=>(Qdh h0_0 p0 x1 hy)) (fun x1 hy h=>?_)
 refine Exists.intro _ (And.intro (Le.refl _ _ _) ?_)
 exact Qe7 (t:=Qhz) (ss:=fun o=>⟨[[.own 0 9 1 (h0_0.map cStr)]],[(h0_0.map cStr).length]⟩) h ⟨[0],rfl,.refl _,.refl _,rfl⟩
noncomputable def Qag (p0:(List (List UInt8))) (h0_0:(List (List UInt8))) (v8:Int):Option (Unit⊕Int) :=
 if(decide (v8<(p0.length:Int))) then
  idx p0 v8>>=fun x4 =>
  Qev x4 h0_0>>=fun x5 =>
  if x5 then
   some (.inr v8)
  else
   Qag p0 h0_0 (wr (v8+1))
 else
  some (.inl ())
 partial_fixpoint
theorem Qcb:∀ (p0:(List (List UInt8))) (h0_0:(List (List UInt8))),(∀ (v8:Int) (o1:Unit⊕Int),Qag p0 h0_0 v8=some o1→TL (1,1) Try.prog 19 Qbc (JP2 (1,1) 19 o1 (.exit 0) (Qav p0 h0_0) .ret (Qaw p0 h0_0)) (Qan p0 h0_0 v8)):=by
 intro p0 h0_0
 refine Qag.partial_correctness p0 h0_0 _ ?_
 intro Qag' iQag v8 o1 h
 refine TL.round (Qaj mixed tbOk (lv:=Qbi) _ _ _ ?_)
 refine Qae h (fun hb h=>?_) (fun hb h=>?_)
 ·refine Qb4 (l:=p0) (c:=cStr) (c' := cStr) h (fun _=>rfl) (fun _=>rfl) (by decide) (fun x4 hi h=>?_)
  refine Qds _ _ h (fun x5 hy=>((Qli x4 h0_0 x5 hy).fr [0] [0] rfl rfl rfl)) (fun x5 hy h=>?_)
  refine Qae h (fun hb h=>?_) (fun hb h=>?_)
  ·exact JP2.b h (Le.tz 1 1 rfl rfl rfl)
  ·refine TL.le (τ := Qan p0 h0_0 (wr (v8+1))) ?_ ((iQag (wr (v8+1)) _ h))
   exact Le.tz 1 1 rfl rfl rfl
 ·exact JP2.a h (Le.tz 1 1 rfl rfl rfl)
theorem Qce:∀ (p0:(List (List UInt8))) (h0_0:(List (List UInt8))) (v8:Int) (o1:Unit⊕Int),Qag p0 h0_0 v8=some o1→TL (1,1) Try.prog 19 Qbc (JP2 (1,1) 19 o1 (.exit 0) (Qav p0 h0_0) .ret (Qaw p0 h0_0)) (Qan p0 h0_0 v8):=fun p0 h0_0 v8=>(Qcb p0 h0_0) v8
noncomputable def Qas (p0:(List (List UInt8))) (h0_0:(List (List UInt8))):Option (Int) :=
 (Qag p0 h0_0 0)>>=fun o1 =>
 match o1 with
 | .inl y2 =>
  some (-1)
 | .inr y3 =>
  some y3
theorem Qc0:∀ (p0:(List (List UInt8))) (h0_0:(List (List UInt8))) (o:Int),Qas p0 h0_0=some o→CallOK Try.prog 30 [.p (.sl false (p0.map cStr)),.fn (.func 33) [] [.ptr 0 0]] ⟨[[.own 0 9 1 (h0_0.map cStr)]],[(h0_0.map cStr).length]⟩ (Qa2 o) ⟨[[.own 0 9 1 (h0_0.map cStr)]],[(h0_0.map cStr).length]⟩:=by
 intro p0 h0_0 o h
 unfold Qas at h
 refine CallOK.ofB mixed tbOk Qbi Try.func30 rfl (by kernel_rfl) (Nat.le_of_ble_eq_true rfl) rfl rfl rfl ?_
 refine view (lenMap _ _) rfl ?_
 refine Qai h (fun o1 ho hk=>?_)
 refine Exists.intro (JP2 _ _ o1 (.exit 0) (Qav p0 h0_0) .ret (Qaw p0 h0_0)) (And.intro (T_le (τ := Qan p0 h0_0 0) ?_ (TL.loop (Qce p0 h0_0 0 o1 ho))) (join2 (fun y2 hy=>?_) (fun y3 hy=>?_)))
 ·exact Le.tz 1 1 rfl rfl rfl
 ·have h:=(by rw[hy] at hk; exact hk)
  refine Exists.intro _ (And.intro (Le.refl _ _ _) ?_)
  exact Qe7 (t:=Qa2) (ss:=fun o=>⟨[[.own 0 9 1 (h0_0.map cStr)]],[(h0_0.map cStr).length]⟩) h ⟨[0],rfl,.refl _,.refl _,rfl⟩
 ·have h:=(by rw[hy] at hk; exact hk)
  refine Exists.intro _ (And.intro (Le.refl _ _ _) ?_)
  exact Qe7 (t:=Qa2) (ss:=fun o=>⟨[[.own 0 9 1 (h0_0.map cStr)]],[(h0_0.map cStr).length]⟩) h ⟨[0],rfl,.refl _,.refl _,rfl⟩
noncomputable def Qap (p0:(List (List UInt8))) (h0_0:(List (List UInt8))):Option (Bool) :=
 Qas p0 h0_0>>=fun x1 =>
 some (decide (x1 ≥ 0))
theorem Qcf:∀ (p0:(List (List UInt8))) (h0_0:(List (List UInt8))) (o:Bool),Qap p0 h0_0=some o→CallOK Try.prog 32 [.p (.sl false (p0.map cStr)),.fn (.func 33) [] [.ptr 0 0]] ⟨[[.own 0 9 1 (h0_0.map cStr)]],[(h0_0.map cStr).length]⟩ (Qbb o) ⟨[[.own 0 9 1 (h0_0.map cStr)]],[(h0_0.map cStr).length]⟩:=by
 intro p0 h0_0 o h
 unfold Qap at h
 refine CallOK.ofB mixed tbOk Qcd Try.func32 rfl (by kernel_rfl) (Nat.le_of_ble_eq_true rfl) rfl rfl rfl ?_
 refine Qds _ _ h (fun x1 hy=>((Qc0 p0 h0_0 x1 hy).fr [0] [0] rfl rfl rfl)) (fun x1 hy h=>?_)
 refine Exists.intro _ (And.intro (Le.refl _ _ _) ?_)
 exact Qe7 (t:=Qbb) (ss:=fun o=>⟨[[.own 0 9 1 (h0_0.map cStr)]],[(h0_0.map cStr).length]⟩) h ⟨[0],rfl,.refl _,.refl _,rfl⟩
noncomputable def Qej (p0:(List UInt8)) (h1_0:(List (List UInt8))) (h2_0:(List ((List UInt8)×(List (List UInt8))))):Option (Bool) :=
 Qap ((mget (fun a b=>a==b) p0 h2_0).getD []) h1_0>>=fun x1 =>
 some (!x1)
theorem Qmz:∀ (p0:(List UInt8)) (h1_0:(List (List UInt8))) (h2_0:(List ((List UInt8)×(List (List UInt8))))) (o:Bool),Qej p0 h1_0 h2_0=some o→CallOK Try.prog 31 [.p (sV p0),.ptr 0 0,.ptr 1 0] ⟨[[.mh 2],[.own 0 9 1 (h1_0.map cStr)],[mpD sV (fun x =>.sl false (x.map cStr)) h2_0]],[(h1_0.map cStr).length]⟩ (Qiz o) ⟨[[.mh 2],[.own 0 9 1 (h1_0.map cStr)],[mpD sV (fun x =>.sl false (x.map cStr)) h2_0]],[(h1_0.map cStr).length]⟩:=by
 intro p0 h1_0 h2_0 o h
 unfold Qej at h
 refine CallOK.ofB mixed tbOk Qmi Try.func31 rfl (by kernel_rfl) (Nat.le_of_ble_eq_true rfl) rfl rfl rfl ?_
 refine Qlt (l:=h2_0) (k:=p0) (fun a b=>a==b) (ck:=sV) (ca:=(fun x =>.sl false (x.map cStr))) (z0:=[]) (by exact rfl) (by exact rfl) (by exact rfl) (by exact fun _ _=>rfl) (by exact rfl) (by exact .not) ?_
 refine Qds _ _ h (fun x1 hy=>((Qcf ((mget (fun a b=>a==b) p0 h2_0).getD []) h1_0 x1 hy).fr [1] [0] rfl rfl rfl)) (fun x1 hy h=>?_)
 refine Exists.intro _ (And.intro (Le.refl _ _ _) ?_)
 refine Qe7 (t:=Qiz) (ss:=fun o=>⟨[[.mh 2],[.own 0 9 1 (h1_0.map cStr)],[mpD sV (fun x =>.sl false (x.map cStr)) h2_0]],[(h1_0.map cStr).length]⟩) h ?_
 exact⟨[0],rfl,.refl _,.refl _,rfl⟩
noncomputable def Qah (p0:(List (List UInt8))) (h1_0:(List (List UInt8))) (h2_0:(List ((List UInt8)×(List (List UInt8))))) (v8:Int):Option (Unit⊕Int) :=
 if(decide (v8<(p0.length:Int))) then
  idx p0 v8>>=fun x4 =>
  Qej x4 h1_0 h2_0>>=fun x5 =>
  if x5 then
   some (.inr v8)
  else
   Qah p0 h1_0 h2_0 (wr (v8+1))
 else
  some (.inl ())
 partial_fixpoint
theorem Qcj:∀ (p0:(List (List UInt8))) (h1_0:(List (List UInt8))) (h2_0:(List ((List UInt8)×(List (List UInt8))))),(∀ (v8:Int) (o1:Unit⊕Int),Qah p0 h1_0 h2_0 v8=some o1→TL (3,2) Try.prog 19 Qbj (JP2 (3,2) 19 o1 (.exit 0) (Qay p0 h1_0 h2_0) .ret (Qaz p0 h1_0 h2_0)) (Qao p0 h1_0 h2_0 v8)):=by
 intro p0 h1_0 h2_0
 refine Qah.partial_correctness p0 h1_0 h2_0 _ ?_
 intro Qah' iQah v8 o1 h
 refine TL.round (Qaj mixed tbOk (lv:=Qbn) _ _ _ ?_)
 refine Qae h (fun hb h=>?_) (fun hb h=>?_)
 ·refine Qs5 (l:=p0) (c:=cStr) (c' := cStr) h rfl (fun _=>rfl) (fun _=>rfl) (by decide) (fun x4 hi h=>?_)
  refine And.intro rfl (And.intro (Nat.le_of_ble_eq_true rfl) ?_)
  refine Qds _ _ h (fun x5 hy=>((Qmz x4 h1_0 h2_0 x5 hy).fr [0,1,2] [1] rfl rfl rfl)) (fun x5 hy h=>?_)
  refine Qae h (fun hb h=>?_) (fun hb h=>?_)
  ·exact JP2.b h (Le.tz 3 2 rfl rfl rfl)
  ·refine TL.le (τ := Qao p0 h1_0 h2_0 (wr (v8+1))) ?_ ((iQah (wr (v8+1)) _ h))
   exact Le.tz 3 2 rfl rfl rfl
 ·exact JP2.a h (Le.tz 3 2 rfl rfl rfl)
theorem Qct:∀ (p0:(List (List UInt8))) (h1_0:(List (List UInt8))) (h2_0:(List ((List UInt8)×(List (List UInt8))))) (v8:Int) (o1:Unit⊕Int),Qah p0 h1_0 h2_0 v8=some o1→TL (3,2) Try.prog 19 Qbj (JP2 (3,2) 19 o1 (.exit 0) (Qay p0 h1_0 h2_0) .ret (Qaz p0 h1_0 h2_0)) (Qao p0 h1_0 h2_0 v8):=fun p0 h1_0 h2_0 v8=>(Qcj p0 h1_0 h2_0) v8
noncomputable def Qau (p0:(List (List UInt8))) (h1_0:(List (List UInt8))) (h2_0:(List ((List UInt8)×(List (List UInt8))))):Option (Int) :=
 (Qah p0 h1_0 h2_0 0)>>=fun o1 =>
 match o1 with
 | .inl y2 =>
  some (-1)
 | .inr y3 =>
  some y3
theorem Qc6:∀ (p0:(List (List UInt8))) (h1_0:(List (List UInt8))) (h2_0:(List ((List UInt8)×(List (List UInt8))))) (o:Int),Qau p0 h1_0 h2_0=some o→CallOK Try.prog 30 [.x 0 (p0.length+1) (.sl 9 1 (p0.map cStr)),.fn (.func 31) [] [.ptr 0 0,.ptr 1 0]] ⟨[[.mh 2],[.own 1 9 1 (h1_0.map cStr)],[mpD sV (fun x =>.sl false (x.map cStr)) h2_0]],[(p0.length+1),(h1_0.map cStr).length]⟩ (Qa5 o) ⟨[[.mh 2],[.own 1 9 1 (h1_0.map cStr)],[mpD sV (fun x =>.sl false (x.map cStr)) h2_0]],[(p0.length+1),(h1_0.map cStr).length]⟩:=by
 intro p0 h1_0 h2_0 o h
 unfold Qau at h
 refine CallOK.ofB mixed tbOk Qbn Try.func30 rfl (by kernel_rfl) (Nat.le_of_ble_eq_true rfl) rfl rfl rfl ?_
 refine And.intro rfl (Exists.intro _ (And.intro (List.length_map _) ?_))
 refine Qai h (fun o1 ho hk=>?_)
 refine Exists.intro (JP2 _ _ o1 (.exit 0) (Qay p0 h1_0 h2_0) .ret (Qaz p0 h1_0 h2_0)) (And.intro (T_le (τ := Qao p0 h1_0 h2_0 0) ?_ (TL.loop (Qct p0 h1_0 h2_0 0 o1 ho))) (join2 (fun y2 hy=>?_) (fun y3 hy=>?_)))
 ·exact Le.tz 3 2 rfl rfl rfl
 ·have h:=(by rw[hy] at hk; exact hk)
  refine Exists.intro _ (And.intro (Le.refl _ _ _) ?_)
  refine Qe7 (t:=Qa5) (ss:=fun o=>⟨[[.mh 2],[.own 1 9 1 (h1_0.map cStr)],[mpD sV (fun x =>.sl false (x.map cStr)) h2_0]],[(p0.length+1),(h1_0.map cStr).length]⟩) h ?_
  exact⟨[0,1],rfl,.refl _,.refl _,rfl⟩
 ·have h:=(by rw[hy] at hk; exact hk)
  refine Exists.intro _ (And.intro (Le.refl _ _ _) ?_)
  refine Qe7 (t:=Qa5) (ss:=fun o=>⟨[[.mh 2],[.own 1 9 1 (h1_0.map cStr)],[mpD sV (fun x =>.sl false (x.map cStr)) h2_0]],[(p0.length+1),(h1_0.map cStr).length]⟩) h ?_
  exact⟨[0,1],rfl,.refl _,.refl _,rfl⟩
noncomputable def Qcq (x2:(List ((List UInt8)×(List (List UInt8))))) (v6:(List (List UInt8))) (h2_0:(List (List UInt8))):Option ((List (List UInt8))) :=
 if(decide ((v6.length:Int)>0)) then
  Qau v6 h2_0 x2>>=fun x7 =>
  idx v6 x7>>=fun x8 =>
  appL 16 h2_0 [x8]>>=fun x9 =>
  need (v6.length<4611686018427387904)>>=fun _ =>
  need (0≤x7)>>=fun _ =>
  need (x7<(wr (x7+1)))>>=fun _ =>
  need ((wr (x7+1))≤(v6.length:Int))>>=fun _ =>
  Qcq x2 (delL v6 x7 (wr (x7+1))) x9
 else
  some h2_0
 partial_fixpoint
theorem Qm0:∀ (x2:(List ((List UInt8)×(List (List UInt8))))),(∀ (v6:(List (List UInt8))) (h2_0:(List (List UInt8))) (o6:(List (List UInt8))),Qcq x2 v6 h2_0=some o6→TL (0,0) Try.prog 53 Qj0 (JP1 (0,0) 53 o6 (.exit 2) (Qgi x2)) (Qet x2 v6 h2_0)):=by
 intro x2
 refine Qcq.partial_correctness x2 _ ?_
 intro Qcq' iQcq v6 h2_0 o6 h
 refine TL.round (Qaj mixed tbOk (lv:=Qip) _ _ _ ?_)
 refine And.intro rfl (Exists.intro _ (And.intro (List.length_map _) ?_))
 refine Qae h (fun hb h=>?_) (fun hb h=>?_)
 ·refine Exists.intro _ (And.intro (Le.trans (τ := ⟨[(5,.ptr 1 0),(6,.x 0 1 (.sl 9 1 (v6.map cStr))),(7,.ptr 2 0),(36,.p (bV (decide ((v6.length:Int)>0))))],⟨[[mpD sV (fun x =>.sl false (x.map cStr)) x2],[.mh 0],[.own 1 9 1 (h2_0.map cStr)]],[1,(h2_0.map cStr).length]⟩⟩) (Le.tz 3 2 rfl rfl rfl) (Le.ver (.s 6) 0 1 (v6.length+1) rfl rfl rfl rfl)) ?_)
  refine Qds _ _ h (fun x7 hy=>((Qc6 v6 h2_0 x2 x7 hy).fr [1,2,0] [0,1] rfl rfl rfl)) (fun x7 hy h=>?_)
  refine And.intro (by decide +kernel) (And.intro rfl ?_)
  refine And.intro rfl ?_
  refine Qs5 (l:=v6) (c:=cStr) (c' := cStr) h rfl (fun _=>rfl) (fun _=>rfl) (by decide) (fun x8 hi h=>?_)
  refine And.intro rfl ?_
  refine And.intro rfl (And.intro (Nat.le_of_ble_eq_true rfl) ?_)
  refine Qje (a:=h2_0) (b:=[x8]) (c:=cStr) h (.refl _) (fun _=>rfl) rfl (fun x9 hi h=>?_)
  refine Qhm h (fun hn0 h=>?_)
  refine Qhm h (fun hn1 h=>?_)
  refine Qhm h (fun hn2 h=>?_)
  refine Qhm h (fun hn3 h=>?_)
  refine Or.inl ?_
  refine⟨rfl,rfl,_,true,v6,(delL v6 x7 (wr (x7+1))),_,rfl,rfl,deleteFn x7 (wr (x7+1)) hn0 hn1 hn2 hn3,rfl,?_⟩
  refine TL.le (τ := Qet x2 (delL v6 x7 (wr (x7+1))) x9) ?_ ((iQcq (delL v6 x7 (wr (x7+1))) x9 _ h))
  exact Le.trans (τ := ⟨[(5,.ptr 1 0),(6,.x 0 ((v6.length+1)+1) (.sl 9 1 ((delL v6 x7 (wr (x7+1))).map cStr))),(7,.ptr 2 0)],⟨[[mpD sV (fun x =>.sl false (x.map cStr)) x2],[.mh 0],[.own 1 9 1 (x9.map cStr)]],[((v6.length+1)+1),(x9.map cStr).length]⟩⟩) (Le.tz 3 2 rfl rfl rfl) ((Le.verh 6 0 ((v6.length+1)+1) 1 rfl rfl rfl rfl).trans (Le.tz 3 2 rfl rfl rfl))
 ·exact JP1.a h (Le.tz 3 2 rfl rfl rfl)
theorem Qnx:∀ (x2:(List ((List UInt8)×(List (List UInt8))))) (v6:(List (List UInt8))) (h2_0:(List (List UInt8))) (o6:(List (List UInt8))),Qcq x2 v6 h2_0=some o6→TL (0,0) Try.prog 53 Qj0 (JP1 (0,0) 53 o6 (.exit 2) (Qgi x2)) (Qet x2 v6 h2_0):=fun x2 v6 h2_0=>(Qm0 x2) v6 h2_0
noncomputable def Qh5 (p0:(List Qac)):Option ((List (List UInt8))) :=
 Qfd p0>>=fun x1 =>
 if(x1.2 != 0) then
  some []
 else
  Qfc p0>>=fun x2 =>
  (Qcp p0 x2 [] 0)>>=fun o3 =>
  need (o3.length<4611686018427387904)>>=fun _ =>
  (Qcq x2 (srtL o3) [])>>=fun o6 =>
  some o6
theorem Qrl:∀ (p0:(List Qac)) (o:(List (List UInt8))),Qh5 p0=some o→PCall Try.prog 20 [.sl false (p0.map Qaf)] (Qhn o):=by
 intro p0 o h
 unfold Qh5 at h
 refine PCall.ofB mixed tbOk Qip Try.func20 rfl (by kernel_rfl) (Nat.le_of_ble_eq_true rfl) ?_
 refine Qal [.sl false (p0.map Qaf)] Qcg h (fun x1 hy=>(Qiw p0 x1 hy)) (fun x1 hy h=>?_)
 refine Qae h (fun hb h=>?_) (fun hb h=>?_)
 ·refine Qat (t:=Qhn) h ?_
  exact .p (.not)
 ·refine Qds _ _ h (fun x2 hy=>((Qiv p0 x2 hy).frN [] [] rfl rfl rfl)) (fun x2 hy h=>?_)
  refine view (lenMap _ _) rfl ?_
  refine Qai h (fun o3 ho hk=>?_)
  refine Exists.intro (JP1 _ _ o3 (.exit 0) (Qgh p0 x2)) (And.intro (T_le (τ := Qes p0 x2 [] 0) ?_ (TL.loop (Qnw p0 x2 [] 0 o3 ho))) (join1 ?_))
  ·exact(Le.xnil (.s 6) 9 1 rfl).trans (Le.tz 3 1 rfl rfl rfl)
  have h:=hk
  refine Qhm h (fun hn0 h=>?_)
  refine Or.inl ?_
  refine⟨rfl,rfl,_,false,o3,(srtL o3),_,rfl,rfl,sortFn  hn0 ,rfl,rfl,?_⟩
  refine Qai h (fun o6 ho hk=>?_)
  refine Exists.intro (JP1 _ _ o6 (.exit 2) (Qgi x2)) (And.intro (T_le (τ := Qet x2 (srtL o3) []) ?_ (TL.loop (Qnx x2 (srtL o3) [] o6 ho))) (join1 ?_))
  ·exact Le.trans (τ := ⟨[(5,.ptr 1 0),(6,.x 0 2 (.sl 9 1 ((srtL o3).map cStr))),(7,.ptr 2 0)],⟨[[mpD sV (fun x =>.sl false (x.map cStr)) x2],[.mh 0],[.p (.sl true [])]],[2]⟩⟩) (Le.tz 3 1 rfl rfl rfl) ((Le.ver (.s 6) 0 2 1 rfl rfl rfl rfl).trans ((Le.ownH 2 0 9 1 rfl rfl sizeNil).trans (Le.tz 3 2 rfl rfl rfl)))
  have h:=hk
  refine Qat (t:=Qhn) h ?_
  exact .refl _
noncomputable def Qh6 (p0:(List Qac)) (p1:(List UInt8)):Option ((List (List UInt8))) :=
 Qfd p0>>=fun x1 =>
 if(x1.2 != 0) then
  some []
 else
  Qgm p0 p1>>=fun x2 =>
  if(!x2.2) then
   some []
  else
   Qfc p0>>=fun x3 =>
   Qc9 [p1] x3>>=fun x4 =>
   some x4
theorem Qrm:∀ (p0:(List Qac)) (p1:(List UInt8)) (o:(List (List UInt8))),Qh6 p0 p1=some o→PCall Try.prog 21 [.sl false (p0.map Qaf),sV p1] (Qfn o):=by
 intro p0 p1 o h
 unfold Qh6 at h
 refine PCall.ofB mixed tbOk Qqv Try.func21 rfl (by kernel_rfl) (Nat.le_of_ble_eq_true rfl) ?_
 refine Qal [.sl false (p0.map Qaf)] Qcg h (fun x1 hy=>(Qiw p0 x1 hy)) (fun x1 hy h=>?_)
 refine Qae h (fun hb h=>?_) (fun hb h=>?_)
 ·refine Qat (t:=Qfn) h ?_
  exact .p (.not)
 ·refine Qal [.sl false (p0.map Qaf),sV p1] Qfi h (fun x2 hy=>(Qjl p0 p1 x2 hy)) (fun x2 hy h=>?_)
  refine Qae h (fun hb h=>?_) (fun hb h=>?_)
  ·refine Qat (t:=Qfn) h ?_
   exact .p (.not)
  ·refine Qds _ _ h (fun x3 hy=>((Qiv p0 x3 hy).frN [] [] rfl rfl rfl)) (fun x3 hy h=>?_)
   refine Qds _ _ h (fun x4 hy=>((Qh4 [p1] x3 x4 hy).fr [0] [] rfl rfl rfl).weakC (.cons (.refl _) (.cons (.p (.not)) (.nil)))) (fun x4 hy h=>?_)
   refine Qat (t:=Qfn) h ?_
   exact .refl _
mutual
noncomputable def Qa0 (p0:(List Qab)) (p1:Int) (p2:Int):Option ((List Qab)×Int) :=
 (Qbo p0 p1 p2 [] 0)>>=fun o1 =>
 some (o1.2,o1.1)
 partial_fixpoint
noncomputable def Qbo (p0:(List Qab)) (p1:Int) (v2:Int) (v8:(List Qab)) (v9:Int):Option ((Int×(List Qab))) :=
 ( if(decide (v9<(p0.length:Int))) then
   if(decide (v2>0)) then
    some (decide (p1>0))
   else
    some false
  else
   some false:Option (Bool))>>=fun o2 =>
 if o2 then
  idx p0 v9>>=fun x3 =>
  cutL x3.Name 0 (if 40<(x3.Name.length:Int) then 40 else(x3.Name.length:Int))>>=fun x4 =>
  cutL x3.Text 0 (if 60<(x3.Text.length:Int) then 60 else(x3.Text.length:Int))>>=fun x5 =>
  Qa0 x3.L (wr (p1-1)) (wr (v2-1))>>=fun x6 =>
  Qa0 x3.Then (wr (p1-1)) x6.2>>=fun x7 =>
  Qa0 x3.Else (wr (p1-1)) x7.2>>=fun x8 =>
  appL 120 v8 [(Qab.mk x3.Kind x4 x5 x3.N x6.1 x7.1 x8.1)]>>=fun x9 =>
  Qbo p0 p1 x8.2 x9 (wr (v9+1))
 else
  some (v2,v8)
 partial_fixpoint
end
theorem Qkw:(∀ (p0:(List Qab)) (p1:Int) (p2:Int) (o:(List Qab)×Int),Qa0 p0 p1 p2=some o→PCall Try.prog 14 [.sl false (p0.map Qaa),iV p1,iV p2] (Qbt o))∧(∀ (p0:(List Qab)) (p1:Int) (v2:Int) (v8:(List Qab)) (v9:Int) (o1:(Int×(List Qab))),Qbo p0 p1 v2 v8 v9=some o1→TL (0,0) Try.prog 88 Qj7 (JP1 (0,0) 88 o1 (.exit 0) (Qfr p0 p1)) (Qdu p0 p1 v2 v8 v9)):=by
 refine Qa0.mutual_partial_correctness _ _ ?_ ?_
 ·intro Qbo' iQbo p0 p1 p2 o h
  refine PCall.ofB mixed tbOk Qhi Try.func14 rfl (by kernel_rfl) (Nat.le_of_ble_eq_true rfl) ?_
  refine Qai h (fun o1 ho hk=>?_)
  refine Exists.intro (JP1 _ _ o1 (.exit 0) (Qfr p0 p1)) (And.intro (T_le (τ := Qdu p0 p1 p2 [] 0) ?_ (TL.loop (iQbo p0 p1 p2 [] 0 o1 ho))) (join1 ?_))
  ·exact Le.trans (τ := ⟨[(0,.p (.sl false (p0.map Qaa))),(1,.p (iV p1)),(2,.p (iV p2)),(8,.p (.sl true [])),(9,.p (iV 0))],⟨[],[]⟩⟩) (Le.tz 0 0 rfl rfl rfl) ((Le.own 8 45 7 rfl sizeNil).trans (Le.tz 0 1 rfl rfl rfl))
  have h:=hk
  refine Qat (t:=Qbt) h ?_
  exact .refl _
 ·intro Qa0' Qbo' iQa0 iQbo p0 p1 v2 v8 v9 o1 h
  refine TL.round (Qaj mixed tbOk (lv:=Qhi) _ _ _ ?_)
  refine Qai h (fun o2 ho hk=>?_)
  refine Exists.intro (JP1 _ _ o2 .normal (Qj6 p0 p1 v2 v8 v9)) (And.intro ?_ (join1 ?_))
  ·have h:=ho
   refine view (lenMap _ _) rfl ?_
   refine Qae h (fun hb h=>?_) (fun hb h=>?_)
   ·refine Qae h (fun hb h=>?_) (fun hb h=>?_)
    ·refine JP1.a h ?_
     exact Le.tz 0 1 rfl rfl rfl
    ·refine JP1.a h ?_
     exact Le.tz 0 1 rfl rfl rfl
   ·refine bF ?_
    refine JP1.a h ?_
    exact Le.tz 0 1 rfl rfl rfl
  ·have h:=hk
   refine Qae h (fun hb h=>?_) (fun hb h=>?_)
   ·refine Qb4 (l:=p0) (c:=Qaa) (c' := Qbw) h Qam (fun _=>rfl) (by decide) (fun x3 hi h=>?_)
    refine And.intro (by decide +kernel) (And.intro rfl ?_)
    refine vrfl ?_
    refine Qpm none (some (if 40<(x3.Name.length:Int) then 40 else(x3.Name.length:Int))) h (fun x4 hi h=>?_)
    refine vrfl ?_
    refine Qpm none (some (if 60<(x3.Text.length:Int) then 60 else(x3.Text.length:Int))) h (fun x5 hi h=>?_)
    refine Qal [.sl false (x3.L.map Qaa),iV (wr (p1-1)),iV (wr (v2-1))] Qbt h (fun x6 hy=>(iQa0 x3.L (wr (p1-1)) (wr (v2-1)) x6 hy)) (fun x6 hy h=>?_)
    refine Qal [.sl false (x3.Then.map Qaa),iV (wr (p1-1)),iV x6.2] Qbt h (fun x7 hy=>(iQa0 x3.Then (wr (p1-1)) x6.2 x7 hy)) (fun x7 hy h=>?_)
    refine Qal [.sl false (x3.Else.map Qaa),iV (wr (p1-1)),iV x7.2] Qbt h (fun x8 hy=>(iQa0 x3.Else (wr (p1-1)) x7.2 x8 hy)) (fun x8 hy h=>?_)
    refine Qje (a:=v8) (b:=[(Qab.mk x3.Kind x4 x5 x3.N x6.1 x7.1 x8.1)]) (c:=Qaa) h (.cons (.ceq (Qam _) (.refl _)) (.nil)) (fun x=>by rw[Qam]; rfl) rfl (fun x9 hi h=>?_)
    refine TL.le (τ := Qdu p0 p1 x8.2 x9 (wr (v9+1))) ?_ ((iQbo p0 p1 x8.2 x9 (wr (v9+1)) _ h))
    exact Le.tz 0 1 rfl rfl rfl
   ·exact JP1.a h (Le.tz 0 1 rfl rfl rfl)
theorem Qlj:∀ (p0:(List Qab)) (p1:Int) (p2:Int) (o:(List Qab)×Int),Qa0 p0 p1 p2=some o→PCall Try.prog 14 [.sl false (p0.map Qaa),iV p1,iV p2] (Qbt o):=fun p0 p1 p2=>Qkw.1 p0 p1 p2
noncomputable def Qc1 (p0:(List UInt8)):Option (Qab) :=
 some (Qab.mk 13 p0 [] 0 ([(Qab.mk 4 [105,116] [] 0 [] [] [])]) [] [])
theorem Qd7:∀ (p0:(List UInt8)) (o:Qab),Qc1 p0=some o→PCall Try.prog 19 [sV p0] (Qcr o):=by
 intro p0 o h
 unfold Qc1 at h
 refine PCall.ofB mixed tbOk Qml Try.func19 rfl (by kernel_rfl) (Nat.le_of_ble_eq_true rfl) ?_
 refine Qat (t:=Qcr) h ?_
 exact .p (.agg' (.cons (.refl _) (.cons (.refl _) (.cons (.refl _) (.cons (.refl _) (.cons (.no (.cons (.ceq (Qam _) (.cons (.refl _) (.cons (.refl _) (.cons (.refl _) (.cons (.refl _) (.cons (.not) (.cons (.not) (.cons (.not) (.nil))))))))) (.nil))) (.cons (.not) (.cons (.not) (.nil)))))))))
noncomputable def Qdp:Option (Bool) :=
 Qc1 [98]>>=fun x1 =>
 Qc1 [99]>>=fun x2 =>
 Qc1 [99]>>=fun x3 =>
 Qc1 [97]>>=fun x4 =>
 Qfd ([(Qac.mk [97] [x4])])>>=fun x5 =>
 ( Qh5 ([(Qac.mk [97] [x1,x2]),(Qac.mk [98] [x3]),(Qac.mk [99] [])])>>=fun x7 =>
  Qjk x7 ([[99],[98],[97]])>>=fun x8 =>
  if x8 then
   Qh6 ([(Qac.mk [97] [x1,x2]),(Qac.mk [98] [x3]),(Qac.mk [99] [])]) [98]>>=fun x9 =>
   Qjk x9 ([[98],[99]])>>=fun x10 =>
   if x10 then
    if(x5.1==[97]) then
     some (x5.2==10)
    else
     some false
   else
    some false
  else
   some false:Option (Bool))>>=fun o6 =>
 some o6
theorem Qlk:∀ (o:Bool),Qdp  = some o→PCall Try.prog 12 [] (Qe9 o):=by
 intro o h
 unfold Qdp at h
 refine PCall.ofB mixed tbOk Qle Try.func12 rfl (by kernel_rfl) (Nat.le_of_ble_eq_true rfl) ?_
 refine Qal [sV [98]] Qcr h (fun x1 hy=>(Qd7 [98] x1 hy)) (fun x1 hy h=>?_)
 refine Qal [sV [99]] Qcr h (fun x2 hy=>(Qd7 [99] x2 hy)) (fun x2 hy h=>?_)
 refine Qal [sV [99]] Qcr h (fun x3 hy=>(Qd7 [99] x3 hy)) (fun x3 hy h=>?_)
 refine Qal [sV [97]] Qcr h (fun x4 hy=>(Qd7 [97] x4 hy)) (fun x4 hy h=>?_)
 refine Qal [.sl true [[sV [97],.sl true [[iV x4.Kind,sV x4.Name,sV x4.Text,iV x4.N,.sl false (x4.L.map Qaa),.sl false (x4.Then.map Qaa),.sl false (x4.Else.map Qaa)]]]]] Qcg h (fun x5 hy=>(Qiw ([(Qac.mk [97] [x4])]) x5 hy).weak (.cons (.no (.cons (.cons (.refl _) (.cons (.no (.cons (.ceq (Qam _) (.refl _)) (.nil))) (.nil))) (.nil))) (.nil))) (fun x5 hy h=>?_)
 refine Qai h (fun o6 ho hk=>?_)
 refine Exists.intro (JP1 _ _ o6 .normal (Qj8 )) (And.intro ?_ (join1 ?_))
 ·have h:=ho
  refine Qal [.sl true [[sV [97],.sl true [[iV x1.Kind,sV x1.Name,sV x1.Text,iV x1.N,.sl false (x1.L.map Qaa),.sl false (x1.Then.map Qaa),.sl false (x1.Else.map Qaa)],[iV x2.Kind,sV x2.Name,sV x2.Text,iV x2.N,.sl false (x2.L.map Qaa),.sl false (x2.Then.map Qaa),.sl false (x2.Else.map Qaa)]]],[sV [98],.sl true [[iV x3.Kind,sV x3.Name,sV x3.Text,iV x3.N,.sl false (x3.L.map Qaa),.sl false (x3.Then.map Qaa),.sl false (x3.Else.map Qaa)]]],[sV [99],.sl true []]]] Qhn h (fun x7 hy=>(Qrl ([(Qac.mk [97] [x1,x2]),(Qac.mk [98] [x3]),(Qac.mk [99] [])]) x7 hy).weak (.cons (.no (.cons (.cons (.refl _) (.cons (.no (.cons (.ceq (Qam _) (.refl _)) (.cons (.ceq (Qam _) (.refl _)) (.nil)))) (.nil))) (.cons (.cons (.refl _) (.cons (.no (.cons (.ceq (Qam _) (.refl _)) (.nil))) (.nil))) (.cons (.cons (.refl _) (.cons (.not) (.nil))) (.nil))))) (.nil))) (fun x7 hy h=>?_)
  refine Qal [.sl false (x7.map cStr),.sl true [[sV [99]],[sV [98]],[sV [97]]]] Qf8 h (fun x8 hy=>(Qlx x7 ([[99],[98],[97]]) x8 hy).weak (.cons (.refl _) (.cons (.not) (.nil)))) (fun x8 hy h=>?_)
  refine Qae h (fun hb h=>?_) (fun hb h=>?_)
  ·refine Qal [.sl true [[sV [97],.sl true [[iV x1.Kind,sV x1.Name,sV x1.Text,iV x1.N,.sl false (x1.L.map Qaa),.sl false (x1.Then.map Qaa),.sl false (x1.Else.map Qaa)],[iV x2.Kind,sV x2.Name,sV x2.Text,iV x2.N,.sl false (x2.L.map Qaa),.sl false (x2.Then.map Qaa),.sl false (x2.Else.map Qaa)]]],[sV [98],.sl true [[iV x3.Kind,sV x3.Name,sV x3.Text,iV x3.N,.sl false (x3.L.map Qaa),.sl false (x3.Then.map Qaa),.sl false (x3.Else.map Qaa)]]],[sV [99],.sl true []]],sV [98]] Qfn h (fun x9 hy=>(Qrm ([(Qac.mk [97] [x1,x2]),(Qac.mk [98] [x3]),(Qac.mk [99] [])]) [98] x9 hy).weak (.cons (.no (.cons (.cons (.refl _) (.cons (.no (.cons (.ceq (Qam _) (.refl _)) (.cons (.ceq (Qam _) (.refl _)) (.nil)))) (.nil))) (.cons (.cons (.refl _) (.cons (.no (.cons (.ceq (Qam _) (.refl _)) (.nil))) (.nil))) (.cons (.cons (.refl _) (.cons (.not) (.nil))) (.nil))))) (.cons (.refl _) (.nil)))) (fun x9 hy h=>?_)
   refine Qal [.sl false (x9.map cStr),.sl true [[sV [98]],[sV [99]]]] Qf8 h (fun x10 hy=>(Qlx x9 ([[98],[99]]) x10 hy).weak (.cons (.refl _) (.cons (.not) (.nil)))) (fun x10 hy h=>?_)
   refine Qae h (fun hb h=>?_) (fun hb h=>?_)
   ·refine Qae h (fun hb h=>?_) (fun hb h=>?_)
    ·refine JP1.a h ?_
     exact Le.tz 0 0 rfl rfl rfl
    ·refine JP1.a h ?_
     exact Le.tz 0 0 rfl rfl rfl
   ·refine bF ?_
    refine JP1.a h ?_
    exact Le.tz 0 0 rfl rfl rfl
  ·refine bF ?_
   refine bF ?_
   refine JP1.a h ?_
   exact Le.tz 0 0 rfl rfl rfl
 ·have h:=hk
  refine Qat (t:=Qe9) h ?_
  exact .refl _
noncomputable def Qa1 (x1:(List Qac)) (x2:(List Qab)×Bool) (x3:(List Qab)×Bool) (v9:Int):Option (Unit⊕Unit) :=
 if(decide (v9<(x1.length:Int))) then
  idx x1 v9>>=fun x7 =>
  Qht x7.L>>=fun x8 =>
  idx x1 v9>>=fun x9 =>
  Qe6 x9.L>>=fun x10 =>
  Qjk x8 x10>>=fun x11 =>
  if(!x11) then
   some (.inr ())
  else
   Qa1 x1 x2 x3 (wr (v9+1))
 else
  some (.inl ())
 partial_fixpoint
theorem Qho:∀ (x1:(List Qac)) (x2:(List Qab)×Bool) (x3:(List Qab)×Bool),(∀ (v9:Int) (o4:Unit⊕Unit),Qa1 x1 x2 x3 v9=some o4→TL (0,0) Try.prog 55 Qew (JP2 (0,0) 55 o4 (.exit 0) (Qcw x1 x2 x3) .ret (Qcx x1 x2 x3)) (Qbv x1 x2 x3 v9)):=by
 intro x1 x2 x3
 refine Qa1.partial_correctness x1 x2 x3 _ ?_
 intro Qa1' iQa1 v9 o4 h
 refine TL.round (Qaj mixed tbOk (lv:=Qfj) _ _ _ ?_)
 refine view (lenMap _ _) rfl ?_
 refine Qae h (fun hb h=>?_) (fun hb h=>?_)
 ·refine And.intro (by decide +kernel) (And.intro rfl ?_)
  refine Qb4 (l:=x1) (c:=Qaf) (c' := Qaf) h (fun _=>rfl) (fun _=>rfl) (by decide) (fun x7 hi h=>?_)
  refine Qs2 (fun x8=>(Qid x8).ren [] []) h (fun x8 hy=>(Qmw x7.L x8 hy).fd rfl rfl [] rfl rfl) (fun x8 hy h=>?_)
  refine Qb4 (l:=x1) (c:=Qaf) (c' := Qaf) h (fun _=>rfl) (fun _=>rfl) (by decide) (fun x9 hi h=>?_)
  refine Qs3 _ _ h (fun x10 hy=>((Qwt x9.L x10 hy).ft rfl [] rfl rfl rfl)) (fun x10 hy h=>?_)
  refine Qov [.sl false (x8.map cStr),.sl false (x10.map cStr)] Qf8 h (fun x11 hy=>(Qlx x8 x10 x11 hy)) (fun x11 hy h=>?_)
  refine Qae h (fun hb h=>?_) (fun hb h=>?_)
  ·exact JP2.b h (Le.tz 0 0 rfl rfl rfl)
  ·refine TL.le (τ := Qbv x1 x2 x3 (wr (v9+1))) ?_ ((iQa1 (wr (v9+1)) _ h))
   exact Le.tz 0 0 rfl rfl rfl
 ·exact JP2.a h (Le.tz 0 0 rfl rfl rfl)
theorem Qh7:∀ (x1:(List Qac)) (x2:(List Qab)×Bool) (x3:(List Qab)×Bool) (v9:Int) (o4:Unit⊕Unit),Qa1 x1 x2 x3 v9=some o4→TL (0,0) Try.prog 55 Qew (JP2 (0,0) 55 o4 (.exit 0) (Qcw x1 x2 x3) .ret (Qcx x1 x2 x3)) (Qbv x1 x2 x3 v9):=fun x1 x2 x3 v9=>(Qho x1 x2 x3) v9
noncomputable def Qbr (p0:(List Qac)) (p1:Int) (v5:(List Qac)) (v6:Int):Option ((List Qac)) :=
 ( if(decide (v6<(p0.length:Int))) then
   some (decide (v6<p1))
  else
   some false:Option (Bool))>>=fun o2 =>
 if o2 then
  idx p0 v6>>=fun x3 =>
  Qa0 x3.L 14 40>>=fun x4 =>
  idx p0 v6>>=fun x5 =>
  idx p0 v6>>=fun x6 =>
  cutL x5.Name 0 (if 40<(x6.Name.length:Int) then 40 else(x6.Name.length:Int))>>=fun x7 =>
  appL 40 v5 [(Qac.mk x7 x4.1)]>>=fun x8 =>
  Qbr p0 p1 x8 (wr (v6+1))
 else
  some v5
 partial_fixpoint
theorem Qkc:∀ (p0:(List Qac)) (p1:Int),(∀ (v5:(List Qac)) (v6:Int) (o1:(List Qac)),Qbr p0 p1 v5 v6=some o1→TL (0,0) Try.prog 49 Qhj (JP1 (0,0) 49 o1 (.exit 0) (Qd9 p0 p1)) (Qda p0 p1 v5 v6)):=by
 intro p0 p1
 refine Qbr.partial_correctness p0 p1 _ ?_
 intro Qbr' iQbr v5 v6 o1 h
 refine TL.round (Qaj mixed tbOk (lv:=Qif) _ _ _ ?_)
 refine Qai h (fun o2 ho hk=>?_)
 refine Exists.intro (JP1 _ _ o2 .normal (Qld p0 p1 v5 v6)) (And.intro ?_ (join1 ?_))
 ·have h:=ho
  refine view (lenMap _ _) rfl ?_
  refine Qae h (fun hb h=>?_) (fun hb h=>?_)
  ·refine JP1.a h ?_
   exact Le.tz 0 1 rfl rfl rfl
  ·refine JP1.a h ?_
   exact Le.tz 0 1 rfl rfl rfl
 ·have h:=hk
  refine Qae h (fun hb h=>?_) (fun hb h=>?_)
  ·refine Qb4 (l:=p0) (c:=Qaf) (c' := Qaf) h (fun _=>rfl) (fun _=>rfl) (by decide) (fun x3 hi h=>?_)
   refine Qal [.sl false (x3.L.map Qaa),iV 14,iV 40] Qbt h (fun x4 hy=>(Qlj x3.L 14 40 x4 hy)) (fun x4 hy h=>?_)
   refine And.intro (by decide +kernel) (And.intro rfl ?_)
   refine Qb4 (l:=p0) (c:=Qaf) (c' := Qaf) h (fun _=>rfl) (fun _=>rfl) (by decide) (fun x5 hi h=>?_)
   refine Qb4 (l:=p0) (c:=Qaf) (c' := Qaf) h (fun _=>rfl) (fun _=>rfl) (by decide) (fun x6 hi h=>?_)
   refine vrfl ?_
   refine Qpm none (some (if 40<(x6.Name.length:Int) then 40 else(x6.Name.length:Int))) h (fun x7 hi h=>?_)
   refine Qje (a:=v5) (b:=[(Qac.mk x7 x4.1)]) (c:=Qaf) h (.refl _) (fun _=>rfl) rfl (fun x8 hi h=>?_)
   refine TL.le (τ := Qda p0 p1 x8 (wr (v6+1))) ?_ ((iQbr x8 (wr (v6+1)) _ h))
   exact Le.tz 0 1 rfl rfl rfl
  ·exact JP1.a h (Le.tz 0 1 rfl rfl rfl)
theorem Qkx:∀ (p0:(List Qac)) (p1:Int) (v5:(List Qac)) (v6:Int) (o1:(List Qac)),Qbr p0 p1 v5 v6=some o1→TL (0,0) Try.prog 49 Qhj (JP1 (0,0) 49 o1 (.exit 0) (Qd9 p0 p1)) (Qda p0 p1 v5 v6):=fun p0 p1 v5 v6=>(Qkc p0 p1) v5 v6
noncomputable def Qek (p0:(List Qac)) (p1:Int):Option ((List Qac)) :=
 (Qbr p0 p1 [] 0)>>=fun o1 =>
 some o1
theorem Qm1:∀ (p0:(List Qac)) (p1:Int) (o:(List Qac)),Qek p0 p1=some o→PCall Try.prog 5 [.sl false (p0.map Qaf),iV p1] (Qgk o):=by
 intro p0 p1 o h
 unfold Qek at h
 refine PCall.ofB mixed tbOk Qif Try.func5 rfl (by kernel_rfl) (Nat.le_of_ble_eq_true rfl) ?_
 refine Qai h (fun o1 ho hk=>?_)
 refine Exists.intro (JP1 _ _ o1 (.exit 0) (Qd9 p0 p1)) (And.intro (T_le (τ := Qda p0 p1 [] 0) ?_ (TL.loop (Qkx p0 p1 [] 0 o1 ho))) (join1 ?_))
 ·exact Le.trans (τ := ⟨[(0,.p (.sl false (p0.map Qaf))),(1,.p (iV p1)),(5,.p (.sl true [])),(6,.p (iV 0))],⟨[],[]⟩⟩) (Le.tz 0 0 rfl rfl rfl) ((Le.own 5 31 2 rfl sizeNil).trans (Le.tz 0 1 rfl rfl rfl))
 have h:=hk
 refine Qat (t:=Qgk) h ?_
 exact .refl _
noncomputable def Qb9 (p0:(List Qac)) (p1:(List UInt8)):Option (Bool) :=
 Qek p0 20>>=fun x1 =>
 Qgm x1 p1>>=fun x2 =>
 Qmo x1 p1>>=fun x3 =>
 (Qa1 x1 x2 x3 0)>>=fun o4 =>
 match o4 with
 | .inl y5 =>
  ( if(x2.2==x3.2) then
    Qfv x2.1 x3.1>>=fun x13 =>
    if x13 then
     Qdp>>=fun x14 =>
     some x14
    else
     some false
   else
    some false:Option (Bool))>>=fun o12 =>
  some o12
 | .inr y6 =>
  some false
theorem Qi5:∀ (p0:(List Qac)) (p1:(List UInt8)) (o:Bool),Qb9 p0 p1=some o→PCall Try.prog 3 [.sl false (p0.map Qaf),sV p1] (Qdv o):=by
 intro p0 p1 o h
 unfold Qb9 at h
 refine PCall.ofB mixed tbOk Qfj Try.func3 rfl (by kernel_rfl) (Nat.le_of_ble_eq_true rfl) ?_
 refine Qal [.sl false (p0.map Qaf),iV 20] Qgk h (fun x1 hy=>(Qm1 p0 20 x1 hy)) (fun x1 hy h=>?_)
 refine Qal [.sl false (x1.map Qaf),sV p1] Qfi h (fun x2 hy=>(Qjl x1 p1 x2 hy)) (fun x2 hy h=>?_)
 refine Qal [.sl false (x1.map Qaf),sV p1] Qk8 h (fun x3 hy=>(Qws x1 p1 x3 hy)) (fun x3 hy h=>?_)
 refine Qai h (fun o4 ho hk=>?_)
 refine Exists.intro (JP2 _ _ o4 (.exit 0) (Qcw x1 x2 x3) .ret (Qcx x1 x2 x3)) (And.intro (T_le (τ := Qbv x1 x2 x3 0) ?_ (TL.loop (Qh7 x1 x2 x3 0 o4 ho))) (join2 (fun y5 hy=>?_) (fun y6 hy=>?_)))
 ·exact Le.tz 0 0 rfl rfl rfl
 ·have h:=(by rw[hy] at hk; exact hk)
  refine Qai h (fun o12 ho hk=>?_)
  refine Exists.intro (JP1 _ _ o12 .normal (Qh8 )) (And.intro ?_ (join1 ?_))
  ·have h:=ho
   refine Qae h (fun hb h=>?_) (fun hb h=>?_)
   ·refine Qal [.sl false (x2.1.map Qaa),.sl false (x3.1.map Qaa)] Qen h (fun x13 hy=>(Qwr x2.1 x3.1 x13 hy)) (fun x13 hy h=>?_)
    refine Qae h (fun hb h=>?_) (fun hb h=>?_)
    ·refine Qal [] Qe9 h (fun x14 hy=>(Qlk x14 hy)) (fun x14 hy h=>?_)
     refine JP1.a h ?_
     exact Le.tz 0 0 rfl rfl rfl
    ·refine JP1.a h ?_
     exact Le.tz 0 0 rfl rfl rfl
   ·refine bF ?_
    refine JP1.a h ?_
    exact Le.tz 0 0 rfl rfl rfl
  ·have h:=hk
   refine Qat (t:=Qdv) h ?_
   exact .refl _
 ·have h:=(by rw[hy] at hk; exact hk)
  refine Qat (t:=Qdv) h ?_
  exact .refl _
end Go.Proofs.Ytfgegilhjlnohaa
end

section
namespace Go.Proofs.Ytfgegilhjlnohaa
open Go.RowKit
mutual
def nn:Qab→Nat
 | ⟨_,_,_,_,a,b,c⟩=>1+nns a+nns b+nns c
def nns:List Qab→Nat
 | []=>0
 | x::r=>nn x+nns r
end
mutual
def dp:Qab→Nat
 | ⟨_,_,_,_,a,b,c⟩=>1+max (dps a) (max (dps b) (dps c))
def dps:List Qab→Nat
 | []=>0
 | x::r=>max (dp x) (dps r)
end
mutual
def sm:Qab→Prop
 | ⟨_,s,t,_,a,b,c⟩=>s.length≤40∧t.length≤60∧sms a∧sms b∧sms c
def sms:List Qab→Prop
 | []=>True
 | x::r=>sm x∧sms r
end
theorem nn_eq (x:Qab):nn x=1+nns x.L+nns x.Then+nns x.Else:=by cases x; rw[nn]
theorem dp_eq (x:Qab):dp x=1+max (dps x.L) (max (dps x.Then) (dps x.Else)):=by cases x; rw[dp]
theorem sm_eq (x:Qab):sm x↔(x.Name.length≤40∧x.Text.length≤60∧sms x.L∧sms x.Then∧sms x.Else):=by cases x; rw[sm]
theorem Qn8 (x:Qab):1≤nn x:=by rw[nn_eq]; omega
theorem Qjq:∀ l:List Qab,l.length≤nns l
 | []=>by simp[nns]
 | x::r=>by have:=Qjq r; have:=Qn8 x; simp[nns]; omega
theorem Qjr:∀ {l:List Qab} {x:Qab},x ∈ l→nn x≤nns l
 | y::r,x,h=>by
  rcases List.mem_cons.1 h with rfl | h
  ·simp[nns]
  ·have:=Qjr h; simp[nns]; omega
def lightG (g:List Qab→Nat→List Qab×Nat):List Qab→Nat→List Qab×Nat
 | [],n=>([],n)
 | x::r,n=>if n=0 then([],0) else
  (⟨x.Kind,x.Name.take 40,x.Text.take 60,x.N,(g x.L (n-1)).1,(g x.Then (g x.L (n-1)).2).1,(g x.Else (g x.Then (g x.L (n-1)).2).2).1⟩ ::
   (lightG g r (g x.Else (g x.Then (g x.L (n-1)).2).2).2).1,(lightG g r (g x.Else (g x.Then (g x.L (n-1)).2).2).2).2)
def lightP:Nat→List Qab→Nat→List Qab×Nat
 | 0,_,n=>([],n)
 | d+1,l,n=>lightG (lightP d) l n
def LG (d:Nat) (g:List Qab→Nat→List Qab×Nat):Prop:=∀ (l:List Qab) (n:Nat),nns (g l n).1+(g l n).2=n∧dps (g l n).1≤d∧sms (g l n).1
theorem Q0e {d:Nat} {g:List Qab→Nat→List Qab×Nat} (hg:LG d g):LG (d+1) (lightG g):=fun l=>by
 induction l with
 | nil=>intro n; simp[lightG,nns,dps,sms]
 | cons x r ih =>
  intro n
  unfold lightG
  split
  ·subst_vars; simp[nns,dps,sms]
  ·obtain⟨a1,a2,a3⟩:=hg x.L (n-1)
   obtain⟨b1,b2,b3⟩:=hg x.Then (g x.L (n-1)).2
   obtain⟨c1,c2,c3⟩:=hg x.Else (g x.Then (g x.L (n-1)).2).2
   obtain⟨d1,d2,d3⟩:=ih (g x.Else (g x.Then (g x.L (n-1)).2).2).2
   simp only[nns,nn_eq,dps,dp_eq,sms,sm_eq]
   refine⟨by omega,by omega,⟨?_,?_,a3,b3,c3⟩,d3⟩
   ·simp; omega
   ·simp; omega
theorem Qi6:∀ d,LG d (lightP d)
 | 0=>fun l n=>by simp[lightP,nns,dps,sms]
 | d+1=>Q0e (Qi6 d)
theorem takeMin {l:List UInt8} {k:Nat}:(l.take (if(k:Int)<(l.length:Int) then(k:Int) else(l.length:Int)).toNat).drop (0:Int).toNat=l.take k:=by
 split
 ·simp
 ·simp
  rw[List.take_of_length_le (by omega)]
theorem cutMin (l:List UInt8) (k:Nat):cutL l 0 (if(k:Int)<(l.length:Int) then(k:Int) else(l.length:Int))=some (l.take k):=by
 rw[Qnj (by omega) (by split<;>omega) (by split<;>omega),takeMin]
def LIs (g:List Qab→Nat→List Qab×Nat) (f:List Qab→Int→Option (List Qab×Int)):Prop:=∀ (l:List Qab) (n:Nat),n≤100→f l n=some ((g l n).1,((g l n).2:Int))
theorem Q1d {d:Nat} (hd:d+1≤15) (hf:LIs (lightP d) (fun l n=>Qa0 l d n)) (l:List Qab):∀ k,k≤l.length→∀ (n:Nat) (acc:List Qab),acc.length=k→k+n≤100 →
  Qbo l ((d+1:Nat):Int) n acc k=some (((lightG (lightP d) (l.drop k) n).2:Int),acc++(lightG (lightP d) (l.drop k) n).1):=by
 refine upto ?_ fun k hk ih=>?_
 ·intro n acc _ _
  rw[Qbo]
  simp[lightG]
 ·intro n acc ha hn
  rw[Qbo,dropE hk]
  have h40:=cutMin (l[k].Name) 40
  have h60:=cutMin (l[k].Text) 60
  simp only[ltI,hk,decide_true,if_true]
  by_cases h0:n=0
  ·subst h0
   simp[lightG]
  ·have e1:wr (((d+1:Nat):Int)-1)=d:=by rw[wr_in (by omega) (by omega)]; omega
   have e2:wr ((n:Int)-1)=((n-1:Nat):Int):=by rw[wr_in (by omega) (by omega)]; omega
   have hpos:decide ((n:Int)>0)=true:=decide_eq_true (by omega)
   have hpos2:decide (((d+1:Nat):Int)>0)=true:=decide_eq_true (by omega)
   simp only[hpos,hpos2,if_true,Qad,Qbd,getE hk,e1,e2]
   rw[show(40:Int)=((40:Nat):Int) from rfl,h40,Qad,show(60:Int)=((60:Nat):Int) from rfl,h60,Qad]
   obtain⟨a1,-,-⟩:=Qi6 d l[k].L (n-1)
   have f1:=hf l[k].L (n-1) (by omega)
   obtain⟨b1,-,-⟩:=Qi6 d l[k].Then (lightP d l[k].L (n-1)).2
   have f2:=hf l[k].Then (lightP d l[k].L (n-1)).2 (by omega)
   obtain⟨c1,-,-⟩:=Qi6 d l[k].Else (lightP d l[k].Then (lightP d l[k].L (n-1)).2).2
   have f3:=hf l[k].Else (lightP d l[k].Then (lightP d l[k].L (n-1)).2).2 (by omega)
   simp only at f1 f2 f3
   simp only[f1,f2,f3,Qad]
   rw[Qf6 (by simp; omega) (by simp; omega),Qad,Qba (by omega)]
   rw[ih _ _ (by simp[ha]) (by omega),lightG,if_neg h0]
   simp
theorem Qxw:∀ d,d≤15→LIs (lightP d) (fun l n=>Qa0 l (d:Nat) n)
 | 0,_=>fun l n hn=>by
  have h0:decide (((0:Nat):Int)>0)=false:=rfl
  show Qa0 l ((0:Nat):Int) n=_
  rw[Qa0,Qbo]
  simp only[h0,Qad]
  have e:∀ b c:Bool,(if b=true then if c=true then some false else some false else some false:Option Bool)=some false:=fun b c=>by cases b<;>cases c<;>rfl
  rw[e]
  rfl
 | d+1,h=>fun l n hn=>by
  have:=Q1d h (Qxw d (by omega)) l 0 (by omega) n [] rfl (by omega)
  show Qa0 l ((d+1:Nat):Int) n=_
  rw[Qa0]
  rw[show((0:Nat):Int)=0 from rfl] at this
  rw[this]
  simp[lightP]
mutual
def sameN:Qab→Qab→Bool
 | ⟨k,s,t,n,a,b,c⟩,y=>k==y.Kind&&(s==y.Name&&(t==y.Text&&(n==y.N&&(sameL a y.L&&(sameL b y.Then&&sameL c y.Else)))))
def sameL:List Qab→List Qab→Bool
 | [],m=>m.isEmpty
 | x::r,m=>match m with
  | []=>false
  | y::q=>sameN x y&&sameL r q
end
theorem Qxx (x y:Qab):sameN x y=(x.Kind==y.Kind&&(x.Name==y.Name&&(x.Text==y.Text&&(x.N==y.N&&(sameL x.L y.L&&(sameL x.Then y.Then&&sameL x.Else y.Else)))))):=by cases x; rw[sameN]
theorem Qyz:∀ n (l:List Qab),nns l≤n→sameL l l=true:=by
 intro n
 induction n with
 | zero=>intro l h; cases l with
  | nil=>simp[sameL]
  | cons x r=>have:=Qn8 x; simp[nns] at h; omega
 | succ n ih =>
  intro l
  induction l with
  | nil=>intro _; simp[sameL]
  | cons x r ihr =>
   intro h
   rw[nns,nn_eq] at h
   rw[sameL,Qxx,ih _ (by omega:nns x.L≤n),ih _ (by omega:nns x.Then≤n),ih _ (by omega:nns x.Else≤n),ihr (by omega)]
   simp
theorem Qvk:∀ (a b:List Qab),a.length≠b.length→sameL a b=false
 | [],[],h=>absurd rfl h
 | [],y::q,_=>by simp[sameL]
 | x::r,[],_=>by simp[sameL]
 | x::r,y::q,h=>by
  rw[sameL,Qvk r q (by simpa using h)]
  simp
section
end
theorem neI (a b:Nat):((a:Int) != (b:Int))=(a != b):=by
 by_cases h:a=b
 ·subst h; simp
 ·have:(a:Int)≠b:=by omega
  rw[bne_iff_ne.2 h,bne_iff_ne.2 this]
section
variable (n:Nat) (ih:∀ a b:List Qab,nns a≤n→Qfv a b=some (sameL a b))
include ih
theorem rSameL (a b:List Qab) (hl:a.length=b.length) (h:nns a≤n+1) (hlen:a.length<9223372036854775807):∀ k,k≤a.length →
  Qfb a b k=some (if sameL (a.drop k) (b.drop k) then .inl () else .inr ()):=by
 refine upto ?_ fun k hk ihk=>?_
 ·rw[Qfb]
  rw[hl,List.drop_length,← hl,List.drop_length]
  simp[sameL]
 ·have hk2:k<b.length:=by omega
  have hx:=Qjr (List.getElem_mem hk)
  rw[nn_eq] at hx
  rw[Qfb,Qba (by omega),ihk]
  simp only[ltI,hk,decide_true,if_true,Qbd,getE hk,getE hk2,Qad]
  rw[ih a[k].L b[k].L (by omega),ih a[k].Then b[k].Then (by omega),ih a[k].Else b[k].Else (by omega)]
  simp only[Qad]
  rw[dropE hk,dropE hk2,sameL,Qxx]
  have e:∀ p q:Int,(p != q) = !(p==q):=fun p q=>rfl
  simp only[e]
  cases (a[k].Kind==b[k].Kind)<;>cases (a[k].Name==b[k].Name)<;>cases (a[k].Text==b[k].Text)<;>cases (a[k].N==b[k].N)<;>cases (sameL a[k].L b[k].L)<;>cases (sameL a[k].Then b[k].Then)<;>cases (sameL a[k].Else b[k].Else)<;>rfl
end
theorem rSame:∀ n (a b:List Qab),n<9223372036854775807→nns a≤n→Qfv a b=some (sameL a b):=by
 intro n
 induction n with
 | zero =>
  intro a b _ h
  have ha:a=[]:=List.eq_nil_of_length_eq_zero (by have:=Qjq a; omega)
  subst ha
  rw[Qfv,neI]
  cases b with
  | nil=>rw[show(0:Int)=((0:Nat):Int) from rfl,Qfb]; simp[sameL]
  | cons y q=>simp[sameL]
 | succ n ih =>
  intro a b hn h
  rw[Qfv,neI]
  by_cases hl:a.length=b.length
  ·have:=rSameL n (fun a b=>ih a b (by omega)) a b hl h (by have:=Qjq a; omega) 0 (by omega)
   rw[show(0:Int)=((0:Nat):Int) from rfl,this]
   simp only[hl,bne_self_eq_false,Bool.false_eq_true,if_false,Qad,List.drop_zero]
   cases sameL a b<;>rfl
  ·rw[Qvk a b hl,bne_iff_ne.2 hl]
   rfl
end Go.Proofs.Ytfgegilhjlnohaa
end

section
namespace Go.Proofs.Ytfgegilhjlnohaa
open Go.RowKit
def smallB (c:UInt8):Bool:=decide (97≤c.toNat)&&decide (c.toNat≤122)
def digB (c:UInt8):Bool:=decide (48≤c.toNat)&&decide (c.toNat≤57)
def letB (c:UInt8):Bool:=smallB c||(digB c||c.toNat==95)
def headB:List UInt8→Bool
 | []=>false
 | c::_=>decide (97≤c.toNat)
theorem Qy0 (c:UInt8) (r:List UInt8):headB (c::r)=decide (97≤c.toNat):=rfl
def wordP (s:List UInt8):Bool := !(s==[])&&(decide (s.length≤32)&&(headB s&&s.all letB))
theorem geN (n k:Nat):decide ((n:Int) ≥ (k:Int))=decide (k≤n):=by
 by_cases h:k≤n
 ·rw[decide_eq_true h,decide_eq_true (by omega:(n:Int) ≥ k)]
 ·rw[decide_eq_false h,decide_eq_false (by omega)]
theorem leN (n k:Nat):decide ((n:Int)≤(k:Int))=decide (n≤k):=by
 by_cases h:n≤k
 ·rw[decide_eq_true h,decide_eq_true (by omega:(n:Int)≤k)]
 ·rw[decide_eq_false h,decide_eq_false (by omega)]
theorem eqN (n k:Nat):((n:Int)==(k:Int))=(n==k):=by
 by_cases h:n=k
 ·subst h; simp
 ·rw[beq_eq_false_iff_ne.2 h,beq_eq_false_iff_ne.2 (by omega)]
theorem lDigit (c:UInt8):Qi3 (c.toNat:Int)=some (digB c):=by
 have a:=geN c.toNat 48
 have b:=leN c.toNat 57
 rw[Qi3]
 rw[show(48:Int)=((48:Nat):Int) from rfl,show(57:Int)=((57:Nat):Int) from rfl,a,b,digB]
 cases decide (48≤c.toNat)<;>rfl
theorem lLetter (c:UInt8):Qi4 (c.toNat:Int)=some (letB c):=by
 have a:=geN c.toNat 97
 have b:=leN c.toNat 122
 have d:=eqN c.toNat 95
 rw[Qi4,lDigit]
 rw[show(97:Int)=((97:Nat):Int) from rfl,show(122:Int)=((122:Nat):Int) from rfl,show(95:Int)=((95:Nat):Int) from rfl,a,b,d,letB,smallB]
 simp only[Qad]
 cases decide (97≤c.toNat)<;>cases decide (c.toNat≤122)<;>cases digB c<;>cases (c.toNat==95)<;>rfl
theorem lWordL (s:List UInt8) (hs:s.length<9223372036854775807):∀ k,k≤s.length→Qeh s k=some (if(s.drop k).all letB then .inl () else .inr ()):=by
 refine upto ?_ fun k hk ih=>?_
 ·rw[Qeh]; simp
 ·rw[Qeh,Qba (by omega),ih]
  simp only[ltI,hk,decide_true,if_true,Qbd,getE hk,Qad,lLetter]
  rw[dropE hk,List.all_cons]
  cases letB s[k]<;>rfl
theorem lWord (s:List UInt8) (hs:s.length<9223372036854775807):Qjm s=some (wordP s):=by
 have h:=lWordL s hs 0 (by omega)
 rw[Qjm,show(0:Int)=((0:Nat):Int) from rfl,h,List.drop_zero,wordP]
 have e:=leN s.length 32
 rw[show(32:Int)=((32:Nat):Int) from rfl,e]
 cases ha:s.all letB with
 | false=>cases (s==[])<;>cases decide (s.length≤32)<;>cases headB s<;>rfl
 | true =>
  cases s with
  | nil=>rfl
  | cons c r =>
   have g:=geN c.toNat 97
   rw[show(97:Int)=((97:Nat):Int) from rfl]
   simp only[if_true,Qad,Qbd,List.getElem?_cons_zero,g,Qy0]
   have e0:((c::r)==([]:List UInt8))=false:=rfl
   rw[e0]
   cases decide ((c::r).length≤32)<;>simp
theorem Q0f (a b:List UInt8):s2b (a++b)=s2b a++s2b b:=by simp[s2b]
theorem Qqh (a:List UInt8):(s2b a).length=a.length:=by simp[s2b]
theorem Q2a (l:List UInt8):b2s (s2b l)=some l:=by
 unfold b2s s2b
 rw[if_pos]
 ·rw[List.map_map]
  congr 1
  have:∀ c:UInt8,((fun n:Int=>UInt8.ofNat n.toNat) ∘ fun c:UInt8=>(c.toNat:Int)) c=c:=fun c=>by simp
  rw[show((fun n:Int=>UInt8.ofNat n.toNat) ∘ fun c:UInt8=>(c.toNat:Int))=id from funext this,List.map_id]
 ·rw[List.all_eq_true]
  intro n hn
  obtain⟨c,-,rfl⟩:=List.mem_map.1 hn
  have:=c.toNat_lt
  simp only[decide_eq_true_eq]
  omega
end Go.Proofs.Ytfgegilhjlnohaa
end

section
namespace Go.Proofs.Ytfgegilhjlnohaa
open Go.RowKit
def kws:List (List UInt8):=[[105,102],[101,108,115,101],[101,110,100],[101,97,99,104],[105,110],[108,101,116],[117,115,101],[116,114,117,101],[102,97,108,115,101],[115,101,99,114,101,116]]
def nameP (s:List UInt8):Bool := !(kws.any (· == s))&&wordP s
theorem tName (s:List UInt8) (hs:s.length<9223372036854775807):Qfx s=some (nameP s):=by
 have c:∀ a:List UInt8,(a==s)=(s==a):=fun a=>by rw[Bool.beq_comm]
 rw[Qfx,lWord s hs,nameP]
 simp only[kws,List.any_cons,List.any_nil,c]
 generalize (s==[105,102])=a1
 generalize (s==[101,108,115,101])=a2
 generalize (s==[101,110,100])=a3
 generalize (s==[101,97,99,104])=a4
 generalize (s==[105,110])=a5
 generalize (s==[108,101,116])=a6
 generalize (s==[117,115,101])=a7
 generalize (s==[116,114,117,101])=a8
 generalize (s==[102,97,108,115,101])=a9
 generalize (s==[115,101,99,114,101,116])=a10
 generalize wordP s=b
 cases a1
 ·cases a2
  ·cases a3
   ·cases a4
    ·cases a5
     ·cases a6
      ·cases a7
       ·cases a8
        ·cases a9
         ·cases a10<;>cases b<;>rfl
         ·rfl
        ·rfl
       ·rfl
      ·rfl
     ·rfl
    ·rfl
   ·rfl
  ·rfl
 ·rfl
theorem Qww {s:List UInt8} (h:wordP s=true):(s==[])=false:=by
 unfold wordP at h
 cases hs:(s==[]) with
 | false=>rfl
 | true=>rw[hs] at h; cases h
theorem Qqi {s:List UInt8} (h:nameP s=true):wordP s=true:=by
 unfold nameP at h
 cases hw:wordP s with
 | true=>rfl
 | false=>rw[hw] at h; simp at h
def hasB:List UInt8→Bool
 | []=>false
 | c::r=>(c==123&&r.head? == some 123)||hasB r
theorem pre2 (l:List UInt8):([123,123]:List UInt8).isPrefixOf l=(match l with | []=>false | c::r=>c==123&&r.head? == some 123):=by
 match l with
 | []=>rfl
 | [c]=>simp[List.isPrefixOf]
 | c::d::r =>
  simp only[List.isPrefixOf,List.head?_cons]
  have e1:(123==c)=(c==123):=Bool.beq_comm
  have e2:(123==d)=(d==123):=Bool.beq_comm
  rw[e1,e2]
  cases (c==123)<;>cases hd:(d==123)<;>simp_all
theorem Qvl:∀ l:List UInt8,decide (Lib.index l [123,123] ≥ 0)=hasB l
 | []=>rfl
 | c::r=>by
  have ih:=Qvl r
  have hg:=Lib.index_ge r [123,123]
  have hp2:([123,123]:List UInt8).isPrefixOf (c::r)=(c==123&&r.head? == some 123):=pre2 (c::r)
  unfold Lib.index
  rw[hp2,hasB]
  generalize (c==123&&r.head? == some 123)=b
  cases b with
  | true=>rfl
  | false =>
   simp only[Bool.false_or]
   by_cases h1:Lib.index r [123,123] = -1
   ·rw[h1] at ih ⊢
    rw[← ih]; rfl
   ·rw[if_neg (by decide),if_neg (by simpa using h1),← ih,decide_eq_true (by omega),decide_eq_true (by omega)]
theorem tHas (s:List UInt8) (hs:s.length<4294967281):strings_Contains s [123,123]=some (hasB s):=by
 rw[strings_Contains,strings_Index,Qb1,Qig hs]
 simp only[Qad,Qvl]
def endB (s:List UInt8):Bool:=s.getLast? == some 123
theorem tEnd (s:List UInt8) (hs:s.length<4294967281):strings_HasSuffix s [123]=some (endB s):=by
 rw[strings_HasSuffix,Qbp,endB]
 cases hl:s.getLast? with
 | none =>
  have:s=[]:=List.getLast?_eq_none_iff.1 hl
  subst this
  rfl
 | some c =>
  have hne:s≠[]:=fun h=>by subst h; cases hl
  have hpos:0<s.length:=List.length_pos_iff.2 hne
  have e1:decide ((s.length:Int) ≥ ((([123]:List UInt8).length:Nat):Int))=true:=decide_eq_true (by simp; omega)
  have e2:wr ((s.length:Int)-((([123]:List UInt8).length:Nat):Int))=((s.length-1:Nat):Int):=by rw[wr_in (by simp; omega) (by simp; omega)]; simp; omega
  rw[e1,e2,Qnj (by omega) (by omega) (by omega)]
  simp only[if_true,Qad,Int.toNat_natCast,List.take_length]
  have e3:s.drop (s.length-1)=[c]:=by
   have h1:s.length-1<s.length:=by omega
   rw[dropE h1,List.drop_eq_nil_of_le (by omega)]
   rw[List.getLast?_eq_getElem?,getE h1] at hl
   cases hl; rfl
  rw[e3]
  simp
end Go.Proofs.Ytfgegilhjlnohaa
end

section
namespace Go.Proofs.Ytfgegilhjlnohaa
open Go.RowKit
mutual
def allN (Q:Qab→Prop):Qab→Prop
 | ⟨k,s,t,n,a,b,c⟩=>Q ⟨k,s,t,n,a,b,c⟩∧allL Q a∧allL Q b∧allL Q c
def allL (Q:Qab→Prop):List Qab→Prop
 | []=>True
 | x::r=>allN Q x∧allL Q r
end
theorem Qjs (Q:Qab→Prop) (x:Qab):allN Q x↔(Q x∧allL Q x.L∧allL Q x.Then∧allL Q x.Else):=by cases x; rw[allN]
theorem Qm2 {Q:Qab→Prop}:∀ {l:List Qab} {x:Qab},x ∈ l→allL Q l→allN Q x
 | y::r,x,h,hs=>by
  rw[allL] at hs
  rcases List.mem_cons.1 h with rfl | h
  ·exact hs.1
  ·exact Qm2 h hs.2
theorem Q2b {R Q:Qab→Prop} (h:∀ x:Qab,x.Name.length≤40→x.Text.length≤60→R x→Q x):∀ n (l:List Qab),nns l≤n→sms l→allL R l→allL Q l:=by
 intro n
 induction n with
 | zero=>intro l hn _; cases l with
  | nil=>intro _; rw[allL]; trivial
  | cons x r=>have:=Qn8 x; simp[nns] at hn; omega
 | succ n ih =>
  intro l
  induction l with
  | nil=>intro _ _ _; rw[allL]; trivial
  | cons x r ihr =>
   intro hn hs hr
   rw[nns,nn_eq] at hn
   rw[sms,sm_eq] at hs
   obtain⟨⟨h1,h2,h3,h4,h5⟩,h6⟩:=hs
   rw[allL,Qjs] at hr ⊢
   obtain⟨⟨g1,g2,g3,g4⟩,g5⟩:=hr
   exact⟨⟨h x h1 h2 g1,ih _ (by omega) h3 g2,ih _ (by omega) h4 g3,ih _ (by omega) h5 g4⟩,ihr (by omega) h6 g5⟩
structure okNd (x:Qab):Prop where
 nm:x.Name.length≤1000000
 tx:x.Text.length≤1000000
 rg : -9223372036854775808≤x.N∧x.N≤9223372036854775807
 qt:x.Kind=1→∃ q,Qe0 x.Text=some q∧Qe0 x.Text=some q
noncomputable def quoteP (s:List UInt8):List UInt8×Bool:=(Qe0 s).getD ([],false)
def zl (l:List Qab):Bool:=l.length==0
mutual
noncomputable def exprP:Qab→Bool
 | ⟨k,s,t,n,a,b,c⟩ =>
  if k==1 then(quoteP t).2&&(s==[]&&(n==0&&(zl a&&(zl b&&zl c)))) else
  if k==2 then s==[]&&(t==[]&&(zl a&&(zl b&&zl c))) else
  if k==3 then(n==0||n==1)&&(s==[]&&(t==[]&&(zl a&&(zl b&&zl c)))) else
  if k==4 then nameP s&&(t==[]&&(n==0&&(zl a&&(zl b&&zl c)))) else
  if k==5 then wordP s&&(a.length==1&&(exprsP a&&(t==[]&&(n==0&&(zl b&&zl c))))) else
  if k==6 then nameP s&&(decide (a.length≤3)&&(exprsP a&&(t==[]&&(n==0&&(zl b&&zl c))))) else
  if k==7 then wordP s&&(t==[]&&(n==0&&(zl a&&(zl b&&zl c)))) else false
noncomputable def exprsP:List Qab→Bool
 | []=>true
 | x::r=>exprP x&&exprsP r
end
theorem Qxy (x:Qab):exprP x =
  if x.Kind==1 then(quoteP x.Text).2&&(x.Name==[]&&(x.N==0&&(zl x.L&&(zl x.Then&&zl x.Else)))) else
  if x.Kind==2 then x.Name==[]&&(x.Text==[]&&(zl x.L&&(zl x.Then&&zl x.Else))) else
  if x.Kind==3 then(x.N==0||x.N==1)&&(x.Name==[]&&(x.Text==[]&&(zl x.L&&(zl x.Then&&zl x.Else)))) else
  if x.Kind==4 then nameP x.Name&&(x.Text==[]&&(x.N==0&&(zl x.L&&(zl x.Then&&zl x.Else)))) else
  if x.Kind==5 then wordP x.Name&&(x.L.length==1&&(exprsP x.L&&(x.Text==[]&&(x.N==0&&(zl x.Then&&zl x.Else))))) else
  if x.Kind==6 then nameP x.Name&&(decide (x.L.length≤3)&&(exprsP x.L&&(x.Text==[]&&(x.N==0&&(zl x.Then&&zl x.Else))))) else
  if x.Kind==7 then wordP x.Name&&(x.Text==[]&&(x.N==0&&(zl x.L&&(zl x.Then&&zl x.Else)))) else false:=by cases x; rw[exprP]
theorem zI (l:List Qab):((l.length:Int)==0)=zl l:=eqN l.length 0
theorem gI (l:List Qab):decide ((l.length:Int)>0) = !zl l:=by
 unfold zl
 by_cases h:l.length=0
 ·rw[h]; rfl
 ·rw[beq_eq_false_iff_ne.2 h,decide_eq_true (by omega)]; rfl
theorem oneI (l:List Qab):((l.length:Int)==1)=(l.length==1):=eqN l.length 1
theorem low1 (a:BitVec 64):a &&& ~~~1#64=0#64↔(a=0#64∨a=1#64):=by
 constructor
 ·intro h
  have hb:∀ i,0<i→a.getLsbD i=false:=fun i hi=>by
   have:=congrArg (fun x:BitVec 64=>x.getLsbD i) h
   simp only[BitVec.getLsbD_and,BitVec.getLsbD_not,BitVec.getLsbD_zero] at this
   by_cases h64:i<64
   ·have h1:(1#64).getLsbD i=false:=by simp[BitVec.getLsbD_one]; omega
    rw[h1] at this
    simpa [h64] using this
   ·exact BitVec.getLsbD_of_ge a i (by omega)
  cases h0:a.getLsbD 0 with
  | false =>
   left
   apply BitVec.eq_of_getLsbD_eq
   intro i _
   by_cases hi:i=0
   ·subst hi; rw[h0]; simp
   ·rw[hb i (by omega)]; simp
  | true =>
   right
   apply BitVec.eq_of_getLsbD_eq
   intro i _
   by_cases hi:i=0
   ·subst hi; rw[h0]; simp
   ·rw[hb i (by omega)]; simp[BitVec.getLsbD_one]; omega
 ·rintro (h | h)<;>subst h<;>decide
theorem ofI {n:Int} (h1 : -9223372036854775808≤n) (h2:n≤9223372036854775807) (m:Int) (h3:0≤m) (h4:m≤1):BitVec.ofInt 64 n=BitVec.ofInt 64 m↔n=m:=by
 constructor
 ·intro h
  have:=congrArg BitVec.toInt h
  rw[BitVec.toInt_ofInt,BitVec.toInt_ofInt,Int.bmod_def,Int.bmod_def] at this
  simp only[show(((2:Nat) ^ 64:Nat):Int)=18446744073709551616 from rfl] at this
  split at this<;>split at this<;>omega
 ·intro h; rw[h]
theorem wrap0 (m:Nat) (h:m<18446744073709551616):(IntKind.i64.wrap (m:Int)=0)↔m=0:=by
 rw[IntKind.wrap_i64]
 omega
theorem truthI (n:Int) (h1 : -9223372036854775808≤n) (h2:n≤9223372036854775807):((bits .andNot .i64 n 1)==0)=(n==0||n==1):=by
 have hw:=wrap0 (BitVec.ofInt 64 n &&& ~~~(BitVec.ofInt 64 1)).toNat (BitVec.isLt _)
 have e:bits .andNot .i64 n 1=IntKind.i64.wrap ((BitVec.ofInt 64 n &&& ~~~(BitVec.ofInt 64 1)).toNat:Int):=rfl
 have e2:(BitVec.ofInt 64 n &&& ~~~(BitVec.ofInt 64 1)).toNat=0↔(n=0∨n=1):=by
  have z:(BitVec.ofInt 64 n &&& ~~~(BitVec.ofInt 64 1)).toNat=0↔BitVec.ofInt 64 n &&& ~~~1#64=0#64:=by
   constructor
   ·intro h; exact BitVec.eq_of_toNat_eq h
   ·intro h; exact congrArg BitVec.toNat h
  rw[z,low1]
  have a0:=ofI h1 h2 0 (by omega) (by omega)
  have a1:=ofI h1 h2 1 (by omega) (by omega)
  rw[← a0,← a1]
  exact Iff.rfl
 rw[e2] at hw
 rw[e]
 by_cases h:n=0∨n=1
 ·rw[hw.2 h]
  rcases h with h | h<;>subst h<;>rfl
 ·have:¬ IntKind.i64.wrap ((BitVec.ofInt 64 n &&& ~~~(BitVec.ofInt 64 1)).toNat:Int)=0:=fun k=>h (hw.1 k)
  rw[beq_eq_false_iff_ne.2 this]
  simp only[not_or] at h
  rw[beq_eq_false_iff_ne.2 h.1,beq_eq_false_iff_ne.2 h.2]
  rfl
section
variable (n:Nat) (ih:∀ x:Qab,nn x≤n→allN okNd x→Qdz x=some (exprP x))
include ih
theorem tExprL (l:List Qab) (h:nns l≤n) (ho:allL okNd l) (hl:l.length<9223372036854775807):∀ k,k≤l.length→∃ r,Qak l k=some r ∧
  (match r with | .inl _=>exprsP (l.drop k)=true | .inr v=>0≤v∧exprsP (l.drop k)=false):=by
 refine upto ?_ fun k hk ihk=>?_
 ·rw[Qak]
  refine⟨.inl (),by simp,?_⟩
  simp[exprsP]
 ·have hx:=Qjr (List.getElem_mem hk)
  rw[Qak,Qba (by omega)]
  simp only[ltI,hk,decide_true,if_true,Qbd,getE hk,Qad,Ql1,ih l[k] (by omega) (Qm2 (List.getElem_mem hk) ho)]
  rw[dropE hk]
  simp only[exprsP]
  cases he:exprP l[k] with
  | true =>
   obtain⟨r,h1,h2⟩:=ihk
   refine⟨r,by simpa using h1,?_⟩
   simpa using h2
  | false=>exact⟨.inr k,by simp,by omega,rfl⟩
end
theorem tExpr:∀ n (x:Qab),n<1000000000→nn x≤n→allN okNd x→Qdz x=some (exprP x):=by
 intro n
 induction n with
 | zero=>intro x _ h; have:=Qn8 x; omega
 | succ n ih =>
  intro x hb h ho
  rw[nn_eq] at h
  obtain⟨hq,ho1,-,-⟩:=(Qjs okNd x).1 ho
  have hnm:=hq.nm
  rw[Qdz,Qfl,Qxy,tName x.Name (by omega),lWord x.Name (by omega)]
  simp only[Qad,gI,truthI _ hq.rg.1 hq.rg.2]
  have e2:(x.N != 0) = !(x.N==0):=rfl
  have e3:((x.L.length:Int)==0)=zl x.L:=zI x.L
  have e4:((x.L.length:Int)==1)=(x.L.length==1):=oneI x.L
  simp only[e2,e3,e4]
  by_cases k1:x.Kind=1
  ·obtain⟨q,q1,q2⟩:=hq.qt k1
   simp only[k1,beq_self_eq_true,if_true,q1,Qad,quoteP,Option.getD_some]
   generalize (x.Name==[])=a1
   generalize (x.Text==[])=a2
   generalize (x.N==0)=a3
   generalize zl x.L=a4
   generalize zl x.Then=a5
   generalize zl x.Else=a6
   cases q.2<;>cases a1<;>cases a2<;>cases a3<;>cases a4<;>cases a5<;>cases a6<;>rfl
  by_cases k2:x.Kind=2
  ·simp only[k2,beq_self_eq_true,if_true,show((2:Int)==1)=false from rfl,Bool.false_eq_true,if_false]
   generalize (x.Name==[])=a1
   generalize (x.Text==[])=a2
   generalize (x.N==0)=a3
   generalize zl x.L=a4
   generalize zl x.Then=a5
   generalize zl x.Else=a6
   cases a1<;>cases a2<;>cases a3<;>cases a4<;>cases a5<;>cases a6<;>rfl
  by_cases k3:x.Kind=3
  ·simp only[k3,beq_self_eq_true,if_true,show((3:Int)==1)=false from rfl,show((3:Int)==2)=false from rfl,Bool.false_eq_true,if_false]
   generalize (x.N==0||x.N==1)=a0
   generalize (x.Name==[])=a1
   generalize (x.Text==[])=a2
   generalize (x.N==0)=a3
   generalize zl x.L=a4
   generalize zl x.Then=a5
   generalize zl x.Else=a6
   cases a0<;>cases a1<;>cases a2<;>cases a3<;>cases a4<;>cases a5<;>cases a6<;>rfl
  have nw:nameP x.Name=true→(x.Name==[])=false:=fun h=>Qww (Qqi h)
  have ww:wordP x.Name=true→(x.Name==[])=false:=fun h=>Qww h
  by_cases k4:x.Kind=4
  ·simp only[k4,beq_self_eq_true,if_true,show((4:Int)==1)=false from rfl,show((4:Int)==2)=false from rfl,show((4:Int)==3)=false from rfl,Bool.false_eq_true,if_false]
   cases hn:nameP x.Name with
   | false=>rfl
   | true =>
    rw[nw hn]
    generalize (x.Text==[])=a2
    generalize (x.N==0)=a3
    generalize zl x.L=a4
    generalize zl x.Then=a5
    generalize zl x.Else=a6
    cases a2<;>cases a3<;>cases a4<;>cases a5<;>cases a6<;>rfl
  by_cases k7:x.Kind=7
  ·simp only[k7,beq_self_eq_true,if_true,show((7:Int)==1)=false from rfl,show((7:Int)==2)=false from rfl,show((7:Int)==3)=false from rfl,show((7:Int)==4)=false from rfl,show((7:Int)==5)=false from rfl,show((7:Int)==6)=false from rfl,Bool.false_eq_true,if_false]
   cases hn:wordP x.Name with
   | false=>rfl
   | true =>
    rw[ww hn]
    generalize (x.Text==[])=a2
    generalize (x.N==0)=a3
    generalize zl x.L=a4
    generalize zl x.Then=a5
    generalize zl x.Else=a6
    cases a2<;>cases a3<;>cases a4<;>cases a5<;>cases a6<;>rfl
  have b1:(x.Kind==1)=false:=beq_eq_false_iff_ne.2 k1
  have b2:(x.Kind==2)=false:=beq_eq_false_iff_ne.2 k2
  have b3:(x.Kind==3)=false:=beq_eq_false_iff_ne.2 k3
  have b4:(x.Kind==4)=false:=beq_eq_false_iff_ne.2 k4
  have b7:(x.Kind==7)=false:=beq_eq_false_iff_ne.2 k7
  simp only[b1,b2,b3,b4,b7,Bool.false_eq_true,if_false]
  by_cases k5:x.Kind=5
  ·simp only[k5,beq_self_eq_true,if_true]
   cases hn:wordP x.Name with
   | false=>rfl
   | true =>
    rw[ww hn]
    cases hl:(x.L.length==1) with
    | false =>
     generalize (x.Text==[])=a2
     generalize (x.N==0)=a3
     generalize zl x.Then=a5
     generalize zl x.Else=a6
     cases a2<;>cases a3<;>cases a5<;>cases a6<;>rfl
    | true =>
     have hl1:x.L.length=1:=by simpa using hl
     obtain⟨y,hy⟩:=List.length_eq_one_iff.1 hl1
     have hy1:nn y≤n:=by have:=Qjr (show y ∈ x.L by rw[hy]; simp); omega
     have hy2:allN okNd y:=Qm2 (show y ∈ x.L by rw[hy]; simp) ho1
     rw[hy]
     simp only[idx_0,List.getElem?_cons_zero,Qad,ih y (by omega) hy1 hy2,exprsP,Bool.and_true]
     generalize (x.Text==[])=a2
     generalize (x.N==0)=a3
     generalize zl x.Then=a5
     generalize zl x.Else=a6
     generalize exprP y=a7
     cases a2<;>cases a3<;>cases a5<;>cases a6<;>cases a7<;>rfl
  by_cases k6:x.Kind=6
  ·simp only[k6,beq_self_eq_true,if_true,show((6:Int)==5)=false from rfl,Bool.false_eq_true,if_false]
   cases hn:nameP x.Name with
   | false=>rfl
   | true =>
    rw[nw hn]
    have hmin:((x.L.length:Int)==(if 3<(x.L.length:Int) then 3 else(x.L.length:Int)))=decide (x.L.length≤3):=by
     by_cases h3:x.L.length≤3
     ·rw[if_neg (by omega),decide_eq_true h3]; simp
     ·rw[if_pos (by omega),decide_eq_false h3,beq_eq_false_iff_ne.2 (by omega)]
    rw[hmin]
    have hll:=Qjq x.L
    obtain⟨r,hr,hp⟩:=tExprL n (fun y=>ih y (by omega)) x.L (by omega) ho1 (by omega) 0 (by omega)
    rw[Qar,Qa6,show(0:Int)=((0:Nat):Int) from rfl,hr]
    rw[List.drop_zero] at hp
    cases r with
    | inl u =>
     simp only at hp
     rw[hp]
     generalize (x.Text==[])=a2
     generalize (x.N==((0:Nat):Int))=a3
     generalize zl x.Then=a5
     generalize zl x.Else=a6
     generalize decide (x.L.length≤3)=a7
     cases a2<;>cases a3<;>cases a5<;>cases a6<;>cases a7<;>rfl
    | inr v =>
     simp only at hp
     have hv:decide (v ≥ ((0:Nat):Int))=true:=decide_eq_true (by omega)
     simp only[hp.2,Qad,hv]
     generalize (x.Text==[])=a2
     generalize (x.N==((0:Nat):Int))=a3
     generalize zl x.Then=a5
     generalize zl x.Else=a6
     generalize decide (x.L.length≤3)=a7
     cases a2<;>cases a3<;>cases a5<;>cases a6<;>cases a7<;>rfl
  have b5:(x.Kind==5)=false:=beq_eq_false_iff_ne.2 k5
  have b6:(x.Kind==6)=false:=beq_eq_false_iff_ne.2 k6
  simp only[b5,b6,Bool.false_eq_true,if_false]
section
end
def litB:List Qab→Bool
 | []=>false
 | x::_=>x.Kind==8
def badSt (x:Qab) (r:List Qab) (inn:Bool):Bool:=x.Kind==8&&(litB r||((!r.isEmpty||inn)&&endB x.Text))
mutual
noncomputable def stmtP:Qab→Bool
 | ⟨k,s,t,n,a,b,c⟩ =>
  if k==8 then !(t==[])&&(!(hasB t)&&(s==[]&&(n==0&&(zl a&&(zl b&&zl c))))) else
  if k==9 then(a.length==1&&exprsP a)&&(s==[]&&(t==[]&&(n==0&&(zl b&&zl c)))) else
  if k==10 then(a.length==1&&exprsP a)&&((blockP b true&&blockP c true)&&(s==[]&&(t==[]&&n==0))) else
  if k==11||k==12 then nameP s&&((a.length==1&&exprsP a)&&(blockP b true&&(t==[]&&(n==0&&zl c)))) else
  if k==13 then nameP s&&((a.length==1&&exprsP a)&&(t==[]&&(n==0&&(zl b&&zl c)))) else false
noncomputable def blockP:List Qab→Bool→Bool
 | [],_=>true
 | x::r,inn=>stmtP x&&(!(badSt x r inn)&&blockP r inn)
end
theorem Qxz (x:Qab):stmtP x =
  if x.Kind==8 then !(x.Text==[])&&(!(hasB x.Text)&&(x.Name==[]&&(x.N==0&&(zl x.L&&(zl x.Then&&zl x.Else))))) else
  if x.Kind==9 then(x.L.length==1&&exprsP x.L)&&(x.Name==[]&&(x.Text==[]&&(x.N==0&&(zl x.Then&&zl x.Else)))) else
  if x.Kind==10 then(x.L.length==1&&exprsP x.L)&&((blockP x.Then true&&blockP x.Else true)&&(x.Name==[]&&(x.Text==[]&&x.N==0))) else
  if x.Kind==11||x.Kind==12 then nameP x.Name&&((x.L.length==1&&exprsP x.L)&&(blockP x.Then true&&(x.Text==[]&&(x.N==0&&zl x.Else)))) else
  if x.Kind==13 then nameP x.Name&&((x.L.length==1&&exprsP x.L)&&(x.Text==[]&&(x.N==0&&(zl x.Then&&zl x.Else)))) else false:=by cases x; rw[stmtP]
theorem Q1n {l:List Qab} (h:zl l=true):l=[]:=List.eq_nil_of_length_eq_zero (by simpa [zl] using h)
theorem Qvm (b:Bool):blockP [] b=true:=by rw[blockP]
theorem lastI (k n:Nat) (hk:k<n) (hn:n<9223372036854775807):((k:Int)==wr ((n:Int)-1))=(k+1==n):=by
 have e:wr ((n:Int)-1)=((n-1:Nat):Int):=by rw[wr_in (by omega) (by omega)]; omega
 rw[e,eqN]
 by_cases h:k+1=n
 ·rw[beq_iff_eq.2 h,beq_iff_eq.2 (by omega)]
 ·rw[beq_eq_false_iff_ne.2 h,beq_eq_false_iff_ne.2 (by omega)]
theorem dropNil {l:List Qab} {k:Nat} (hk:k<l.length):(l.drop (k+1)).isEmpty=(k+1==l.length):=by
 by_cases h:k+1=l.length
 ·rw[List.drop_eq_nil_of_le (by omega),beq_iff_eq.2 h]; rfl
 ·rw[beq_eq_false_iff_ne.2 h,dropE (by omega:k+1<l.length)]; rfl
end Go.Proofs.Ytfgegilhjlnohaa
end

section
namespace Go.Proofs.Ytfgegilhjlnohaa
open Go.RowKit
theorem Q2c (l:List Qab) (k:Nat) (h:k+1<l.length):litB (l.drop (k+1))=(l[k+1].Kind==8):=by
 rw[dropE h]; rfl
section
variable (n:Nat) (hn:n<900000000) (ih:∀ x:Qab,nn x≤n→allN okNd x→Qkv x=some (stmtP x))
include hn ih
theorem tBlockL (l:List Qab) (h:nns l≤n) (ho:allL okNd l) (top:Bool):∀ k,k≤l.length→Qeu l top k=some (if blockP (l.drop k) (!top) then .inl () else .inr ()):=by
 have hl:=Qjq l
 refine upto ?_ fun k hk ihk=>?_
 ·rw[Qeu]; simp[blockP]
 ·have hx:=Qjr (List.getElem_mem hk)
  have ha:=Qm2 (List.getElem_mem hk) ho
  have htx:=((Qjs okNd l[k]).1 ha).1.tx
  rw[Qeu,Qba (by omega),ihk]
  simp only[ltI,hk,decide_true,if_true,Qbd,getE hk,Qad,ih l[k] (by omega) ha,lastI k l.length hk (by omega),tEnd l[k].Text (by omega)]
  rw[dropE hk,blockP,badSt]
  rw[dropNil hk]
  cases hs:stmtP l[k] with
  | false=>rfl
  | true =>
   cases h8:(l[k].Kind==8) with
   | false=>simp
   | true =>
    by_cases hlast:k+1=l.length
    ·have e1:(k+1==l.length)=true:=beq_iff_eq.2 hlast
     have e2:litB (l.drop (k+1))=false:=by rw[List.drop_eq_nil_of_le (by omega)]; rfl
     rw[e1,e2]
     cases top<;>cases endB l[k].Text<;>simp
    ·have e1:(k+1==l.length)=false:=beq_eq_false_iff_ne.2 hlast
     have hk1:k+1<l.length:=by omega
     rw[e1,Q2c l k hk1,getE hk1]
     simp only[Qad]
     cases (l[k+1].Kind==8)<;>cases endB l[k].Text<;>cases top<;>simp
theorem tBlock (l:List Qab) (h:nns l≤n) (ho:allL okNd l) (top:Bool):Qfm l top=some (blockP l (!top)):=by
 have:=tBlockL n hn ih l h ho top 0 (by omega)
 rw[Qfm,show(0:Int)=((0:Nat):Int) from rfl,this,List.drop_zero]
 cases blockP l (!top)<;>rfl
end
theorem tStmt:∀ n (x:Qab),n<900000000→nn x≤n→allN okNd x→Qkv x=some (stmtP x):=by
 intro n
 induction n with
 | zero=>intro x _ h; have:=Qn8 x; omega
 | succ n ih =>
  intro x hb h ho
  rw[nn_eq] at h
  obtain⟨hq,ho1,ho2,ho3⟩:=(Qjs okNd x).1 ho
  have hnm:=hq.nm
  have htx:=hq.tx
  have ih' := fun y=>ih y (by omega)
  have t1:=tBlock n (by omega) ih' x.Then (by omega) ho2 false
  have t2:=tBlock n (by omega) ih' x.Else (by omega) ho3 false
  have e2:(x.N != 0) = !(x.N==0):=rfl
  rw[Qkv,Qfl,Qxz,tName x.Name (by omega),tHas x.Text (by omega),t1,t2]
  simp only[Qad,gI,e2,zI,oneI]
  obtain⟨ex,hex,hex2⟩:∃ ex:Bool,exprsP x.L=ex∧(x.L.length==1→(idx x.L 0>>=fun y=>Qdz y)=some ex):=by
   refine⟨_,rfl,fun hl=>?_⟩
   obtain⟨y,hy⟩:=List.length_eq_one_iff.1 (by simpa using hl:x.L.length=1)
   have hy1:nn y≤n:=by have:=Qjr (show y ∈ x.L by rw[hy]; simp); omega
   have hy2:allN okNd y:=Qm2 (show y ∈ x.L by rw[hy]; simp) ho1
   rw[hy]
   simp only[idx_0,List.getElem?_cons_zero,Qad,tExpr n y (by omega) hy1 hy2,exprsP,Bool.and_true]
  rw[hex]
  have hidx:∀ (f:Bool→Option Bool) (g:Qab→Option Bool),x.L.length=1→(∀ y,g y=Qdz y>>=f)→(idx x.L 0>>=g)=f ex:=fun f g hl hg=>by
   have:=hex2 (by simpa using hl)
   obtain⟨y,hy⟩:=List.length_eq_one_iff.1 hl
   rw[hy] at this ⊢
   simp only[idx_0,List.getElem?_cons_zero,Qad] at this ⊢
   rw[hg,this,Qad]
  have nw:nameP x.Name=true→(x.Name==[])=false:=fun h=>Qww (Qqi h)
  by_cases k8:x.Kind=8
  ·simp only[k8,beq_self_eq_true,if_true]
   generalize (x.Name==[])=a1
   generalize (x.Text==[])=a2
   generalize (x.N==0)=a3
   generalize zl x.L=a4
   generalize zl x.Then=a5
   generalize zl x.Else=a6
   generalize hasB x.Text=hh
   cases a1<;>(try (cases a2<;>cases hh<;>rfl))<;>cases a2<;>(try (cases hh<;>rfl))<;>cases a3<;>(try (cases hh<;>rfl))<;>cases a4<;>(try (cases hh<;>rfl))<;>cases a5<;>(try (cases hh<;>rfl))<;>cases a6<;>cases hh<;>rfl
  have b8:(x.Kind==8)=false:=beq_eq_false_iff_ne.2 k8
  have hE:x.L.length=1→(idx x.L 0>>=fun y=>Qdz y>>=fun b=>if b=true then if blockP x.Then (!false)=true then some (blockP x.Else (!false)) else some false else some false)=some (ex&&(blockP x.Then true&&blockP x.Else true)):=fun hl=>by
   rw[hidx (fun b=>if b=true then if blockP x.Then (!false)=true then some (blockP x.Else (!false)) else some false else some false) _ hl fun y=>rfl]
   show(if ex=true then if blockP x.Then true=true then some (blockP x.Else true) else some false else some false)=_
   cases ex<;>cases blockP x.Then true<;>rfl
  have hb5:zl x.Then=true→blockP x.Then true=true:=fun h=>by rw[Q1n h,Qvm]
  have hb6:zl x.Else=true→blockP x.Else true=true:=fun h=>by rw[Q1n h,Qvm]
  have half:∀ w th ot nmd:Bool,(if(w==nmd)=true then if((!x.Name==[])==w&&((!x.Text==[])==false&&((!x.N==0)==false&&((!zl x.Then)==th&&((!zl x.Else)==ot&&(x.L.length==1&&true))))))=true then
    idx x.L 0>>=fun y=>Qdz y>>=fun b=>if b=true then if blockP x.Then (!false)=true then some (blockP x.Else (!false)) else some false else some false else some false else some false) =
    some ((w==nmd)&&(((!x.Name==[])==w)&&((x.Text==[])&&((x.N==0)&&(((!zl x.Then)==th)&&(((!zl x.Else)==ot)&&((x.L.length==1)&&(ex&&(blockP x.Then true&&blockP x.Else true))))))))):=fun w th ot nmd=>by
   have e0:∀ b:Bool,((!b)==false)=b:=fun b=>by cases b<;>rfl
   simp only[e0]
   cases hl:(x.L.length==1) with
   | true =>
    rw[hE (by simpa using hl)]
    generalize (ex&&(blockP x.Then true&&blockP x.Else true))=q
    generalize ((!x.Name==[])==w)=q1
    generalize (x.Text==[])=q2
    generalize (x.N==0)=q3
    generalize ((!zl x.Then)==th)=q4
    generalize ((!zl x.Else)==ot)=q5
    generalize (w==nmd)=q6
    cases q6<;>(try rfl)<;>cases q1<;>(try rfl)<;>cases q2<;>(try rfl)<;>cases q3<;>(try rfl)<;>cases q4<;>(try rfl)<;>cases q5<;>rfl
   | false =>
    generalize ((!x.Name==[])==w)=q1
    generalize (x.Text==[])=q2
    generalize (x.N==0)=q3
    generalize ((!zl x.Then)==th)=q4
    generalize ((!zl x.Else)==ot)=q5
    generalize (w==nmd)=q6
    cases q6<;>(try rfl)<;>cases q1<;>(try rfl)<;>cases q2<;>(try rfl)<;>cases q3<;>(try rfl)<;>cases q4<;>(try rfl)<;>cases q5<;>rfl
  have bnd:∀ m:Option Bool,(m>>=fun o=>some o)=m:=fun m=>by cases m<;>rfl
  simp only[b8,Bool.false_eq_true,if_false]
  by_cases k9:x.Kind=9
  ·simp only[k9,beq_self_eq_true,if_true,Qad,show((9:Int)==11)=false from rfl,show((9:Int)==12)=false from rfl,show((9:Int)==13)=false from rfl,Bool.false_eq_true,if_false,bnd]
   have hh:=half false false false false
   simp only[beq_self_eq_true,if_true,Bool.true_and] at hh
   rw[hh]
   have e0:∀ b:Bool,((!b)==false)=b:=fun b=>by cases b<;>rfl
   simp only[e0]
   cases h5:zl x.Then with
   | false=>generalize (x.Name==[])=a1; generalize (x.Text==[])=a2; generalize (x.N==0)=a3; cases a1<;>cases a2<;>cases a3<;>simp
   | true=>cases h6:zl x.Else with
    | false=>generalize (x.Name==[])=a1; generalize (x.Text==[])=a2; generalize (x.N==0)=a3; cases a1<;>cases a2<;>cases a3<;>simp
    | true =>
     rw[hb5 h5,hb6 h6]
     generalize (x.Name==[])=a1; generalize (x.Text==[])=a2; generalize (x.N==0)=a3; generalize (x.L.length==1)=l1
     cases a1<;>cases a2<;>cases a3<;>cases l1<;>cases ex<;>rfl
  have b9:(x.Kind==9)=false:=beq_eq_false_iff_ne.2 k9
  simp only[b9,Bool.false_eq_true,if_false]
  by_cases k10:x.Kind=10
  ·simp only[k10,beq_self_eq_true,if_true,Qad,show((10:Int)==11)=false from rfl,show((10:Int)==12)=false from rfl,show((10:Int)==13)=false from rfl,Bool.false_eq_true,if_false,bnd]
   have hh:=half false (!zl x.Then) (!zl x.Else) false
   simp only[beq_self_eq_true,if_true,Bool.true_and] at hh ⊢
   rw[hh]
   have e0:∀ b:Bool,((!b)==false)=b:=fun b=>by cases b<;>rfl
   simp only[e0]
   generalize (x.Name==[])=a1; generalize (x.Text==[])=a2; generalize (x.N==0)=a3; generalize (x.L.length==1)=l1; generalize zl x.Then=a5; generalize zl x.Else=a6; generalize blockP x.Then true=bt; generalize blockP x.Else true=be
   cases a5<;>cases a6<;>cases a1<;>cases a2<;>cases a3<;>cases l1<;>cases ex<;>cases bt<;>cases be<;>rfl
  have b10:(x.Kind==10)=false:=beq_eq_false_iff_ne.2 k10
  simp only[b10,Bool.false_eq_true,if_false]
  have e11:(if(x.Kind==11)=true then some (x.Kind==11) else some (x.Kind==12):Option Bool)=some (x.Kind==11||x.Kind==12):=by cases (x.Kind==11)<;>rfl
  rw[e11]
  cases h11:(x.Kind==11||x.Kind==12) with
  | true =>
   have e12:(if(x.Kind==11)=true then some true else if(x.Kind==12)=true then some true else some (x.Kind==13):Option Bool)=some true:=by
    revert h11; cases (x.Kind==11)<;>cases (x.Kind==12)<;>intro h<;>first | rfl | cases h
   rw[e12]
   simp only[Qad,if_true,bnd]
   rw[half (nameP x.Name) (!zl x.Then) false true]
   have e0:∀ b:Bool,((!b)==false)=b:=fun b=>by cases b<;>rfl
   simp only[e0]
   cases hn:nameP x.Name with
   | false=>rfl
   | true =>
    rw[nw hn]
    cases h6:zl x.Else with
    | false=>generalize (x.Text==[])=a2; generalize (x.N==0)=a3; generalize zl x.Then=a5; cases a2<;>cases a3<;>cases a5<;>simp
    | true =>
     rw[hb6 h6]
     generalize (x.Text==[])=a2; generalize (x.N==0)=a3; generalize (x.L.length==1)=l1; generalize zl x.Then=a5; generalize blockP x.Then true=bt
     cases a5<;>cases a2<;>cases a3<;>cases l1<;>cases ex<;>cases bt<;>rfl
  | false =>
   have e12:(if(x.Kind==11)=true then some true else if(x.Kind==12)=true then some true else some (x.Kind==13):Option Bool)=some (x.Kind==13):=by
    revert h11; cases (x.Kind==11)<;>cases (x.Kind==12)<;>intro h<;>first | rfl | cases h
   rw[e12]
   simp only[Qad,Bool.false_eq_true,if_false]
   by_cases k13:x.Kind=13
   ·simp only[k13,beq_self_eq_true,if_true,Qad,bnd]
    rw[half (nameP x.Name) false false true]
    have e0:∀ b:Bool,((!b)==false)=b:=fun b=>by cases b<;>rfl
    simp only[e0]
    cases hn:nameP x.Name with
    | false=>rfl
    | true =>
     rw[nw hn]
     cases h5:zl x.Then with
     | false=>generalize (x.Text==[])=a2; generalize (x.N==0)=a3; cases a2<;>cases a3<;>simp
     | true=>cases h6:zl x.Else with
      | false=>generalize (x.Text==[])=a2; generalize (x.N==0)=a3; cases a2<;>cases a3<;>simp
      | true =>
       rw[hb5 h5,hb6 h6]
       generalize (x.Text==[])=a2; generalize (x.N==0)=a3; generalize (x.L.length==1)=l1
       cases a2<;>cases a3<;>cases l1<;>cases ex<;>rfl
   ·have b13:(x.Kind==13)=false:=beq_eq_false_iff_ne.2 k13
    simp only[b13,Bool.false_eq_true,if_false,Qad]
section
end
end Go.Proofs.Ytfgegilhjlnohaa
end

section
namespace Go.Proofs.Ytfgegilhjlnohaa
open Go.RowKit
def maxD (l:List (Qab×Int)) (m:Int):Int:=l.foldl (fun m x=>if x.2>m then x.2 else m) m
theorem Qo1 (a b:List (Qab×Int)) (m:Int):maxD (a++b) m=maxD b (maxD a m):=by unfold maxD; rw[List.foldl_append]
theorem tDeepL (x1:List Qab×Int):∀ (l:List (Qab×Int)) (m:Int),Qdr x1 l m=some (maxD l m)
 | [],m=>by rw[Qdr]; rfl
 | x::r,m=>by rw[Qdr,tDeepL x1 r]; rfl
theorem tCountL (x1:List Qab×Int):∀ (l:List (Qab×Int)) (m:Nat),m+l.length<9223372036854775807→Qdc x1 l m=some ((m+l.length:Nat):Int)
 | [],m,_=>by rw[Qdc]; rfl
 | x::r,m,h=>by
  simp at h
  rw[Qdc,Qba (by omega),tCountL x1 r (m+1) (by omega)]
  simp; omega
theorem tAll3 (p0:List Qab) (p1 v12:Int) (x3:Qab) (v28:Int) (x7:List Qab×Int):∀ l:List (Qab×Int),Qdd p0 p1 v12 x3 v28 x7 l=some (l,())
 | []=>by rw[Qdd]
 | x::r=>by
  obtain⟨⟨k,s,t,n,a,b,c⟩,d⟩:=x
  rw[Qdd,tAll3 p0 p1 v12 x3 v28 x7 r]; rfl
def AllIs (d:Nat) (k dep:Nat) (o:Option (List (Qab×Int)×Unit)):Prop:=∃ out,o=some (out,())∧out.length=k∧∀ m:Int,(d:Int)-1≤m→maxD out m=max m ((d:Int)-1+dep)
section
variable (n:Nat) (ih:∀ (l:List Qab) (d:Nat),nns l≤n→n+d≤1000000000→AllIs d (nns l) (dps l) (Qd1 l d))
include ih
theorem tAll2 (l:List Qab) (d:Nat) (v:Int) (x:Qab) (hx:nn x≤n+1) (hd:n+1+d≤1000000000) :
  AllIs (d+1) (nns x.L+nns x.Then+nns x.Else) (max (dps x.L) (max (dps x.Then) (dps x.Else))) (Qbs l d v x 0):=by
 rw[nn_eq] at hx
 have ed:wr ((d:Int)+1)=((d+1:Nat):Int):=Qba (by omega)
 obtain⟨o1,a1,a2,a3⟩:=ih x.L (d+1) (by omega) (by omega)
 obtain⟨o2,b1,b2,b3⟩:=ih x.Then (d+1) (by omega) (by omega)
 obtain⟨o3,c1,c2,c3⟩:=ih x.Else (d+1) (by omega) (by omega)
 have s3:Qbs l d v x 3=some ([],()):=by rw[Qbs]; rfl
 have s2:Qbs l d v x 2=some (o3++[],()):=by
  rw[Qbs]
  have e:wr ((2:Int)+1)=3:=by rw[wr_in (by omega) (by omega)]; rfl
  have g:idx ([x.L,x.Then,x.Else]:List (List Qab)) 2=some x.Else:=Qwl _ 2
  rw[g,e,s3]
  simp only[Qad,Qgx,ed,c1,tAll3,show decide ((2:Int)<3)=true from rfl,if_true]
 have s1:Qbs l d v x 1=some (o2++(o3++[]),()):=by
  rw[Qbs]
  have e:wr ((1:Int)+1)=2:=by rw[wr_in (by omega) (by omega)]; rfl
  have g:idx ([x.L,x.Then,x.Else]:List (List Qab)) 1=some x.Then:=Qwl _ 1
  rw[g,e,s2]
  simp only[Qad,Qgx,ed,b1,tAll3,show decide ((1:Int)<3)=true from rfl,if_true]
 have s0:Qbs l d v x 0=some (o1++(o2++(o3++[])),()):=by
  rw[Qbs]
  have e:wr ((0:Int)+1)=1:=by rw[wr_in (by omega) (by omega)]; rfl
  have g:idx ([x.L,x.Then,x.Else]:List (List Qab)) 0=some x.L:=Qwl _ 0
  rw[g,e,s1]
  simp only[Qad,Qgx,ed,a1,tAll3,show decide ((0:Int)<3)=true from rfl,if_true]
 refine⟨_,s0,by simp; omega,fun m hm=>?_⟩
 rw[List.append_nil,Qo1,Qo1,a3 m hm,b3 _ (by omega),c3 _ (by omega)]
 omega
theorem tAll1 (l:List Qab) (d:Nat) (hl:nns l≤n+1) (hd:n+1+d≤1000000000):∀ k,k≤l.length→AllIs d (nns (l.drop k)) (dps (l.drop k)) (Qdx l d k):=by
 have hlen:=Qjq l
 refine upto ?_ fun k hk ihk=>?_
 ·rw[Qdx,List.drop_length]
  refine⟨[],by simp,by simp[nns],fun m hm=>?_⟩
  simp[maxD,dps]; omega
 ·have hx:=Qjr (List.getElem_mem hk)
  obtain⟨o1,a1,a2,a3⟩:=tAll2 n ih l d k l[k] (by omega) hd
  obtain⟨o2,b1,b2,b3⟩:=ihk
  rw[Qdx,Qba (by omega)]
  simp only[ltI,hk,decide_true,if_true,Qbd,getE hk,Qad,a1,b1]
  rw[dropE hk]
  refine⟨_,rfl,?_,fun m hm=>?_⟩
  ·simp[nns,nn_eq,a2,b2]; omega
  ·show maxD ([(l[k],(d:Int))]++(o1++o2)) m=_
   have e0:maxD [(l[k],(d:Int))] m=max m d:=by
    show(if(d:Int)>m then(d:Int) else m)=_
    split<;>omega
   rw[Qo1,Qo1,e0,a3 _ (by omega),b3 _ (by omega),dps,dp_eq]
   omega
end
theorem tAll:∀ n (l:List Qab) (d:Nat),nns l≤n→n+d≤1000000000→AllIs d (nns l) (dps l) (Qd1 l d):=by
 intro n
 induction n with
 | zero =>
  intro l d h _
  have hl:l=[]:=List.eq_nil_of_length_eq_zero (by have:=Qjq l; omega)
  subst hl
  rw[Qd1,Qdx]
  refine⟨[],by simp,by simp[nns],fun m hm=>?_⟩
  simp[maxD,dps]; omega
 | succ n ih =>
  intro l d h hd
  obtain⟨o,a1,a2,a3⟩:=tAll1 n ih l d h hd 0 (by omega)
  rw[List.drop_zero] at a2 a3
  refine⟨o,?_,a2,a3⟩
  rw[Qd1,show(0:Int)=((0:Nat):Int) from rfl,a1]
  simp
theorem tDeep (l:List Qab) (h:nns l≤900000000):Qkt l=some (dps l:Int):=by
 obtain⟨o,a1,a2,a3⟩:=tAll 900000000 l 1 h (by omega)
 rw[Qkt,Qgx]
 simp only[Qad]
 rw[show(1:Int)=((1:Nat):Int) from rfl,a1]
 simp only[Qad,tDeepL]
 rw[a3 0 (by omega)]
 congr 1
 omega
theorem tCount (l:List Qab) (h:nns l≤900000000):Qi2 l=some (nns l:Int):=by
 obtain⟨o,a1,a2,a3⟩:=tAll 900000000 l 1 h (by omega)
 have:=tCountL (l,((1:Nat):Int)) o 0 (by omega)
 rw[Qi2,Qgx]
 simp only[Qad]
 rw[show(1:Int)=((1:Nat):Int) from rfl,a1]
 simp only[Qad]
 rw[show(0:Int)=((0:Nat):Int) from rfl,this]
 simp[a2]
section
end
noncomputable def isP (l:List Qab):Bool:=decide (dps l≤12)&&(decide (nns l≤1024)&&blockP l false)
theorem tIs (l:List Qab) (h:nns l≤800000000) (ho:allL okNd l):Qqf l=some (isP l):=by
 have e1:decide ((dps l:Int)≤12)=decide (dps l≤12):=leN _ 12
 have e2:decide ((nns l:Int)≤1024)=decide (nns l≤1024):=leN _ 1024
 have hb:=tBlock 800000000 (by omega) (fun x hx=>tStmt 800000000 x (by omega) hx) l h ho true
 rw[Qqf,tDeep l (by omega),tCount l (by omega),hb,isP]
 simp only[Qad,e1,e2]
 cases decide (dps l≤12)<;>cases decide (nns l≤1024)<;>rfl
end Go.Proofs.Ytfgegilhjlnohaa
end

section
namespace Go.Proofs.Ytfgegilhjlnohaa
open Go.RowKit
def Puts (w:List UInt8) (acc:List Int) (o:Option (Bool×List Int)):Prop:=∃ f,o=some (f,acc++s2b w)
abbrev room:Nat:=100000000000
theorem Puts.seq {w1 w2:List UInt8} {acc:List Int} {o:Option (Bool×List Int)} {g:Bool×List Int→Option (Bool×List Int)} (h:Puts w1 acc o) (k:∀ f,Puts w2 (acc++s2b w1) (g (f,acc++s2b w1))):Puts (w1++w2) acc (o>>=g):=by
 obtain⟨f,rfl⟩:=h
 obtain⟨f', hf⟩:=k f
 refine⟨f', ?_⟩
 rw[Qad,hf,Q0f,List.append_assoc]
theorem Puts.ret {w:List UInt8} {acc:List Int} {o:Option (Bool×List Int)} (h:Puts w acc o):Puts w acc (o>>=fun x=>some (x.1,x.2)):=by
 obtain⟨f,rfl⟩:=h
 exact⟨f,rfl⟩
section
end
end Go.Proofs.Ytfgegilhjlnohaa
end

section
namespace Go.Proofs.Ytfgegilhjlnohaa
open Go.RowKit
def contB (c:UInt8):Bool:=decide (128≤c.toNat)&&decide (c.toNat<192)
def runeB (n:Nat):Bool:=decide (n≤1114111) && !(decide (55296≤n)&&decide (n≤57343))
def nextC (c:UInt8) (r:List UInt8):Nat×Nat :=
  if c.toNat<128 then(c.toNat,1)
  else if 192≤c.toNat∧c.toNat<224 then
   match r with
   | c1::_=>if contB c1=true∧128≤(c.toNat-192)*64+(c1.toNat-128) then((c.toNat-192)*64+(c1.toNat-128),2) else(65533,1)
   | _=>(65533,1)
  else if 224≤c.toNat∧c.toNat<240 then
   match r with
   | c1::c2::_=>if contB c1=true∧contB c2=true∧2048≤((c.toNat-224)*64+(c1.toNat-128))*64+(c2.toNat-128)∧runeB (((c.toNat-224)*64+(c1.toNat-128))*64+(c2.toNat-128))=true then(((c.toNat-224)*64+(c1.toNat-128))*64+(c2.toNat-128),3) else(65533,1)
   | _=>(65533,1)
  else if 240≤c.toNat∧c.toNat<248 then
   match r with
   | c1::c2::c3::_=>if contB c1=true∧contB c2=true∧contB c3=true∧65536≤(((c.toNat-240)*64+(c1.toNat-128))*64+(c2.toNat-128))*64+(c3.toNat-128)∧runeB ((((c.toNat-240)*64+(c1.toNat-128))*64+(c2.toNat-128))*64+(c3.toNat-128))=true then((((c.toNat-240)*64+(c1.toNat-128))*64+(c2.toNat-128))*64+(c3.toNat-128),4) else(65533,1)
   | _=>(65533,1)
  else(65533,1)
def nextP:List UInt8→Nat×Nat
 | []=>(0,0)
 | c::r=>nextC c r
theorem Qqj {n:Int} (h1 : -2147483648≤n) (h2:n≤2147483647):IntKind.i32.wrap n=n:=by
 simp[IntKind.wrap,IntKind.bits,IntKind.signed]
 omega
theorem and63:∀ c:Fin 256,bits .and .u8 ((c.1:Nat):Int) 63=((c.1 % 64:Nat):Int):=by decide +kernel
theorem and192:∀ c:Fin 256,(bits .and .u8 ((c.1:Nat):Int) 192 != 128) = !(decide (128≤c.1)&&decide (c.1<192)):=by decide +kernel
theorem and31:∀ c:Fin 256,bits .and .u8 ((c.1:Nat):Int) 31=((c.1 % 32:Nat):Int):=by decide +kernel
theorem and15:∀ c:Fin 256,bits .and .u8 ((c.1:Nat):Int) 15=((c.1 % 16:Nat):Int):=by decide +kernel
theorem and7:∀ c:Fin 256,bits .and .u8 ((c.1:Nat):Int) 7=((c.1 % 8:Nat):Int):=by decide +kernel
theorem or64 (a b:Nat) (ha:a<1000000) (hb:b<64):bits .or .i32 (IntKind.i32.wrap ((a:Int)*2 ^ (min (6:Int).toNat (IntKind.i32.bits)))) (IntKind.i32.wrap (b:Int))=((a*64+b:Nat):Int):=by
 have e1:IntKind.i32.wrap ((a:Int)*2 ^ (min (6:Int).toNat (IntKind.i32.bits)))=((a*64:Nat):Int):=by
  have:(min (6:Int).toNat (IntKind.i32.bits))=6:=rfl
  rw[this,Qqj (by omega) (by omega)]; omega
 rw[e1,Qqj (by omega) (by omega)]
 have e2:(2:Nat) ^ 6*a+b=2 ^ 6*a ||| b:=Nat.two_pow_add_eq_or_of_lt (by omega) a
 have e3:a*64 ||| b=a*64+b:=by
  have:(2:Nat) ^ 6*a=a*64:=by omega
  rw[this] at e2; omega
 show IntKind.i32.wrap ((BitVec.ofInt 32 ((a*64:Nat):Int) ||| BitVec.ofInt 32 (b:Int)).toNat:Int)=_
 rw[BitVec.toNat_or,BitVec.ofInt_natCast,BitVec.ofInt_natCast,BitVec.toNat_ofNat,BitVec.toNat_ofNat,Nat.mod_eq_of_lt (by omega),Nat.mod_eq_of_lt (by omega),e3,Qqj (by omega) (by omega)]
theorem b63 (c:UInt8):bits .and .u8 (c.toNat:Int) 63=((c.toNat % 64:Nat):Int):=and63 ⟨c.toNat,c.toNat_lt⟩
theorem b192 (c:UInt8):(bits .and .u8 (c.toNat:Int) 192 != 128) = !contB c:=and192 ⟨c.toNat,c.toNat_lt⟩
theorem b31 (c:UInt8):bits .and .u8 (c.toNat:Int) 31=((c.toNat % 32:Nat):Int):=and31 ⟨c.toNat,c.toNat_lt⟩
theorem b15 (c:UInt8):bits .and .u8 (c.toNat:Int) 15=((c.toNat % 16:Nat):Int):=and15 ⟨c.toNat,c.toNat_lt⟩
theorem b7 (c:UInt8):bits .and .u8 (c.toNat:Int) 7=((c.toNat % 8:Nat):Int):=and7 ⟨c.toNat,c.toNat_lt⟩
theorem Q1e {c:UInt8} (h:contB c=true):c.toNat % 64=c.toNat-128:=by
 unfold contB at h
 simp at h
 omega
def tailP:Nat→List UInt8→Nat→Option Nat
 | 0,_,v=>some v
 | _+1,[],_=>none
 | m+1,c::r,v=>if contB c=true then tailP m r (v*64+(c.toNat-128)) else none
set_option maxRecDepth 20000 in
theorem tTailL (l:List UInt8) (m:Nat) (hm:m≤l.length) (hm3:m≤3):∀ (d k v:Nat),k+d=m→((k=0→v<64)∧(k≤1→v<4096)∧(k≤2→v<262144)) →
  Qei l m v k=some (match tailP d (l.drop k) v with | some n =>.inl (n:Int) | none =>.inr ()):=by
 intro d
 induction d with
 | zero =>
  intro k v hk _
  rw[Qei,ltI,decide_eq_false (by omega:¬ k<m)]
  rfl
 | succ d ih =>
  intro k v hk hv
  have hkl:k<l.length:=by omega
  have:decide ((k:Int)<(m:Int))=true:=decide_eq_true (by omega)
  rw[Qei]
  simp only[this,if_true,Qbd,getE hkl,Qad,b192,b63]
  rw[or64 v _ (by omega) (Nat.mod_lt _ (by omega)),Qba (by omega),dropE hkl]
  unfold tailP
  cases hc:contB l[k] with
  | false=>rfl
  | true =>
   rw[Q1e hc]
   have hlt:l[k].toNat-128<64:=by unfold contB at hc; simp at hc; omega
   have hv2:(k+1=0→v*64+(l[k].toNat-128)<64)∧(k+1≤1→v*64+(l[k].toNat-128)<4096)∧(k+1≤2→v*64+(l[k].toNat-128)<262144):=by omega
   simp only[Bool.not_true,Bool.false_eq_true,if_false,if_true]
   exact ih (k+1) _ (by omega) hv2
theorem tTail (l:List UInt8) (m v:Nat) (hm3:m≤3) (hv:v<64):Qla l v m=some (match (if l.length<m then none else tailP m l v) with | some n=>((n:Int),true) | none=>(0,false)):=by
 rw[Qla,ltI]
 by_cases h:l.length<m
 ·rw[decide_eq_true h,if_pos h]; rfl
 ·rw[decide_eq_false h,if_neg h]
  have:=tTailL l m (by omega) hm3 m 0 v (by omega) (by omega)
  rw[List.drop_zero] at this
  rw[show(0:Int)=((0:Nat):Int) from rfl,this]
  cases tailP m l v<;>rfl
theorem tIsR (n:Nat):Qsa (n:Int)=some (runeB n):=by
 have a:decide ((n:Int) ≥ 0)=true:=decide_eq_true (by omega)
 have b:decide ((n:Int)≤1114111)=decide (n≤1114111):=by
  by_cases h:n≤1114111
  ·rw[decide_eq_true h,decide_eq_true (by omega)]
  ·rw[decide_eq_false h,decide_eq_false (by omega)]
 rw[Qsa,a,b,runeB]
 by_cases h1:n<55296
 ·rw[decide_eq_true (show(n:Int)<55296 by omega),decide_eq_true (show n≤1114111 by omega),decide_eq_false (show ¬ 55296≤n by omega)]; rfl
 ·rw[decide_eq_false (show ¬ (n:Int)<55296 by omega),decide_eq_true (show 55296≤n by omega)]
  by_cases h2:n≤57343
  ·rw[decide_eq_false (show ¬ (n:Int)>57343 by omega),decide_eq_true h2,decide_eq_true (show n≤1114111 by omega)]; rfl
  ·rw[decide_eq_true (show(n:Int)>57343 by omega),decide_eq_false h2]
   cases decide (n≤1114111)<;>rfl
theorem ltC (c:UInt8) (k:Nat):decide ((c.toNat:Int)<(k:Int))=decide (c.toNat<k):=ltI _ _
theorem geC (c:UInt8) (k:Nat):decide ((c.toNat:Int) ≥ (k:Int))=decide (k≤c.toNat):=by
 by_cases h:k≤c.toNat
 ·rw[decide_eq_true h,decide_eq_true (by omega)]
 ·rw[decide_eq_false h,decide_eq_false (by omega)]
def endP (o:Option Nat) (least m:Nat):Nat×Nat:=match o with
 | some n=>if least≤n∧runeB n=true then(n,m+1) else(65533,1)
 | none=>(65533,1)
set_option maxRecDepth 20000 in
theorem tNext (s:List UInt8) (k:Nat) (hk:k<s.length) (hs:s.length<9223372036854775807):Qmq s k=some (((nextP (s.drop k)).1:Int),((nextP (s.drop k)).2:Int)):=by
 have d1:decide ((k:Int)<0)=false:=decide_eq_false (by omega)
 have d2:decide ((k:Int) ≥ (s.length:Int))=false:=decide_eq_false (by omega)
 have hc:=s[k].toNat_lt
 have hr:cutL s (wr ((k:Int)+1)) (s.length:Int)=some (s.drop (k+1)):=by
  rw[Qba (by omega),Qnj (by omega) (by omega) (by omega)]
  simp
 rw[Qmq,d1,d2,hr,dropE hk]
 have l128:=ltC s[k] 128
 have g192:=geC s[k] 192
 have l224:=ltC s[k] 224
 have g224:=geC s[k] 224
 have l240:=ltC s[k] 240
 have g240:=geC s[k] 240
 have l248:=ltC s[k] 248
 have b1:∀ a b:Bool,(if a=true then some b else some false:Option Bool)=some (a&&b):=fun a b=>by cases a<;>rfl
 simp only[Bool.false_eq_true,if_false,Qad,Qbd,getE hk]
 rw[show(128:Int)=((128:Nat):Int) from rfl,show(192:Int)=((192:Nat):Int) from rfl,show(224:Int)=((224:Nat):Int) from rfl,show(240:Int)=((240:Nat):Int) from rfl,show(248:Int)=((248:Nat):Int) from rfl,l128,g192,l224,g224,l240,g240,l248]
 simp only[b1,Qad]
 rw[nextP]
 unfold nextC
 have fin:∀ (v least m:Nat),m≤3→v<64→(Qla (s.drop (k+1)) (v:Int) (m:Int)>>=fun x10 =>
   (if(!x10.2)=true then some true else if decide (x10.1<(least:Int))=true then some true else Qsa x10.1>>=fun x12=>some (!x12):Option Bool)>>=fun o11 =>
   if o11=true then some ((65533:Int),(1:Int)) else some (x10.1,wr ((m:Int)+1))) =
   some (((endP (if(s.drop (k+1)).length<m then none else tailP m (s.drop (k+1)) v) least m).1:Int),((endP (if(s.drop (k+1)).length<m then none else tailP m (s.drop (k+1)) v) least m).2:Int)):=fun v least m hm hv=>by
  rw[tTail _ m v hm hv]
  cases (if(s.drop (k+1)).length<m then none else tailP m (s.drop (k+1)) v) with
  | none=>rfl
  | some n =>
   simp only[Qad,Bool.not_true,Bool.false_eq_true,if_false,ltI,tIsR,endP]
   by_cases h1:n<least
   ·rw[decide_eq_true h1,if_neg (fun h=>absurd h.1 (by omega):¬ (least≤n∧runeB n=true))]; rfl
   ·rw[decide_eq_false h1]
    cases hrn:runeB n with
    | true=>rw[if_pos (⟨by omega,rfl⟩:least≤n∧true=true),Qba (by omega)]; rfl
    | false=>rw[if_neg (fun h=>by cases h.2:¬ (least≤n∧false=true))]; rfl
 by_cases h1:s[k].toNat<128
 ·rw[decide_eq_true h1,if_pos h1]
  simp only[if_true,Qad]
  rw[Qqj (by omega) (by omega)]; rfl
 rw[decide_eq_false h1,if_neg h1]
 simp only[Bool.false_eq_true,if_false]
 have cc:∀ c:UInt8,contB c=true→c.toNat-128<64:=fun c h=>by unfold contB at h; simp at h; omega
 by_cases h2:192≤s[k].toNat∧s[k].toNat<224
 ·rw[decide_eq_true h2.1,decide_eq_true h2.2,if_pos h2,b31]
  simp only[Bool.and_true,if_true,Qad]
  rw[Qqj (by omega) (by omega)]
  have f:=fin (s[k].toNat % 32) 128 1 (by omega) (by omega)
  rw[show((1:Nat):Int)=1 from rfl] at f
  rw[f]
  have e:s[k].toNat % 32=s[k].toNat-192:=by omega
  rw[e]
  cases s.drop (k+1) with
  | nil=>rfl
  | cons c1 r1 =>
   simp only[List.length_cons,if_neg (by omega:¬ r1.length+1<1),tailP]
   cases h:contB c1 with
   | false=>rfl
   | true =>
    have:=cc c1 h
    have hr:runeB ((s[k].toNat-192)*64+(c1.toNat-128))=true:=by unfold runeB; rw[decide_eq_true (by omega),decide_eq_false (by omega)]; rfl
    simp only[if_true,endP,hr,and_true,true_and]
 rw[if_neg h2]
 have d2:(decide (192≤s[k].toNat)&&decide (s[k].toNat<224))=false:=by
  rw[Bool.and_eq_false_iff]
  by_cases h:192≤s[k].toNat
  ·exact .inr (decide_eq_false (by omega))
  ·exact .inl (decide_eq_false h)
 rw[d2]
 simp only[Bool.false_eq_true,if_false]
 by_cases h3:224≤s[k].toNat∧s[k].toNat<240
 ·rw[decide_eq_true h3.1,decide_eq_true h3.2,if_pos h3,b15]
  simp only[Bool.and_true,if_true,Qad]
  rw[Qqj (by omega) (by omega)]
  have f:=fin (s[k].toNat % 16) 2048 2 (by omega) (by omega)
  rw[show((2:Nat):Int)=2 from rfl,show((2048:Nat):Int)=2048 from rfl] at f
  rw[f]
  have e:s[k].toNat % 16=s[k].toNat-224:=by omega
  rw[e]
  match s.drop (k+1) with
  | []=>rfl
  | [c1]=>rfl
  | c1::c2::r1 =>
   simp only[List.length_cons,if_neg (by omega:¬ r1.length+1+1<2),tailP]
   cases h:contB c1 with
   | false=>rfl
   | true =>
    cases h' : contB c2 with
    | false=>simp[endP]
    | true=>simp only[if_true,endP,true_and]
 rw[if_neg h3]
 have d3:(decide (224≤s[k].toNat)&&decide (s[k].toNat<240))=false:=by
  rw[Bool.and_eq_false_iff]
  by_cases h:224≤s[k].toNat
  ·exact .inr (decide_eq_false (by omega))
  ·exact .inl (decide_eq_false h)
 rw[d3]
 simp only[Bool.false_eq_true,if_false]
 by_cases h4:240≤s[k].toNat∧s[k].toNat<248
 ·rw[decide_eq_true h4.1,decide_eq_true h4.2,if_pos h4,b7]
  simp only[Bool.and_true,if_true,Qad]
  rw[Qqj (by omega) (by omega)]
  have f:=fin (s[k].toNat % 8) 65536 3 (by omega) (by omega)
  rw[show((3:Nat):Int)=3 from rfl,show((65536:Nat):Int)=65536 from rfl] at f
  rw[f]
  have e:s[k].toNat % 8=s[k].toNat-240:=by omega
  rw[e]
  match s.drop (k+1) with
  | []=>rfl
  | [c1]=>rfl
  | [c1,c2]=>rfl
  | c1::c2::c3::r1 =>
   simp only[List.length_cons,if_neg (by omega:¬ r1.length+1+1+1<3),tailP]
   cases h:contB c1 with
   | false=>rfl
   | true =>
    cases h' : contB c2 with
    | false=>simp[endP]
    | true =>
     cases h'' : contB c3 with
     | false=>simp[endP]
     | true=>simp only[if_true,endP,true_and]
 rw[if_neg h4]
 have d4:(decide (240≤s[k].toNat)&&decide (s[k].toNat<248))=false:=by
  rw[Bool.and_eq_false_iff]
  by_cases h:240≤s[k].toNat
  ·exact .inr (decide_eq_false (by omega))
  ·exact .inl (decide_eq_false h)
 rw[d4]
 rfl
theorem Qy1 (l:List UInt8) (h:l≠[]):1≤(nextP l).2∧(nextP l).2≤l.length:=by
 cases l with
 | nil=>exact absurd rfl h
 | cons c r =>
  rw[nextP]
  unfold nextC
  split
  ·simp
  ·split
   ·split
    ·split<;>simp
    ·simp
   ·split
    ·split
     ·split<;>simp
     ·simp
    ·split
     ·split
      ·split<;>simp
      ·simp
     ·simp
end Go.Proofs.Ytfgegilhjlnohaa
end

section
namespace Go.Proofs.Ytfgegilhjlnohaa
open Go.RowKit
theorem td (n k:Nat):((n:Int).tdiv (k:Int))=((n / k:Nat):Int):=by rw[Int.tdiv_eq_ediv_of_nonneg (by omega)]; rfl
theorem tm (n k:Nat):((n:Int).tmod (k:Int))=((n % k:Nat):Int):=by rw[Int.tmod_eq_emod_of_nonneg (by omega)]; rfl
end Go.Proofs.Ytfgegilhjlnohaa
end

section
namespace Go.Proofs.Ytfgegilhjlnohaa
open Go.RowKit
def utfF:Nat→List UInt8→Bool
 | 0,_=>true
 | n+1,l=>match l with
  | []=>true
  | _::_=>if(nextP l).1=65533∧(nextP l).2=1 then false else utfF n (l.drop (nextP l).2)
theorem Q0g (n:Nat) (l:List UInt8) (h:l≠[]):utfF (n+1) l=if(nextP l).1=65533∧(nextP l).2=1 then false else utfF n (l.drop (nextP l).2):=by
 cases l with
 | nil=>exact absurd rfl h
 | cons c r=>rfl
theorem badI (p:Nat×Nat):(if(((p.1:Nat):Int)==65533)=true then some (((p.2:Nat):Int)==1) else some false:Option Bool)=some (decide (p.1=65533∧p.2=1)):=by
 have a:=eqN p.1 65533
 have b:=eqN p.2 1
 rw[show(65533:Int)=((65533:Nat):Int) from rfl,show(1:Int)=((1:Nat):Int) from rfl,a,b]
 by_cases h1:p.1=65533
 ·rw[beq_iff_eq.2 h1,if_pos rfl]
  by_cases h2:p.2=1
  ·rw[beq_iff_eq.2 h2,decide_eq_true ⟨h1,h2⟩]
  ·rw[beq_eq_false_iff_ne.2 h2,decide_eq_false (fun h=>h2 h.2)]
 ·rw[beq_eq_false_iff_ne.2 h1,if_neg (by decide),decide_eq_false (fun h=>h1 h.1)]
theorem tIsU (s:List UInt8) (x1:List UInt8) (hs:s.length<9000000000000):∀ n k,k≤s.length→s.length-k≤n→∃ out,Qde s k=some (out,())∧Qfz x1 out=some (if utfF n (s.drop k)=true then .inl () else .inr ()):=by
 intro n
 induction n with
 | zero =>
  intro k h1 h2
  rw[Qde,ltI,decide_eq_false (by omega:¬ k<s.length)]
  refine⟨[],rfl,?_⟩
  rw[Qfz]; rfl
 | succ n ih =>
  intro k h1 h2
  by_cases hk:k<s.length
  ·have hne:s.drop k≠[]:=by rw[dropE hk]; exact List.cons_ne_nil _ _
   obtain⟨z1,z2⟩:=Qy1 _ hne
   rw[List.length_drop] at z2
   have ew:wr ((k:Int)+((nextP (s.drop k)).2:Int))=((k+(nextP (s.drop k)).2:Nat):Int):=by rw[wr_in (by omega) (by omega)]; rfl
   obtain⟨out,o1,o2⟩:=ih (k+(nextP (s.drop k)).2) (by omega) (by omega)
   rw[Qde,ltI,decide_eq_true hk,tNext s k hk (by omega)]
   simp only[if_true,Qad]
   rw[ew,o1]
   refine⟨_,rfl,?_⟩
   rw[Qfz]
   simp only
   rw[badI (nextP (s.drop k)),o2,Q0g n _ hne,List.drop_drop]
   by_cases hb:(nextP (s.drop k)).1=65533∧(nextP (s.drop k)).2=1
   ·rw[decide_eq_true hb,if_pos hb]; rfl
   ·rw[decide_eq_false hb,if_neg hb]; rfl
  ·rw[Qde,ltI,decide_eq_false hk,List.drop_eq_nil_of_le (by omega)]
   refine⟨[],rfl,?_⟩
   rw[Qfz]; rfl
theorem tUtf (s:List UInt8) (hs:s.length<9000000000000):Qvh s=some (utfF s.length s):=by
 obtain⟨out,o1,o2⟩:=tIsU s s hs s.length 0 (by omega) (by omega)
 rw[List.drop_zero] at o2
 rw[Qvh,Qts]
 simp only[Qad]
 rw[Qmr,show(0:Int)=((0:Nat):Int) from rfl,o1]
 simp only[Qad,List.append_nil,o2]
 cases utfF s.length s<;>rfl
def qb (c:UInt8):List UInt8:=if c=10 then [92,110] else if c=9 then [92,116] else if c=34∨c=92 then [92,c] else [c]
def qs (s:List UInt8):List UInt8:=s.flatMap qb
theorem Q1o (c:UInt8):(qb c).length≤2:=by unfold qb; split; simp; split; simp; split<;>simp
theorem Q1p:∀ s:List UInt8,(qs s).length≤2*s.length
 | []=>by simp[qs]
 | c::r=>by
  have:=Q1p r
  have:=Q1o c
  simp[qs] at *
  omega
theorem eqC (c:UInt8) (k:Nat) (hk:k<256):((c.toNat:Int)==(k:Int))=decide (c=UInt8.ofNat k):=by
 rw[eqN]
 by_cases h:c.toNat=k
 ·rw[beq_iff_eq.2 h,decide_eq_true]
  apply UInt8.toNat_inj.1
  rw[h,UInt8.toNat_ofNat', Nat.mod_eq_of_lt hk]
 ·rw[beq_eq_false_iff_ne.2 h,decide_eq_false]
  intro e; apply h; rw[e,UInt8.toNat_ofNat', Nat.mod_eq_of_lt hk]
theorem tQuoteL (s:List UInt8) (hs:s.length≤1000000):∀ k,k≤s.length→∀ acc:List Int,acc.length≤2*k+1→Qbx s acc k=some (acc++s2b (qs (s.drop k))):=by
 refine upto ?_ fun k hk ih=>?_
 ·intro acc _
  rw[Qbx]; simp[qs,s2b]
 ·intro acc ha
  have e10:=eqC s[k] 10 (by omega)
  have e9:=eqC s[k] 9 (by omega)
  have e34:=eqC s[k] 34 (by omega)
  have e92:=eqC s[k] 92 (by omega)
  rw[Qbx,Qba (by omega)]
  simp only[ltI,hk,decide_true,if_true,Qbd,getE hk,Qad]
  rw[show(10:Int)=((10:Nat):Int) from rfl,show(9:Int)=((9:Nat):Int) from rfl,show(34:Int)=((34:Nat):Int) from rfl,show(92:Int)=((92:Nat):Int) from rfl,e10,e9,e34,e92]
  have eq:qs (s.drop k)=qb s[k]++qs (s.drop (k+1)):=by rw[dropE hk]; rfl
  have step:∀ w:List UInt8,qb s[k]=w→(appL 1 acc (s2b w)>>=fun x=>Qbx s x ((k+1:Nat):Int))=some (acc++s2b (qs (s.drop k))):=fun w hw=>by
   have hl:w.length≤2:=by rw[← hw]; exact Q1o _
   rw[Qf6 (by rw[Qqh]; omega) (by rw[Qqh]; omega),Qad,ih _ (by rw[List.length_append,Qqh]; omega),eq,hw,Q0f,List.append_assoc]
  by_cases h10:s[k]=10
  ·rw[decide_eq_true (show s[k]=UInt8.ofNat 10 from h10)]
   exact step [92,110] (by unfold qb; rw[if_pos h10])
  have h10' : decide (s[k]=UInt8.ofNat 10)=false:=decide_eq_false h10
  rw[h10']
  by_cases h9:s[k]=9
  ·rw[decide_eq_true (show s[k]=UInt8.ofNat 9 from h9)]
   exact step [92,116] (by unfold qb; rw[if_neg h10,if_pos h9])
  have h9' : decide (s[k]=UInt8.ofNat 9)=false:=decide_eq_false h9
  rw[h9']
  have e:(if decide (s[k]=UInt8.ofNat 34)=true then some (decide (s[k]=UInt8.ofNat 34)) else some (decide (s[k]=UInt8.ofNat 92)):Option Bool)=some (decide (s[k]=34∨s[k]=92)):=by
   by_cases h:s[k]=34
   ·rw[decide_eq_true (show s[k]=UInt8.ofNat 34 from h),decide_eq_true (show s[k]=34∨s[k]=92 from .inl h)]; rfl
   ·rw[decide_eq_false (show ¬ s[k]=UInt8.ofNat 34 from h)]
    by_cases h' : s[k]=92
    ·rw[decide_eq_true (show s[k]=UInt8.ofNat 92 from h'),decide_eq_true (show s[k]=34∨s[k]=92 from .inr h')]; rfl
    ·rw[decide_eq_false (show ¬ s[k]=UInt8.ofNat 92 from h'),decide_eq_false (show ¬ (s[k]=34∨s[k]=92) from fun q=>q.elim h h')]; rfl
  simp only[Bool.false_eq_true,if_false]
  rw[e]
  simp only[Qad]
  by_cases h34:s[k]=34∨s[k]=92
  ·rw[decide_eq_true h34]
   exact step [92,s[k]] (by unfold qb; rw[if_neg h10,if_neg h9,if_pos h34])
  ·rw[decide_eq_false h34]
   exact step [s[k]] (by unfold qb; rw[if_neg h10,if_neg h9,if_neg h34])
theorem idx13:∀ s:List UInt8,decide (Lib.indexByte s 13 ≥ 0)=s.any (· == 13)
 | []=>rfl
 | c::r=>by
  have ih:=idx13 r
  have hg:=Lib.indexByte_ge r 13
  unfold Lib.indexByte
  rw[List.any_cons]
  cases hc:(c==13) with
  | true=>rfl
  | false =>
   simp only[Bool.false_eq_true,if_false,Bool.false_or]
   rw[← ih]
   by_cases h1:Lib.indexByte r 13 = -1
   ·rw[h1]; rfl
   ·rw[if_neg (by simpa using h1),decide_eq_true (by omega),decide_eq_true (by omega)]
def quoV (s:List UInt8):List UInt8×Bool:=if utfF s.length s=true∧s.any (· == 13)=false then([34]++qs s++[34],true) else([],false)
theorem quoteL (s:List UInt8) (hs:s.length≤1000000):Qe0 s=some (quoV s)∧(quoV s).1.length≤2*s.length+2:=by
 unfold quoV
 have hl:=Q1p s
 have t:=tQuoteL s hs 0 (by omega) [34] (by simp)
 rw[List.drop_zero] at t
 have e13:decide (Lib.indexByte s (13:Int).toNat.toUInt8 ≥ 0)=s.any (· == 13):=idx13 s
 refine⟨?_,?_⟩
 ·rw[Qe0,tUtf s (by omega),strings_IndexByte,Qbq]
  simp only[Qad,e13]
  cases hu:utfF s.length s with
  | false=>rfl
  | true =>
   cases ha:s.any (· == 13) with
   | true=>rfl
   | false =>
    simp only[Bool.not_true,Bool.false_eq_true,if_false,Qad,if_true,and_self]
    rw[show(0:Int)=((0:Nat):Int) from rfl,t]
    simp only[Qad]
    rw[Qf6 (by simp[Qqh]; omega) (by simp[Qqh]; omega),Qad]
    have e:[34]++s2b (qs s)++[34]=s2b ([34]++qs s++[34]):=by simp[s2b]
    rw[e,Q2a]
    rfl
 ·split
  ·simp; omega
  ·simp
theorem quoteBoth (s:List UInt8) (hs:s.length≤1000000):∃ q,Qe0 s=some q∧Qe0 s=some q∧q.1.length≤2*s.length+2:=⟨_,(quoteL s hs).1,quoteL s hs⟩
end Go.Proofs.Ytfgegilhjlnohaa
end

section
namespace Go.Proofs.Ytfgegilhjlnohaa
open Go.RowKit
def rngN (x:Qab):Prop := -9223372036854775808≤x.N∧x.N≤9223372036854775807
def KeepsN (g:List Qab→Nat→List Qab×Nat):Prop:=∀ (l:List Qab) (n:Nat),allL rngN l→allL rngN (g l n).1
theorem Qy2 {g:List Qab→Nat→List Qab×Nat} (hg:KeepsN g):KeepsN (lightG g):=fun l=>by
 induction l with
 | nil=>intro n _; simp[lightG,allL]
 | cons x r ih =>
  intro n h
  rw[allL,Qjs] at h
  obtain⟨⟨hq,h1,h2,h3⟩,h4⟩:=h
  unfold lightG
  split
  ·simp[allL]
  ·rw[allL,Qjs]
   exact⟨⟨hq,hg _ _ h1,hg _ _ h2,hg _ _ h3⟩,ih _ h4⟩
theorem Qsb:∀ d,KeepsN (lightP d)
 | 0=>fun l n _=>by simp[lightP,allL]
 | d+1=>Qy2 (Qsb d)
theorem Qy3 (x:Qab) (h1:x.Name.length≤40) (h2:x.Text.length≤60) (h3:rngN x):okNd x:=by
 refine⟨by omega,by omega,h3,fun _=>?_⟩
 obtain⟨q,q1,q2,-⟩:=quoteBoth x.Text (by omega)
 exact⟨q,q1,q2⟩
end Go.Proofs.Ytfgegilhjlnohaa
end
