/- The proof's texts, part 10 of 11: the walks by a logic in which data are by value, the plain laws, and at the end the law, for every input. -/
import Derived.Test.YtfgegilhjlnohaaGreatMgCallsChecks9

section
set_option linter.unusedVariables false
set_option linter.unusedSimpArgs false
set_option maxRecDepth 100000
set_option maxHeartbeats 4000000
namespace Go.Proofs.YtfgegilhjlnohaaGreat
open Go.RowKit
theorem Qh4:∀ (p0:(List Qac)) (o:(List UInt8)×Int),Qe1 p0=some o→PCall Tryz.prog 13 [.sl false (p0.map Qaf)] (Qb9 o):=by
 intro p0 o h
 unfold Qe1 at h
 refine PCall.ofB mixed tbOk Qfi Tryz.func13 rfl (by kernel_rfl) (Nat.le_of_ble_eq_true rfl) ?_
 refine view (lenMap _ _) rfl ?_
 refine Qae h (fun hb h=>?_) (fun hb h=>?_)
 ·refine Qal (t:=Qb9) h ?_
  exact .refl _
 ·refine view (lenMap _ _) rfl ?_
  refine Qag h (fun o1 ho hk=>?_)
  refine Exists.intro (JP2 _ _ o1 (.exit 0) (Qhc p0) .ret (Qhd p0)) (And.intro (T_le (τ := Qe7 p0 0) ?_ (TL.loop (Qq5 p0 0 o1 ho))) (join2 (fun y2 hy=>?_) (fun y3 hy=>?_)))
  ·exact Le.tz 0 0 rfl rfl rfl
  ·have h:=(by rw[hy] at hk; exact hk)
   refine Qc2 _ _ h (fun x10 hy=>((Qk4 p0 x10 hy).frN [] [] rfl rfl rfl)) (fun x10 hy h=>?_)
   refine view (lenMap _ _) rfl ?_
   refine Qag h (fun o11 ho hk=>?_)
   refine Exists.intro (JP2 _ _ o11 (.exit 2) (Qhg p0 x10) .ret (Qhh p0 x10)) (And.intro (T_le (τ := Qe9 p0 x10 0) ?_ (TL.loop (Qq7 p0 x10 0 o11 ho))) (join2 (fun y12 hy=>?_) (fun y13 hy=>?_)))
   ·exact Le.tz 2 0 rfl rfl rfl
   ·have h:=(by rw[hy] at hk; exact hk)
    refine view (lenMap _ _) rfl ?_
    refine Qag h (fun o19 ho hk=>?_)
    refine Exists.intro (JP2 _ _ o19 (.exit 6) (Qhi p0 x10) .ret (Qhj p0 x10)) (And.intro (T_le (τ := Qfa p0 x10 0) ?_ (TL.loop (Qq8 p0 x10 0 o19 ho))) (join2 (fun y20 hy=>?_) (fun y21 hy=>?_)))
    ·exact Le.tz 2 0 rfl rfl rfl
    ·have h:=(by rw[hy] at hk; exact hk)
     refine Qal (t:=Qb9) h ?_
     exact .refl _
    ·have h:=(by rw[hy] at hk; exact hk)
     refine Qal (t:=Qb9) h ?_
     exact .refl _
   ·have h:=(by rw[hy] at hk; exact hk)
    refine Qal (t:=Qb9) h ?_
    exact .refl _
  ·have h:=(by rw[hy] at hk; exact hk)
   refine Qal (t:=Qb9) h ?_
   exact .refl _
noncomputable def Qcq (p0:(List Qac)) (x2:(List ((List UInt8)×(List (List UInt8))))) (v6:(List (List UInt8))) (v22:Int):Option ((List (List UInt8))) :=
 if(decide (v22<(p0.length:Int))) then
  idx p0 v22>>=fun x4 =>
  appL 16 v6 [x4.Name]>>=fun x5 =>
  Qcq p0 x2 x5 (wr (v22+1))
 else
  some v6
 partial_fixpoint
theorem Qqg:∀ (p0:(List Qac)) (x2:(List ((List UInt8)×(List (List UInt8))))),(∀ (v6:(List (List UInt8))) (v22:Int) (o3:(List (List UInt8))),Qcq p0 x2 v6 v22=some o3→TL (0,0) Tryz.prog 53 Qme (JP1 (0,0) 53 o3 (.exit 0) (Qhk p0 x2)) (Qfb p0 x2 v6 v22)):=by
 intro p0 x2
 refine Qcq.partial_correctness p0 x2 _ ?_
 intro Qcq' iQcq v6 v22 o3 h
 refine TL.round (Qaj mixed tbOk (lv:=Qky) _ _ _ ?_)
 refine Qae h (fun hb h=>?_) (fun hb h=>?_)
 ·refine Qa6 (l:=p0) (c:=Qaf) (c' := Qaf) h (fun _=>rfl) (fun _=>rfl) (by decide) (fun x4 hi h=>?_)
  refine Q53 (a:=v6) (b:=[x4.Name]) (c:=cStr) h (.refl _) (fun _=>rfl) rfl (fun x5 hi h=>?_)
  refine TL.le (τ := Qfb p0 x2 x5 (wr (v22+1))) ?_ ((iQcq x5 (wr (v22+1)) _ h))
  exact Le.trans (τ := ⟨[(5,.ptr 1 0),(6,.x 0 2 (.sl 9 1 (x5.map cStr))),(7,.ptr 2 0),(20,.p (.sl false (p0.map Qaf))),(21,.p (iV (p0.length:Int))),(22,.p (iV (wr (v22+1))))],⟨[[mpD sV (fun x =>.sl false (x.map cStr)) x2],[.mh 0],[.p (.sl true [])],[.p (sV x4.Name),.p (.sl false (x4.L.map Qaa))]],[2]⟩⟩) (Le.tz 4 1 rfl rfl rfl) ((Le.ver (.s 6) 0 2 1 rfl rfl rfl rfl).trans (Le.tz 3 1 rfl rfl rfl))
 ·exact JP1.a h (Le.tz 3 1 rfl rfl rfl)
theorem Qra:∀ (p0:(List Qac)) (x2:(List ((List UInt8)×(List (List UInt8))))) (v6:(List (List UInt8))) (v22:Int) (o3:(List (List UInt8))),Qcq p0 x2 v6 v22=some o3→TL (0,0) Tryz.prog 53 Qme (JP1 (0,0) 53 o3 (.exit 0) (Qhk p0 x2)) (Qfb p0 x2 v6 v22):=fun p0 x2 v6 v22=>(Qqg p0 x2) v6 v22
noncomputable def Qfe (p0:(List UInt8)) (h0_0:(List (List UInt8))):Option (Bool) :=
 Qa5 h0_0 p0>>=fun x1 =>
 some (!x1)
theorem Qod:∀ (p0:(List UInt8)) (h0_0:(List (List UInt8))) (o:Bool),Qfe p0 h0_0=some o→CallOK Tryz.prog 52 [.p (sV p0),.ptr 0 0] ⟨[[.own 0 9 1 (h0_0.map cStr)]],[(h0_0.map cStr).length]⟩ (Qju o) ⟨[[.own 0 9 1 (h0_0.map cStr)]],[(h0_0.map cStr).length]⟩:=by
 intro p0 h0_0 o h
 unfold Qfe at h
 refine CallOK.ofB mixed tbOk Qn7 Tryz.func52 rfl (by kernel_rfl) (Nat.le_of_ble_eq_true rfl) rfl rfl rfl ?_
 refine Qah [.sl false (h0_0.map cStr),sV p0] Qbm h (fun x1 hy=>(Qdl h0_0 p0 x1 hy)) (fun x1 hy h=>?_)
 refine Exists.intro _ (And.intro (Le.refl _ _ _) ?_)
 exact Qfq (t:=Qju) (ss:=fun o=>⟨[[.own 0 9 1 (h0_0.map cStr)]],[(h0_0.map cStr).length]⟩) h ⟨[0],rfl,.refl _,.refl _,rfl⟩
noncomputable def Qai (p0:(List (List UInt8))) (h0_0:(List (List UInt8))) (v8:Int):Option (Unit⊕Int) :=
 if(decide (v8<(p0.length:Int))) then
  idx p0 v8>>=fun x4 =>
  Qfe x4 h0_0>>=fun x5 =>
  if x5 then
   some (.inr v8)
  else
   Qai p0 h0_0 (wr (v8+1))
 else
  some (.inl ())
 partial_fixpoint
theorem Qcd:∀ (p0:(List (List UInt8))) (h0_0:(List (List UInt8))),(∀ (v8:Int) (o1:Unit⊕Int),Qai p0 h0_0 v8=some o1→TL (1,1) Tryz.prog 19 Qbe (JP2 (1,1) 19 o1 (.exit 0) (Qax p0 h0_0) .ret (Qay p0 h0_0)) (Qao p0 h0_0 v8)):=by
 intro p0 h0_0
 refine Qai.partial_correctness p0 h0_0 _ ?_
 intro Qai' iQai v8 o1 h
 refine TL.round (Qaj mixed tbOk (lv:=Qbj) _ _ _ ?_)
 refine Qae h (fun hb h=>?_) (fun hb h=>?_)
 ·refine Qa6 (l:=p0) (c:=cStr) (c' := cStr) h (fun _=>rfl) (fun _=>rfl) (by decide) (fun x4 hi h=>?_)
  refine Qc2 _ _ h (fun x5 hy=>((Qod x4 h0_0 x5 hy).fr [0] [0] rfl rfl rfl)) (fun x5 hy h=>?_)
  refine Qae h (fun hb h=>?_) (fun hb h=>?_)
  ·exact JP2.b h (Le.tz 1 1 rfl rfl rfl)
  ·refine TL.le (τ := Qao p0 h0_0 (wr (v8+1))) ?_ ((iQai (wr (v8+1)) _ h))
   exact Le.tz 1 1 rfl rfl rfl
 ·exact JP2.a h (Le.tz 1 1 rfl rfl rfl)
theorem Qcg:∀ (p0:(List (List UInt8))) (h0_0:(List (List UInt8))) (v8:Int) (o1:Unit⊕Int),Qai p0 h0_0 v8=some o1→TL (1,1) Tryz.prog 19 Qbe (JP2 (1,1) 19 o1 (.exit 0) (Qax p0 h0_0) .ret (Qay p0 h0_0)) (Qao p0 h0_0 v8):=fun p0 h0_0 v8=>(Qcd p0 h0_0) v8
noncomputable def Qau (p0:(List (List UInt8))) (h0_0:(List (List UInt8))):Option (Int) :=
 (Qai p0 h0_0 0)>>=fun o1 =>
 match o1 with
 | .inl y2 =>
  some (-1)
 | .inr y3 =>
  some y3
theorem Qcy:∀ (p0:(List (List UInt8))) (h0_0:(List (List UInt8))) (o:Int),Qau p0 h0_0=some o→CallOK Tryz.prog 49 [.p (.sl false (p0.map cStr)),.fn (.func 52) [] [.ptr 0 0]] ⟨[[.own 0 9 1 (h0_0.map cStr)]],[(h0_0.map cStr).length]⟩ (Qa3 o) ⟨[[.own 0 9 1 (h0_0.map cStr)]],[(h0_0.map cStr).length]⟩:=by
 intro p0 h0_0 o h
 unfold Qau at h
 refine CallOK.ofB mixed tbOk Qbj Tryz.func49 rfl (by kernel_rfl) (Nat.le_of_ble_eq_true rfl) rfl rfl rfl ?_
 refine view (lenMap _ _) rfl ?_
 refine Qag h (fun o1 ho hk=>?_)
 refine Exists.intro (JP2 _ _ o1 (.exit 0) (Qax p0 h0_0) .ret (Qay p0 h0_0)) (And.intro (T_le (τ := Qao p0 h0_0 0) ?_ (TL.loop (Qcg p0 h0_0 0 o1 ho))) (join2 (fun y2 hy=>?_) (fun y3 hy=>?_)))
 ·exact Le.tz 1 1 rfl rfl rfl
 ·have h:=(by rw[hy] at hk; exact hk)
  refine Exists.intro _ (And.intro (Le.refl _ _ _) ?_)
  exact Qfq (t:=Qa3) (ss:=fun o=>⟨[[.own 0 9 1 (h0_0.map cStr)]],[(h0_0.map cStr).length]⟩) h ⟨[0],rfl,.refl _,.refl _,rfl⟩
 ·have h:=(by rw[hy] at hk; exact hk)
  refine Exists.intro _ (And.intro (Le.refl _ _ _) ?_)
  exact Qfq (t:=Qa3) (ss:=fun o=>⟨[[.own 0 9 1 (h0_0.map cStr)]],[(h0_0.map cStr).length]⟩) h ⟨[0],rfl,.refl _,.refl _,rfl⟩
noncomputable def Qaq (p0:(List (List UInt8))) (h0_0:(List (List UInt8))):Option (Bool) :=
 Qau p0 h0_0>>=fun x1 =>
 some (decide (x1 ≥ 0))
theorem Qch:∀ (p0:(List (List UInt8))) (h0_0:(List (List UInt8))) (o:Bool),Qaq p0 h0_0=some o→CallOK Tryz.prog 51 [.p (.sl false (p0.map cStr)),.fn (.func 52) [] [.ptr 0 0]] ⟨[[.own 0 9 1 (h0_0.map cStr)]],[(h0_0.map cStr).length]⟩ (Qbd o) ⟨[[.own 0 9 1 (h0_0.map cStr)]],[(h0_0.map cStr).length]⟩:=by
 intro p0 h0_0 o h
 unfold Qaq at h
 refine CallOK.ofB mixed tbOk Qcf Tryz.func51 rfl (by kernel_rfl) (Nat.le_of_ble_eq_true rfl) rfl rfl rfl ?_
 refine Qc2 _ _ h (fun x1 hy=>((Qcy p0 h0_0 x1 hy).fr [0] [0] rfl rfl rfl)) (fun x1 hy h=>?_)
 refine Exists.intro _ (And.intro (Le.refl _ _ _) ?_)
 exact Qfq (t:=Qbd) (ss:=fun o=>⟨[[.own 0 9 1 (h0_0.map cStr)]],[(h0_0.map cStr).length]⟩) h ⟨[0],rfl,.refl _,.refl _,rfl⟩
noncomputable def Qe2 (p0:(List UInt8)) (h1_0:(List (List UInt8))) (h2_0:(List ((List UInt8)×(List (List UInt8))))):Option (Bool) :=
 Qaq ((mget (fun a b=>a==b) p0 h2_0).getD []) h1_0>>=fun x1 =>
 some (!x1)
theorem Qqh:∀ (p0:(List UInt8)) (h1_0:(List (List UInt8))) (h2_0:(List ((List UInt8)×(List (List UInt8))))) (o:Bool),Qe2 p0 h1_0 h2_0=some o→CallOK Tryz.prog 50 [.p (sV p0),.ptr 0 0,.ptr 1 0] ⟨[[.mh 2],[.own 0 9 1 (h1_0.map cStr)],[mpD sV (fun x =>.sl false (x.map cStr)) h2_0]],[(h1_0.map cStr).length]⟩ (Qk8 o) ⟨[[.mh 2],[.own 0 9 1 (h1_0.map cStr)],[mpD sV (fun x =>.sl false (x.map cStr)) h2_0]],[(h1_0.map cStr).length]⟩:=by
 intro p0 h1_0 h2_0 o h
 unfold Qe2 at h
 refine CallOK.ofB mixed tbOk Qpx Tryz.func50 rfl (by kernel_rfl) (Nat.le_of_ble_eq_true rfl) rfl rfl rfl ?_
 refine Qow (l:=h2_0) (k:=p0) (fun a b=>a==b) (ck:=sV) (ca:=(fun x =>.sl false (x.map cStr))) (z0:=[]) (by exact rfl) (by exact rfl) (by exact rfl) (by exact fun _ _=>rfl) (by exact rfl) (by exact .not) ?_
 refine Qc2 _ _ h (fun x1 hy=>((Qch ((mget (fun a b=>a==b) p0 h2_0).getD []) h1_0 x1 hy).fr [1] [0] rfl rfl rfl)) (fun x1 hy h=>?_)
 refine Exists.intro _ (And.intro (Le.refl _ _ _) ?_)
 refine Qfq (t:=Qk8) (ss:=fun o=>⟨[[.mh 2],[.own 0 9 1 (h1_0.map cStr)],[mpD sV (fun x =>.sl false (x.map cStr)) h2_0]],[(h1_0.map cStr).length]⟩) h ?_
 exact⟨[0],rfl,.refl _,.refl _,rfl⟩
noncomputable def Qak (p0:(List (List UInt8))) (h1_0:(List (List UInt8))) (h2_0:(List ((List UInt8)×(List (List UInt8))))) (v8:Int):Option (Unit⊕Int) :=
 if(decide (v8<(p0.length:Int))) then
  idx p0 v8>>=fun x4 =>
  Qe2 x4 h1_0 h2_0>>=fun x5 =>
  if x5 then
   some (.inr v8)
  else
   Qak p0 h1_0 h2_0 (wr (v8+1))
 else
  some (.inl ())
 partial_fixpoint
theorem Qck:∀ (p0:(List (List UInt8))) (h1_0:(List (List UInt8))) (h2_0:(List ((List UInt8)×(List (List UInt8))))),(∀ (v8:Int) (o1:Unit⊕Int),Qak p0 h1_0 h2_0 v8=some o1→TL (3,2) Tryz.prog 19 Qbk (JP2 (3,2) 19 o1 (.exit 0) (Qa0 p0 h1_0 h2_0) .ret (Qa1 p0 h1_0 h2_0)) (Qap p0 h1_0 h2_0 v8)):=by
 intro p0 h1_0 h2_0
 refine Qak.partial_correctness p0 h1_0 h2_0 _ ?_
 intro Qak' iQak v8 o1 h
 refine TL.round (Qaj mixed tbOk (lv:=Qbo) _ _ _ ?_)
 refine Qae h (fun hb h=>?_) (fun hb h=>?_)
 ·refine Qxw (l:=p0) (c:=cStr) (c' := cStr) h rfl (fun _=>rfl) (fun _=>rfl) (by decide) (fun x4 hi h=>?_)
  refine And.intro rfl (And.intro (Nat.le_of_ble_eq_true rfl) ?_)
  refine Qc2 _ _ h (fun x5 hy=>((Qqh x4 h1_0 h2_0 x5 hy).fr [0,1,2] [1] rfl rfl rfl)) (fun x5 hy h=>?_)
  refine Qae h (fun hb h=>?_) (fun hb h=>?_)
  ·exact JP2.b h (Le.tz 3 2 rfl rfl rfl)
  ·refine TL.le (τ := Qap p0 h1_0 h2_0 (wr (v8+1))) ?_ ((iQak (wr (v8+1)) _ h))
   exact Le.tz 3 2 rfl rfl rfl
 ·exact JP2.a h (Le.tz 3 2 rfl rfl rfl)
theorem Qct:∀ (p0:(List (List UInt8))) (h1_0:(List (List UInt8))) (h2_0:(List ((List UInt8)×(List (List UInt8))))) (v8:Int) (o1:Unit⊕Int),Qak p0 h1_0 h2_0 v8=some o1→TL (3,2) Tryz.prog 19 Qbk (JP2 (3,2) 19 o1 (.exit 0) (Qa0 p0 h1_0 h2_0) .ret (Qa1 p0 h1_0 h2_0)) (Qap p0 h1_0 h2_0 v8):=fun p0 h1_0 h2_0 v8=>(Qck p0 h1_0 h2_0) v8
noncomputable def Qav (p0:(List (List UInt8))) (h1_0:(List (List UInt8))) (h2_0:(List ((List UInt8)×(List (List UInt8))))):Option (Int) :=
 (Qak p0 h1_0 h2_0 0)>>=fun o1 =>
 match o1 with
 | .inl y2 =>
  some (-1)
 | .inr y3 =>
  some y3
theorem Qc6:∀ (p0:(List (List UInt8))) (h1_0:(List (List UInt8))) (h2_0:(List ((List UInt8)×(List (List UInt8))))) (o:Int),Qav p0 h1_0 h2_0=some o→CallOK Tryz.prog 49 [.x 0 (p0.length+1) (.sl 9 1 (p0.map cStr)),.fn (.func 50) [] [.ptr 0 0,.ptr 1 0]] ⟨[[.mh 2],[.own 1 9 1 (h1_0.map cStr)],[mpD sV (fun x =>.sl false (x.map cStr)) h2_0]],[(p0.length+1),(h1_0.map cStr).length]⟩ (Qa8 o) ⟨[[.mh 2],[.own 1 9 1 (h1_0.map cStr)],[mpD sV (fun x =>.sl false (x.map cStr)) h2_0]],[(p0.length+1),(h1_0.map cStr).length]⟩:=by
 intro p0 h1_0 h2_0 o h
 unfold Qav at h
 refine CallOK.ofB mixed tbOk Qbo Tryz.func49 rfl (by kernel_rfl) (Nat.le_of_ble_eq_true rfl) rfl rfl rfl ?_
 refine And.intro rfl (Exists.intro _ (And.intro (List.length_map _) ?_))
 refine Qag h (fun o1 ho hk=>?_)
 refine Exists.intro (JP2 _ _ o1 (.exit 0) (Qa0 p0 h1_0 h2_0) .ret (Qa1 p0 h1_0 h2_0)) (And.intro (T_le (τ := Qap p0 h1_0 h2_0 0) ?_ (TL.loop (Qct p0 h1_0 h2_0 0 o1 ho))) (join2 (fun y2 hy=>?_) (fun y3 hy=>?_)))
 ·exact Le.tz 3 2 rfl rfl rfl
 ·have h:=(by rw[hy] at hk; exact hk)
  refine Exists.intro _ (And.intro (Le.refl _ _ _) ?_)
  refine Qfq (t:=Qa8) (ss:=fun o=>⟨[[.mh 2],[.own 1 9 1 (h1_0.map cStr)],[mpD sV (fun x =>.sl false (x.map cStr)) h2_0]],[(p0.length+1),(h1_0.map cStr).length]⟩) h ?_
  exact⟨[0,1],rfl,.refl _,.refl _,rfl⟩
 ·have h:=(by rw[hy] at hk; exact hk)
  refine Exists.intro _ (And.intro (Le.refl _ _ _) ?_)
  refine Qfq (t:=Qa8) (ss:=fun o=>⟨[[.mh 2],[.own 1 9 1 (h1_0.map cStr)],[mpD sV (fun x =>.sl false (x.map cStr)) h2_0]],[(p0.length+1),(h1_0.map cStr).length]⟩) h ?_
  exact⟨[0,1],rfl,.refl _,.refl _,rfl⟩
noncomputable def Qcb (x2:(List ((List UInt8)×(List (List UInt8))))) (v6:(List (List UInt8))) (h2_0:(List (List UInt8))):Option ((List (List UInt8))) :=
 if(decide ((v6.length:Int)>0)) then
  Qav v6 h2_0 x2>>=fun x7 =>
  idx v6 x7>>=fun x8 =>
  appL 16 h2_0 [x8]>>=fun x9 =>
  need (v6.length<4611686018427387904)>>=fun _ =>
  need (0≤x7)>>=fun _ =>
  need (x7<(wr (x7+1)))>>=fun _ =>
  need ((wr (x7+1))≤(v6.length:Int))>>=fun _ =>
  Qcb x2 (delL v6 x7 (wr (x7+1))) x9
 else
  some h2_0
 partial_fixpoint
theorem Qqi:∀ (x2:(List ((List UInt8)×(List (List UInt8))))),(∀ (v6:(List (List UInt8))) (h2_0:(List (List UInt8))) (o6:(List (List UInt8))),Qcb x2 v6 h2_0=some o6→TL (0,0) Tryz.prog 53 Qmf (JP1 (0,0) 53 o6 (.exit 2) (Qhl x2)) (Qfc x2 v6 h2_0)):=by
 intro x2
 refine Qcb.partial_correctness x2 _ ?_
 intro Qcb' iQcb v6 h2_0 o6 h
 refine TL.round (Qaj mixed tbOk (lv:=Qky) _ _ _ ?_)
 refine And.intro rfl (Exists.intro _ (And.intro (List.length_map _) ?_))
 refine Qae h (fun hb h=>?_) (fun hb h=>?_)
 ·refine Exists.intro _ (And.intro (Le.trans (τ := ⟨[(5,.ptr 1 0),(6,.x 0 1 (.sl 9 1 (v6.map cStr))),(7,.ptr 2 0),(36,.p (bV (decide ((v6.length:Int)>0))))],⟨[[mpD sV (fun x =>.sl false (x.map cStr)) x2],[.mh 0],[.own 1 9 1 (h2_0.map cStr)]],[1,(h2_0.map cStr).length]⟩⟩) (Le.tz 3 2 rfl rfl rfl) (Le.ver (.s 6) 0 1 (v6.length+1) rfl rfl rfl rfl)) ?_)
  refine Qc2 _ _ h (fun x7 hy=>((Qc6 v6 h2_0 x2 x7 hy).fr [1,2,0] [0,1] rfl rfl rfl)) (fun x7 hy h=>?_)
  refine And.intro (by decide +kernel) (And.intro rfl ?_)
  refine And.intro rfl ?_
  refine Qxw (l:=v6) (c:=cStr) (c' := cStr) h rfl (fun _=>rfl) (fun _=>rfl) (by decide) (fun x8 hi h=>?_)
  refine And.intro rfl ?_
  refine And.intro rfl (And.intro (Nat.le_of_ble_eq_true rfl) ?_)
  refine Qls (a:=h2_0) (b:=[x8]) (c:=cStr) h (.refl _) (fun _=>rfl) rfl (fun x9 hi h=>?_)
  refine Qiz h (fun hn0 h=>?_)
  refine Qiz h (fun hn1 h=>?_)
  refine Qiz h (fun hn2 h=>?_)
  refine Qiz h (fun hn3 h=>?_)
  refine Or.inl ?_
  refine⟨rfl,rfl,_,true,v6,(delL v6 x7 (wr (x7+1))),_,rfl,rfl,deleteFn x7 (wr (x7+1)) hn0 hn1 hn2 hn3,rfl,?_⟩
  refine TL.le (τ := Qfc x2 (delL v6 x7 (wr (x7+1))) x9) ?_ ((iQcb (delL v6 x7 (wr (x7+1))) x9 _ h))
  exact Le.trans (τ := ⟨[(5,.ptr 1 0),(6,.x 0 ((v6.length+1)+1) (.sl 9 1 ((delL v6 x7 (wr (x7+1))).map cStr))),(7,.ptr 2 0)],⟨[[mpD sV (fun x =>.sl false (x.map cStr)) x2],[.mh 0],[.own 1 9 1 (x9.map cStr)]],[((v6.length+1)+1),(x9.map cStr).length]⟩⟩) (Le.tz 3 2 rfl rfl rfl) ((Le.verh 6 0 ((v6.length+1)+1) 1 rfl rfl rfl rfl).trans (Le.tz 3 2 rfl rfl rfl))
 ·exact JP1.a h (Le.tz 3 2 rfl rfl rfl)
theorem Qrb:∀ (x2:(List ((List UInt8)×(List (List UInt8))))) (v6:(List (List UInt8))) (h2_0:(List (List UInt8))) (o6:(List (List UInt8))),Qcb x2 v6 h2_0=some o6→TL (0,0) Tryz.prog 53 Qmf (JP1 (0,0) 53 o6 (.exit 2) (Qhl x2)) (Qfc x2 v6 h2_0):=fun x2 v6 h2_0=>(Qqi x2) v6 h2_0
noncomputable def Qj3 (p0:(List Qac)):Option ((List (List UInt8))) :=
 Qe1 p0>>=fun x1 =>
 if(x1.2 != 0) then
  some []
 else
  Qfy p0>>=fun x2 =>
  (Qcq p0 x2 [] 0)>>=fun o3 =>
  need (o3.length<4611686018427387904)>>=fun _ =>
  (Qcb x2 (srtL o3) [])>>=fun o6 =>
  some o6
theorem Qv9:∀ (p0:(List Qac)) (o:(List (List UInt8))),Qj3 p0=some o→PCall Tryz.prog 16 [.sl false (p0.map Qaf)] (Qi0 o):=by
 intro p0 o h
 unfold Qj3 at h
 refine PCall.ofB mixed tbOk Qky Tryz.func16 rfl (by kernel_rfl) (Nat.le_of_ble_eq_true rfl) ?_
 refine Qah [.sl false (p0.map Qaf)] Qb9 h (fun x1 hy=>(Qh4 p0 x1 hy)) (fun x1 hy h=>?_)
 refine Qae h (fun hb h=>?_) (fun hb h=>?_)
 ·refine Qal (t:=Qi0) h ?_
  exact .p (.not)
 ·refine Qc2 _ _ h (fun x2 hy=>((Qk4 p0 x2 hy).frN [] [] rfl rfl rfl)) (fun x2 hy h=>?_)
  refine view (lenMap _ _) rfl ?_
  refine Qag h (fun o3 ho hk=>?_)
  refine Exists.intro (JP1 _ _ o3 (.exit 0) (Qhk p0 x2)) (And.intro (T_le (τ := Qfb p0 x2 [] 0) ?_ (TL.loop (Qra p0 x2 [] 0 o3 ho))) (join1 ?_))
  ·exact(Le.xnil (.s 6) 9 1 rfl).trans (Le.tz 3 1 rfl rfl rfl)
  have h:=hk
  refine Qiz h (fun hn0 h=>?_)
  refine Or.inl ?_
  refine⟨rfl,rfl,_,false,o3,(srtL o3),_,rfl,rfl,sortFn  hn0 ,rfl,rfl,?_⟩
  refine Qag h (fun o6 ho hk=>?_)
  refine Exists.intro (JP1 _ _ o6 (.exit 2) (Qhl x2)) (And.intro (T_le (τ := Qfc x2 (srtL o3) []) ?_ (TL.loop (Qrb x2 (srtL o3) [] o6 ho))) (join1 ?_))
  ·exact Le.trans (τ := ⟨[(5,.ptr 1 0),(6,.x 0 2 (.sl 9 1 ((srtL o3).map cStr))),(7,.ptr 2 0)],⟨[[mpD sV (fun x =>.sl false (x.map cStr)) x2],[.mh 0],[.p (.sl true [])]],[2]⟩⟩) (Le.tz 3 1 rfl rfl rfl) ((Le.ver (.s 6) 0 2 1 rfl rfl rfl rfl).trans ((Le.ownH 2 0 9 1 rfl rfl sizeNil).trans (Le.tz 3 2 rfl rfl rfl)))
  have h:=hk
  refine Qal (t:=Qi0) h ?_
  exact .refl _
noncomputable def Qj4 (p0:(List Qac)) (p1:(List UInt8)):Option ((List (List UInt8))) :=
 Qe1 p0>>=fun x1 =>
 if(x1.2 != 0) then
  some []
 else
  Qi8 p0 p1>>=fun x2 =>
  if(!x2.2) then
   some []
  else
   Qfy p0>>=fun x3 =>
   Qc9 [p1] x3>>=fun x4 =>
   some x4
theorem Qwa:∀ (p0:(List Qac)) (p1:(List UInt8)) (o:(List (List UInt8))),Qj4 p0 p1=some o→PCall Tryz.prog 19 [.sl false (p0.map Qaf),sV p1] (Qgk o):=by
 intro p0 p1 o h
 unfold Qj4 at h
 refine PCall.ofB mixed tbOk Qvf Tryz.func19 rfl (by kernel_rfl) (Nat.le_of_ble_eq_true rfl) ?_
 refine Qah [.sl false (p0.map Qaf)] Qb9 h (fun x1 hy=>(Qh4 p0 x1 hy)) (fun x1 hy h=>?_)
 refine Qae h (fun hb h=>?_) (fun hb h=>?_)
 ·refine Qal (t:=Qgk) h ?_
  exact .p (.not)
 ·refine Qah [.sl false (p0.map Qaf),sV p1] Qh8 h (fun x2 hy=>(Qp7 p0 p1 x2 hy)) (fun x2 hy h=>?_)
  refine Qae h (fun hb h=>?_) (fun hb h=>?_)
  ·refine Qal (t:=Qgk) h ?_
   exact .p (.not)
  ·refine Qc2 _ _ h (fun x3 hy=>((Qk4 p0 x3 hy).frN [] [] rfl rfl rfl)) (fun x3 hy h=>?_)
   refine Qc2 _ _ h (fun x4 hy=>((Qj2 [p1] x3 x4 hy).fr [0] [] rfl rfl rfl).weakC (.cons (.refl _) (.cons (.p (.not)) (.nil)))) (fun x4 hy h=>?_)
   refine Qal (t:=Qgk) h ?_
   exact .refl _
mutual
noncomputable def Qa2 (p0:(List Qab)) (p1:Int) (p2:Int):Option ((List Qab)×Int) :=
 (Qbp p0 p1 p2 [] 0)>>=fun o1 =>
 some (o1.2,o1.1)
 partial_fixpoint
noncomputable def Qbp (p0:(List Qab)) (p1:Int) (v2:Int) (v8:(List Qab)) (v9:Int):Option ((Int×(List Qab))) :=
 ( if(decide (v9<(p0.length:Int))) then
   if(decide (v2>0)) then
    some (decide (p1>0))
   else
    some false
  else
   some false:Option (Bool))>>=fun o2 =>
 if o2 then
  idx p0 v9>>=fun x3 =>
  cutL x3.Name 0 (if 40<(x3.Name.length:Int) then 40 else(x3.Name.length:Int))>>=fun x4 =>
  cutL x3.Text 0 (if 60<(x3.Text.length:Int) then 60 else(x3.Text.length:Int))>>=fun x5 =>
  Qa2 x3.L (wr (p1-1)) (wr (v2-1))>>=fun x6 =>
  Qa2 x3.Then (wr (p1-1)) x6.2>>=fun x7 =>
  Qa2 x3.Else (wr (p1-1)) x7.2>>=fun x8 =>
  appL 120 v8 [(Qab.mk x3.Kind x4 x5 x3.N x6.1 x7.1 x8.1)]>>=fun x9 =>
  Qbp p0 p1 x8.2 x9 (wr (v9+1))
 else
  some (v2,v8)
 partial_fixpoint
end
theorem Qnq:(∀ (p0:(List Qab)) (p1:Int) (p2:Int) (o:(List Qab)×Int),Qa2 p0 p1 p2=some o→PCall Tryz.prog 22 [.sl false (p0.map Qaa),iV p1,iV p2] (Qbu o))∧(∀ (p0:(List Qab)) (p1:Int) (v2:Int) (v8:(List Qab)) (v9:Int) (o1:(Int×(List Qab))),Qbp p0 p1 v2 v8 v9=some o1→TL (0,0) Tryz.prog 88 Qmm (JP1 (0,0) 88 o1 (.exit 0) (Qgo p0 p1)) (Qd4 p0 p1 v2 v8 v9)):=by
 refine Qa2.mutual_partial_correctness _ _ ?_ ?_
 ·intro Qbp' iQbp p0 p1 p2 o h
  refine PCall.ofB mixed tbOk Qiv Tryz.func22 rfl (by kernel_rfl) (Nat.le_of_ble_eq_true rfl) ?_
  refine Qag h (fun o1 ho hk=>?_)
  refine Exists.intro (JP1 _ _ o1 (.exit 0) (Qgo p0 p1)) (And.intro (T_le (τ := Qd4 p0 p1 p2 [] 0) ?_ (TL.loop (iQbp p0 p1 p2 [] 0 o1 ho))) (join1 ?_))
  ·exact Le.trans (τ := ⟨[(0,.p (.sl false (p0.map Qaa))),(1,.p (iV p1)),(2,.p (iV p2)),(8,.p (.sl true [])),(9,.p (iV 0))],⟨[],[]⟩⟩) (Le.tz 0 0 rfl rfl rfl) ((Le.own 8 38 7 rfl sizeNil).trans (Le.tz 0 1 rfl rfl rfl))
  have h:=hk
  refine Qal (t:=Qbu) h ?_
  exact .refl _
 ·intro Qa2' Qbp' iQa2 iQbp p0 p1 v2 v8 v9 o1 h
  refine TL.round (Qaj mixed tbOk (lv:=Qiv) _ _ _ ?_)
  refine Qag h (fun o2 ho hk=>?_)
  refine Exists.intro (JP1 _ _ o2 .normal (Qml p0 p1 v2 v8 v9)) (And.intro ?_ (join1 ?_))
  ·have h:=ho
   refine view (lenMap _ _) rfl ?_
   refine Qae h (fun hb h=>?_) (fun hb h=>?_)
   ·refine Qae h (fun hb h=>?_) (fun hb h=>?_)
    ·refine JP1.a h ?_
     exact Le.tz 0 1 rfl rfl rfl
    ·refine JP1.a h ?_
     exact Le.tz 0 1 rfl rfl rfl
   ·refine bF ?_
    refine JP1.a h ?_
    exact Le.tz 0 1 rfl rfl rfl
  ·have h:=hk
   refine Qae h (fun hb h=>?_) (fun hb h=>?_)
   ·refine Qa6 (l:=p0) (c:=Qaa) (c' := Qa4) h Qam (fun _=>rfl) (by decide) (fun x3 hi h=>?_)
    refine And.intro (by decide +kernel) (And.intro rfl ?_)
    refine vrfl ?_
    refine Qmy none (some (if 40<(x3.Name.length:Int) then 40 else(x3.Name.length:Int))) h (fun x4 hi h=>?_)
    refine vrfl ?_
    refine Qmy none (some (if 60<(x3.Text.length:Int) then 60 else(x3.Text.length:Int))) h (fun x5 hi h=>?_)
    refine Qah [.sl false (x3.L.map Qaa),iV (wr (p1-1)),iV (wr (v2-1))] Qbu h (fun x6 hy=>(iQa2 x3.L (wr (p1-1)) (wr (v2-1)) x6 hy)) (fun x6 hy h=>?_)
    refine Qah [.sl false (x3.Then.map Qaa),iV (wr (p1-1)),iV x6.2] Qbu h (fun x7 hy=>(iQa2 x3.Then (wr (p1-1)) x6.2 x7 hy)) (fun x7 hy h=>?_)
    refine Qah [.sl false (x3.Else.map Qaa),iV (wr (p1-1)),iV x7.2] Qbu h (fun x8 hy=>(iQa2 x3.Else (wr (p1-1)) x7.2 x8 hy)) (fun x8 hy h=>?_)
    refine Qls (a:=v8) (b:=[(Qab.mk x3.Kind x4 x5 x3.N x6.1 x7.1 x8.1)]) (c:=Qaa) h (.cons (.ceq (Qam _) (.refl _)) (.nil)) (fun x=>by rw[Qam]; rfl) rfl (fun x9 hi h=>?_)
    refine TL.le (τ := Qd4 p0 p1 x8.2 x9 (wr (v9+1))) ?_ ((iQbp p0 p1 x8.2 x9 (wr (v9+1)) _ h))
    exact Le.tz 0 1 rfl rfl rfl
   ·exact JP1.a h (Le.tz 0 1 rfl rfl rfl)
theorem Qoe:∀ (p0:(List Qab)) (p1:Int) (p2:Int) (o:(List Qab)×Int),Qa2 p0 p1 p2=some o→PCall Tryz.prog 22 [.sl false (p0.map Qaa),iV p1,iV p2] (Qbu o):=fun p0 p1 p2=>Qnq.1 p0 p1 p2
noncomputable def Qbs (p0:(List Qac)) (p1:Int) (v5:(List Qac)) (v6:Int):Option ((List Qac)) :=
 ( if(decide (v6<(p0.length:Int))) then
   some (decide (v6<p1))
  else
   some false:Option (Bool))>>=fun o2 =>
 if o2 then
  idx p0 v6>>=fun x3 =>
  Qa2 x3.L 14 40>>=fun x4 =>
  idx p0 v6>>=fun x5 =>
  idx p0 v6>>=fun x6 =>
  cutL x5.Name 0 (if 40<(x6.Name.length:Int) then 40 else(x6.Name.length:Int))>>=fun x7 =>
  appL 40 v5 [(Qac.mk x7 x4.1)]>>=fun x8 =>
  Qbs p0 p1 x8 (wr (v6+1))
 else
  some v5
 partial_fixpoint
theorem Qmr:∀ (p0:(List Qac)) (p1:Int),(∀ (v5:(List Qac)) (v6:Int) (o1:(List Qac)),Qbs p0 p1 v5 v6=some o1→TL (0,0) Tryz.prog 49 Qiw (JP1 (0,0) 49 o1 (.exit 0) (Qem p0 p1)) (Qda p0 p1 v5 v6)):=by
 intro p0 p1
 refine Qbs.partial_correctness p0 p1 _ ?_
 intro Qbs' iQbs v5 v6 o1 h
 refine TL.round (Qaj mixed tbOk (lv:=Qke) _ _ _ ?_)
 refine Qag h (fun o2 ho hk=>?_)
 refine Exists.intro (JP1 _ _ o2 .normal (Qn8 p0 p1 v5 v6)) (And.intro ?_ (join1 ?_))
 ·have h:=ho
  refine view (lenMap _ _) rfl ?_
  refine Qae h (fun hb h=>?_) (fun hb h=>?_)
  ·refine JP1.a h ?_
   exact Le.tz 0 1 rfl rfl rfl
  ·refine JP1.a h ?_
   exact Le.tz 0 1 rfl rfl rfl
 ·have h:=hk
  refine Qae h (fun hb h=>?_) (fun hb h=>?_)
  ·refine Qa6 (l:=p0) (c:=Qaf) (c' := Qaf) h (fun _=>rfl) (fun _=>rfl) (by decide) (fun x3 hi h=>?_)
   refine Qah [.sl false (x3.L.map Qaa),iV 14,iV 40] Qbu h (fun x4 hy=>(Qoe x3.L 14 40 x4 hy)) (fun x4 hy h=>?_)
   refine And.intro (by decide +kernel) (And.intro rfl ?_)
   refine Qa6 (l:=p0) (c:=Qaf) (c' := Qaf) h (fun _=>rfl) (fun _=>rfl) (by decide) (fun x5 hi h=>?_)
   refine Qa6 (l:=p0) (c:=Qaf) (c' := Qaf) h (fun _=>rfl) (fun _=>rfl) (by decide) (fun x6 hi h=>?_)
   refine vrfl ?_
   refine Qmy none (some (if 40<(x6.Name.length:Int) then 40 else(x6.Name.length:Int))) h (fun x7 hi h=>?_)
   refine Qls (a:=v5) (b:=[(Qac.mk x7 x4.1)]) (c:=Qaf) h (.refl _) (fun _=>rfl) rfl (fun x8 hi h=>?_)
   refine TL.le (τ := Qda p0 p1 x8 (wr (v6+1))) ?_ ((iQbs x8 (wr (v6+1)) _ h))
   exact Le.tz 0 1 rfl rfl rfl
  ·exact JP1.a h (Le.tz 0 1 rfl rfl rfl)
theorem Qnr:∀ (p0:(List Qac)) (p1:Int) (v5:(List Qac)) (v6:Int) (o1:(List Qac)),Qbs p0 p1 v5 v6=some o1→TL (0,0) Tryz.prog 49 Qiw (JP1 (0,0) 49 o1 (.exit 0) (Qem p0 p1)) (Qda p0 p1 v5 v6):=fun p0 p1 v5 v6=>(Qmr p0 p1) v5 v6
noncomputable def Qe3 (p0:(List Qac)) (p1:Int):Option ((List Qac)) :=
 (Qbs p0 p1 [] 0)>>=fun o1 =>
 some o1
theorem Qqj:∀ (p0:(List Qac)) (p1:Int) (o:(List Qac)),Qe3 p0 p1=some o→PCall Tryz.prog 12 [.sl false (p0.map Qaf),iV p1] (Qhn o):=by
 intro p0 p1 o h
 unfold Qe3 at h
 refine PCall.ofB mixed tbOk Qke Tryz.func12 rfl (by kernel_rfl) (Nat.le_of_ble_eq_true rfl) ?_
 refine Qag h (fun o1 ho hk=>?_)
 refine Exists.intro (JP1 _ _ o1 (.exit 0) (Qem p0 p1)) (And.intro (T_le (τ := Qda p0 p1 [] 0) ?_ (TL.loop (Qnr p0 p1 [] 0 o1 ho))) (join1 ?_))
 ·exact Le.trans (τ := ⟨[(0,.p (.sl false (p0.map Qaf))),(1,.p (iV p1)),(5,.p (.sl true [])),(6,.p (iV 0))],⟨[],[]⟩⟩) (Le.tz 0 0 rfl rfl rfl) ((Le.own 5 56 2 rfl sizeNil).trans (Le.tz 0 1 rfl rfl rfl))
 have h:=hk
 refine Qal (t:=Qhn) h ?_
 exact .refl _
noncomputable def Qcz (p0:(List UInt8)):Option (Qab) :=
 some (Qab.mk 13 p0 [] 0 ([(Qab.mk 4 [105,116] [] 0 [] [] [])]) [] [])
theorem Qej:∀ (p0:(List UInt8)) (o:Qab),Qcz p0=some o→PCall Tryz.prog 47 [sV p0] (Qcr o):=by
 intro p0 o h
 unfold Qcz at h
 refine PCall.ofB mixed tbOk Qp0 Tryz.func47 rfl (by kernel_rfl) (Nat.le_of_ble_eq_true rfl) ?_
 refine Qal (t:=Qcr) h ?_
 exact .p (.agg' (.cons (.refl _) (.cons (.refl _) (.cons (.refl _) (.cons (.refl _) (.cons (.no (.cons (.ceq (Qam _) (.cons (.refl _) (.cons (.refl _) (.cons (.refl _) (.cons (.refl _) (.cons (.not) (.cons (.not) (.cons (.not) (.nil))))))))) (.nil))) (.cons (.not) (.cons (.not) (.nil)))))))))
noncomputable def Qdt:Option (Bool) :=
 Qcz [98]>>=fun x1 =>
 Qcz [99]>>=fun x2 =>
 Qcz [99]>>=fun x3 =>
 Qcz [97]>>=fun x4 =>
 Qe1 ([(Qac.mk [97] [x4])])>>=fun x5 =>
 ( Qj3 ([(Qac.mk [97] [x1,x2]),(Qac.mk [98] [x3]),(Qac.mk [99] [])])>>=fun x7 =>
  Qn4 x7 ([[99],[98],[97]])>>=fun x8 =>
  if x8 then
   Qj4 ([(Qac.mk [97] [x1,x2]),(Qac.mk [98] [x3]),(Qac.mk [99] [])]) [98]>>=fun x9 =>
   Qn4 x9 ([[98],[99]])>>=fun x10 =>
   if x10 then
    if(x5.1==[97]) then
     some (x5.2==10)
    else
     some false
   else
    some false
  else
   some false:Option (Bool))>>=fun o6 =>
 some o6
theorem Qof:∀ (o:Bool),Qdt  = some o→PCall Tryz.prog 15 [] (Qfv o):=by
 intro o h
 unfold Qdt at h
 refine PCall.ofB mixed tbOk Qn9 Tryz.func15 rfl (by kernel_rfl) (Nat.le_of_ble_eq_true rfl) ?_
 refine Qah [sV [98]] Qcr h (fun x1 hy=>(Qej [98] x1 hy)) (fun x1 hy h=>?_)
 refine Qah [sV [99]] Qcr h (fun x2 hy=>(Qej [99] x2 hy)) (fun x2 hy h=>?_)
 refine Qah [sV [99]] Qcr h (fun x3 hy=>(Qej [99] x3 hy)) (fun x3 hy h=>?_)
 refine Qah [sV [97]] Qcr h (fun x4 hy=>(Qej [97] x4 hy)) (fun x4 hy h=>?_)
 refine Qah [.sl true [[sV [97],.sl true [[iV x4.Kind,sV x4.Name,sV x4.Text,iV x4.N,.sl false (x4.L.map Qaa),.sl false (x4.Then.map Qaa),.sl false (x4.Else.map Qaa)]]]]] Qb9 h (fun x5 hy=>(Qh4 ([(Qac.mk [97] [x4])]) x5 hy).weak (.cons (.no (.cons (.cons (.refl _) (.cons (.no (.cons (.ceq (Qam _) (.refl _)) (.nil))) (.nil))) (.nil))) (.nil))) (fun x5 hy h=>?_)
 refine Qag h (fun o6 ho hk=>?_)
 refine Exists.intro (JP1 _ _ o6 .normal (Qmn )) (And.intro ?_ (join1 ?_))
 ·have h:=ho
  refine Qah [.sl true [[sV [97],.sl true [[iV x1.Kind,sV x1.Name,sV x1.Text,iV x1.N,.sl false (x1.L.map Qaa),.sl false (x1.Then.map Qaa),.sl false (x1.Else.map Qaa)],[iV x2.Kind,sV x2.Name,sV x2.Text,iV x2.N,.sl false (x2.L.map Qaa),.sl false (x2.Then.map Qaa),.sl false (x2.Else.map Qaa)]]],[sV [98],.sl true [[iV x3.Kind,sV x3.Name,sV x3.Text,iV x3.N,.sl false (x3.L.map Qaa),.sl false (x3.Then.map Qaa),.sl false (x3.Else.map Qaa)]]],[sV [99],.sl true []]]] Qi0 h (fun x7 hy=>(Qv9 ([(Qac.mk [97] [x1,x2]),(Qac.mk [98] [x3]),(Qac.mk [99] [])]) x7 hy).weak (.cons (.no (.cons (.cons (.refl _) (.cons (.no (.cons (.ceq (Qam _) (.refl _)) (.cons (.ceq (Qam _) (.refl _)) (.nil)))) (.nil))) (.cons (.cons (.refl _) (.cons (.no (.cons (.ceq (Qam _) (.refl _)) (.nil))) (.nil))) (.cons (.cons (.refl _) (.cons (.not) (.nil))) (.nil))))) (.nil))) (fun x7 hy h=>?_)
  refine Qah [.sl false (x7.map cStr),.sl true [[sV [99]],[sV [98]],[sV [97]]]] Qi5 h (fun x8 hy=>(Qt3 x7 ([[99],[98],[97]]) x8 hy).weak (.cons (.refl _) (.cons (.not) (.nil)))) (fun x8 hy h=>?_)
  refine Qae h (fun hb h=>?_) (fun hb h=>?_)
  ·refine Qah [.sl true [[sV [97],.sl true [[iV x1.Kind,sV x1.Name,sV x1.Text,iV x1.N,.sl false (x1.L.map Qaa),.sl false (x1.Then.map Qaa),.sl false (x1.Else.map Qaa)],[iV x2.Kind,sV x2.Name,sV x2.Text,iV x2.N,.sl false (x2.L.map Qaa),.sl false (x2.Then.map Qaa),.sl false (x2.Else.map Qaa)]]],[sV [98],.sl true [[iV x3.Kind,sV x3.Name,sV x3.Text,iV x3.N,.sl false (x3.L.map Qaa),.sl false (x3.Then.map Qaa),.sl false (x3.Else.map Qaa)]]],[sV [99],.sl true []]],sV [98]] Qgk h (fun x9 hy=>(Qwa ([(Qac.mk [97] [x1,x2]),(Qac.mk [98] [x3]),(Qac.mk [99] [])]) [98] x9 hy).weak (.cons (.no (.cons (.cons (.refl _) (.cons (.no (.cons (.ceq (Qam _) (.refl _)) (.cons (.ceq (Qam _) (.refl _)) (.nil)))) (.nil))) (.cons (.cons (.refl _) (.cons (.no (.cons (.ceq (Qam _) (.refl _)) (.nil))) (.nil))) (.cons (.cons (.refl _) (.cons (.not) (.nil))) (.nil))))) (.cons (.refl _) (.nil)))) (fun x9 hy h=>?_)
   refine Qah [.sl false (x9.map cStr),.sl true [[sV [98]],[sV [99]]]] Qi5 h (fun x10 hy=>(Qt3 x9 ([[98],[99]]) x10 hy).weak (.cons (.refl _) (.cons (.not) (.nil)))) (fun x10 hy h=>?_)
   refine Qae h (fun hb h=>?_) (fun hb h=>?_)
   ·refine Qae h (fun hb h=>?_) (fun hb h=>?_)
    ·refine JP1.a h ?_
     exact Le.tz 0 0 rfl rfl rfl
    ·refine JP1.a h ?_
     exact Le.tz 0 0 rfl rfl rfl
   ·refine bF ?_
    refine JP1.a h ?_
    exact Le.tz 0 0 rfl rfl rfl
  ·refine bF ?_
   refine bF ?_
   refine JP1.a h ?_
   exact Le.tz 0 0 rfl rfl rfl
 ·have h:=hk
  refine Qal (t:=Qfv) h ?_
  exact .refl _
noncomputable def Qbw (p0:(List Qac)):Option (Bool) :=
 Qe3 p0 20>>=fun x1 =>
 Qe1 x1>>=fun x2 =>
 Qnm x1>>=fun x3 =>
 ( if(x2.1==x3.1) then
   if(x2.2==x3.2) then
    Qdt>>=fun x5 =>
    some x5
   else
    some false
  else
   some false:Option (Bool))>>=fun o4 =>
 some o4
theorem Qj6:∀ (p0:(List Qac)) (o:Bool),Qbw p0=some o→PCall Tryz.prog 3 [.sl false (p0.map Qaf)] (Qfj o):=by
 intro p0 o h
 unfold Qbw at h
 refine PCall.ofB mixed tbOk Qj5 Tryz.func3 rfl (by kernel_rfl) (Nat.le_of_ble_eq_true rfl) ?_
 refine Qah [.sl false (p0.map Qaf),iV 20] Qhn h (fun x1 hy=>(Qqj p0 20 x1 hy)) (fun x1 hy h=>?_)
 refine Qah [.sl false (x1.map Qaf)] Qb9 h (fun x2 hy=>(Qh4 x1 x2 hy)) (fun x2 hy h=>?_)
 refine Qah [.sl false (x1.map Qaf)] Qft h (fun x3 hy=>(Q1f x1 x3 hy)) (fun x3 hy h=>?_)
 refine Qag h (fun o4 ho hk=>?_)
 refine Exists.intro (JP1 _ _ o4 .normal (Qi1 )) (And.intro ?_ (join1 ?_))
 ·have h:=ho
  refine Qae h (fun hb h=>?_) (fun hb h=>?_)
  ·refine Qae h (fun hb h=>?_) (fun hb h=>?_)
   ·refine Qah [] Qfv h (fun x5 hy=>(Qof x5 hy)) (fun x5 hy h=>?_)
    refine JP1.a h ?_
    exact Le.tz 0 0 rfl rfl rfl
   ·refine JP1.a h ?_
    exact Le.tz 0 0 rfl rfl rfl
  ·refine bF ?_
   refine JP1.a h ?_
   exact Le.tz 0 0 rfl rfl rfl
 ·have h:=hk
  refine Qal (t:=Qfj) h ?_
  exact .refl _
end Go.Proofs.YtfgegilhjlnohaaGreat
end

section
namespace Go.Proofs.YtfgegilhjlnohaaGreat
open Go.RowKit
mutual
def nn:Qab→Nat
 | ⟨_,_,_,_,a,b,c⟩=>1+nns a+nns b+nns c
def nns:List Qab→Nat
 | []=>0
 | x::r=>nn x+nns r
end
mutual
def dp:Qab→Nat
 | ⟨_,_,_,_,a,b,c⟩=>1+max (dps a) (max (dps b) (dps c))
def dps:List Qab→Nat
 | []=>0
 | x::r=>max (dp x) (dps r)
end
mutual
def sm:Qab→Prop
 | ⟨_,s,t,_,a,b,c⟩=>s.length≤40∧t.length≤60∧sms a∧sms b∧sms c
def sms:List Qab→Prop
 | []=>True
 | x::r=>sm x∧sms r
end
theorem nn_eq (x:Qab):nn x=1+nns x.L+nns x.Then+nns x.Else:=by cases x; rw[nn]
theorem dp_eq (x:Qab):dp x=1+max (dps x.L) (max (dps x.Then) (dps x.Else)):=by cases x; rw[dp]
theorem sm_eq (x:Qab):sm x↔(x.Name.length≤40∧x.Text.length≤60∧sms x.L∧sms x.Then∧sms x.Else):=by cases x; rw[sm]
theorem Qqk (x:Qab):1≤nn x:=by rw[nn_eq]; omega
theorem Qg0:∀ l:List Qab,l.length≤nns l
 | []=>by simp[nns]
 | x::r=>by have:=Qg0 r; have:=Qqk x; simp[nns]; omega
theorem Qit:∀ {l:List Qab} {x:Qab},x ∈ l→nn x≤nns l
 | y::r,x,h=>by
  rcases List.mem_cons.1 h with rfl | h
  ·simp[nns]
  ·have:=Qit h; simp[nns]; omega
def lightG (g:List Qab→Nat→List Qab×Nat):List Qab→Nat→List Qab×Nat
 | [],n=>([],n)
 | x::r,n=>if n=0 then([],0) else
  (⟨x.Kind,x.Name.take 40,x.Text.take 60,x.N,(g x.L (n-1)).1,(g x.Then (g x.L (n-1)).2).1,(g x.Else (g x.Then (g x.L (n-1)).2).2).1⟩ ::
   (lightG g r (g x.Else (g x.Then (g x.L (n-1)).2).2).2).1,(lightG g r (g x.Else (g x.Then (g x.L (n-1)).2).2).2).2)
def lightP:Nat→List Qab→Nat→List Qab×Nat
 | 0,_,n=>([],n)
 | d+1,l,n=>lightG (lightP d) l n
def LG (d:Nat) (g:List Qab→Nat→List Qab×Nat):Prop:=∀ (l:List Qab) (n:Nat),nns (g l n).1+(g l n).2=n∧dps (g l n).1≤d∧sms (g l n).1
theorem Q6h {d:Nat} {g:List Qab→Nat→List Qab×Nat} (hg:LG d g):LG (d+1) (lightG g):=fun l=>by
 induction l with
 | nil=>intro n; simp[lightG,nns,dps,sms]
 | cons x r ih =>
  intro n
  unfold lightG
  split
  ·subst_vars; simp[nns,dps,sms]
  ·obtain⟨a1,a2,a3⟩:=hg x.L (n-1)
   obtain⟨b1,b2,b3⟩:=hg x.Then (g x.L (n-1)).2
   obtain⟨c1,c2,c3⟩:=hg x.Else (g x.Then (g x.L (n-1)).2).2
   obtain⟨d1,d2,d3⟩:=ih (g x.Else (g x.Then (g x.L (n-1)).2).2).2
   simp only[nns,nn_eq,dps,dp_eq,sms,sm_eq]
   refine⟨by omega,by omega,⟨?_,?_,a3,b3,c3⟩,d3⟩
   ·simp; omega
   ·simp; omega
theorem Qlk:∀ d,LG d (lightP d)
 | 0=>fun l n=>by simp[lightP,nns,dps,sms]
 | d+1=>Q6h (Qlk d)
theorem takeMin {l:List UInt8} {k:Nat}:(l.take (if(k:Int)<(l.length:Int) then(k:Int) else(l.length:Int)).toNat).drop (0:Int).toNat=l.take k:=by
 split
 ·simp
 ·simp
  rw[List.take_of_length_le (by omega)]
theorem cutMin (l:List UInt8) (k:Nat):cutL l 0 (if(k:Int)<(l.length:Int) then(k:Int) else(l.length:Int))=some (l.take k):=by
 rw[Qki (by omega) (by split<;>omega) (by split<;>omega),takeMin]
def LIs (g:List Qab→Nat→List Qab×Nat) (f:List Qab→Int→Option (List Qab×Int)):Prop:=∀ (l:List Qab) (n:Nat),n≤100→f l n=some ((g l n).1,((g l n).2:Int))
theorem Q7l {d:Nat} (hd:d+1≤15) (hf:LIs (lightP d) (fun l n=>Qa2 l d n)) (l:List Qab):∀ k,k≤l.length→∀ (n:Nat) (acc:List Qab),acc.length=k→k+n≤100 →
  Qbp l ((d+1:Nat):Int) n acc k=some (((lightG (lightP d) (l.drop k) n).2:Int),acc++(lightG (lightP d) (l.drop k) n).1):=by
 refine upto ?_ fun k hk ih=>?_
 ·intro n acc _ _
  rw[Qbp]
  simp[lightG]
 ·intro n acc ha hn
  rw[Qbp,dropE hk]
  have h40:=cutMin (l[k].Name) 40
  have h60:=cutMin (l[k].Text) 60
  simp only[ltI,hk,decide_true,if_true]
  by_cases h0:n=0
  ·subst h0
   simp[lightG]
  ·have e1:wr (((d+1:Nat):Int)-1)=d:=by rw[wr_in (by omega) (by omega)]; omega
   have e2:wr ((n:Int)-1)=((n-1:Nat):Int):=by rw[wr_in (by omega) (by omega)]; omega
   have hpos:decide ((n:Int)>0)=true:=decide_eq_true (by omega)
   have hpos2:decide (((d+1:Nat):Int)>0)=true:=decide_eq_true (by omega)
   simp only[hpos,hpos2,if_true,Qad,Qaw,getE hk,e1,e2]
   rw[show(40:Int)=((40:Nat):Int) from rfl,h40,Qad,show(60:Int)=((60:Nat):Int) from rfl,h60,Qad]
   obtain⟨a1,-,-⟩:=Qlk d l[k].L (n-1)
   have f1:=hf l[k].L (n-1) (by omega)
   obtain⟨b1,-,-⟩:=Qlk d l[k].Then (lightP d l[k].L (n-1)).2
   have f2:=hf l[k].Then (lightP d l[k].L (n-1)).2 (by omega)
   obtain⟨c1,-,-⟩:=Qlk d l[k].Else (lightP d l[k].Then (lightP d l[k].L (n-1)).2).2
   have f3:=hf l[k].Else (lightP d l[k].Then (lightP d l[k].L (n-1)).2).2 (by omega)
   simp only at f1 f2 f3
   simp only[f1,f2,f3,Qad]
   rw[Qga (by simp; omega) (by simp; omega),Qad,Qas (by omega)]
   rw[ih _ _ (by simp[ha]) (by omega),lightG,if_neg h0]
   simp
theorem Q32:∀ d,d≤15→LIs (lightP d) (fun l n=>Qa2 l (d:Nat) n)
 | 0,_=>fun l n hn=>by
  have h0:decide (((0:Nat):Int)>0)=false:=rfl
  show Qa2 l ((0:Nat):Int) n=_
  rw[Qa2,Qbp]
  simp only[h0,Qad]
  have e:∀ b c:Bool,(if b=true then if c=true then some false else some false else some false:Option Bool)=some false:=fun b c=>by cases b<;>cases c<;>rfl
  rw[e]
  rfl
 | d+1,h=>fun l n hn=>by
  have:=Q7l h (Q32 d (by omega)) l 0 (by omega) n [] rfl (by omega)
  show Qa2 l ((d+1:Nat):Int) n=_
  rw[Qa2]
  rw[show((0:Nat):Int)=0 from rfl] at this
  rw[this]
  simp[lightP]
section
end
section
end
end Go.Proofs.YtfgegilhjlnohaaGreat
end

section
namespace Go.Proofs.YtfgegilhjlnohaaGreat
open Go.RowKit
def smallB (c:UInt8):Bool:=decide (97≤c.toNat)&&decide (c.toNat≤122)
def digB (c:UInt8):Bool:=decide (48≤c.toNat)&&decide (c.toNat≤57)
def letB (c:UInt8):Bool:=smallB c||(digB c||c.toNat==95)
def headB:List UInt8→Bool
 | []=>false
 | c::_=>decide (97≤c.toNat)
theorem Qw0 (c:UInt8) (r:List UInt8):headB (c::r)=decide (97≤c.toNat):=rfl
def wordP (s:List UInt8):Bool := !(s==[])&&(decide (s.length≤32)&&(headB s&&s.all letB))
theorem geN (n k:Nat):decide ((n:Int) ≥ (k:Int))=decide (k≤n):=by
 by_cases h:k≤n
 ·rw[decide_eq_true h,decide_eq_true (by omega:(n:Int) ≥ k)]
 ·rw[decide_eq_false h,decide_eq_false (by omega)]
theorem leN (n k:Nat):decide ((n:Int)≤(k:Int))=decide (n≤k):=by
 by_cases h:n≤k
 ·rw[decide_eq_true h,decide_eq_true (by omega:(n:Int)≤k)]
 ·rw[decide_eq_false h,decide_eq_false (by omega)]
theorem eqN (n k:Nat):((n:Int)==(k:Int))=(n==k):=by
 by_cases h:n=k
 ·subst h; simp
 ·rw[beq_eq_false_iff_ne.2 h,beq_eq_false_iff_ne.2 (by omega)]
theorem lDigit (c:UInt8):Qlh (c.toNat:Int)=some (digB c):=by
 have a:=geN c.toNat 48
 have b:=leN c.toNat 57
 rw[Qlh]
 rw[show(48:Int)=((48:Nat):Int) from rfl,show(57:Int)=((57:Nat):Int) from rfl,a,b,digB]
 cases decide (48≤c.toNat)<;>rfl
theorem rDigit (c:UInt8):Qnk (c.toNat:Int)=some (digB c):=by
 have a:=geN c.toNat 48
 have b:=leN c.toNat 57
 rw[Qnk]
 rw[show(48:Int)=((48:Nat):Int) from rfl,show(57:Int)=((57:Nat):Int) from rfl,a,b,digB]
 cases decide (48≤c.toNat)<;>rfl
theorem rSmall (c:UInt8):Qld (c.toNat:Int)=some (smallB c):=by
 have a:=geN c.toNat 97
 have b:=leN c.toNat 122
 rw[Qld]
 rw[show(97:Int)=((97:Nat):Int) from rfl,show(122:Int)=((122:Nat):Int) from rfl,a,b,smallB]
 cases decide (97≤c.toNat)<;>rfl
theorem lLetter (c:UInt8):Qli (c.toNat:Int)=some (letB c):=by
 have a:=geN c.toNat 97
 have b:=leN c.toNat 122
 have d:=eqN c.toNat 95
 rw[Qli,lDigit]
 rw[show(97:Int)=((97:Nat):Int) from rfl,show(122:Int)=((122:Nat):Int) from rfl,show(95:Int)=((95:Nat):Int) from rfl,a,b,d,letB,smallB]
 simp only[Qad]
 cases decide (97≤c.toNat)<;>cases decide (c.toNat≤122)<;>cases digB c<;>cases (c.toNat==95)<;>rfl
theorem lWordL (s:List UInt8) (hs:s.length<9223372036854775807):∀ k,k≤s.length→Qez s k=some (if(s.drop k).all letB then .inl () else .inr ()):=by
 refine upto ?_ fun k hk ih=>?_
 ·rw[Qez]; simp
 ·rw[Qez,Qas (by omega),ih]
  simp only[ltI,hk,decide_true,if_true,Qaw,getE hk,Qad,lLetter]
  rw[dropE hk,List.all_cons]
  cases letB s[k]<;>rfl
theorem lWord (s:List UInt8) (hs:s.length<9223372036854775807):Ql3 s=some (wordP s):=by
 have h:=lWordL s hs 0 (by omega)
 rw[Ql3,show(0:Int)=((0:Nat):Int) from rfl,h,List.drop_zero,wordP]
 have e:=leN s.length 32
 rw[show(32:Int)=((32:Nat):Int) from rfl,e]
 cases ha:s.all letB with
 | false=>cases (s==[])<;>cases decide (s.length≤32)<;>cases headB s<;>rfl
 | true =>
  cases s with
  | nil=>rfl
  | cons c r =>
   have g:=geN c.toNat 97
   rw[show(97:Int)=((97:Nat):Int) from rfl]
   simp only[if_true,Qad,Qaw,List.getElem?_cons_zero,g,Qw0]
   have e0:((c::r)==([]:List UInt8))=false:=rfl
   rw[e0]
   cases decide ((c::r).length≤32)<;>simp
theorem letSmall {c:UInt8} (h:letB c=true):smallB c=decide (97≤c.toNat):=by
 unfold letB smallB digB at *
 by_cases h1:97≤c.toNat
 ·rw[decide_eq_true h1] at h ⊢
  simp at h ⊢
  omega
 ·rw[decide_eq_false h1]; rfl
theorem rWordL (s:List UInt8) (hs:s.length<9223372036854775807):∀ k,k≤s.length→Qes s k=some (if(s.drop k).all letB then .inl () else .inr ()):=by
 refine upto ?_ fun k hk ih=>?_
 ·rw[Qes]; simp
 ·have d:=eqN s[k].toNat 95
  rw[Qes,Qas (by omega),ih]
  simp only[ltI,hk,decide_true,if_true,Qaw,getE hk,Qad,rSmall,rDigit]
  rw[dropE hk,List.all_cons,letB]
  have e:(((s[k].toNat:Nat):Int) != 95) = !(s[k].toNat==95):=by rw[← d]; rfl
  rw[e]
  cases smallB s[k]<;>cases digB s[k]<;>cases (s[k].toNat==95)<;>rfl
theorem rWord (s:List UInt8) (hs:s.length<9223372036854775807):Ql0 s=some (wordP s):=by
 have h:=rWordL s hs 0 (by omega)
 rw[Ql0,show(0:Int)=((0:Nat):Int) from rfl,h,List.drop_zero,wordP]
 cases s with
 | nil=>rfl
 | cons c r =>
  have e1:decide ((((c::r).length:Nat):Int)<1)=false:=decide_eq_false (by simp; omega)
  have e2:decide ((((c::r).length:Nat):Int)>32) = !(decide ((c::r).length≤32)):=by
   by_cases h:(c::r).length≤32
   ·rw[decide_eq_true h,decide_eq_false (by omega)]; rfl
   ·rw[decide_eq_false h,decide_eq_true (by omega)]; rfl
  simp only[e1,e2,Bool.false_eq_true,if_false,Qaw,List.getElem?_cons_zero,Qad,rSmall,Qw0]
  have e0:((c::r)==([]:List UInt8))=false:=rfl
  rw[e0]
  cases ha:(c::r).all letB with
  | true =>
   have hl:letB c=true:=by rw[List.all_cons,Bool.and_eq_true] at ha; exact ha.1
   rw[letSmall hl]
   cases decide ((c::r).length≤32)<;>cases decide (97≤c.toNat)<;>rfl
  | false=>cases decide ((c::r).length≤32)<;>cases decide (97≤c.toNat)<;>cases smallB c<;>rfl
theorem Q6i (a b:List UInt8):s2b (a++b)=s2b a++s2b b:=by simp[s2b]
theorem Qur (a:List UInt8):(s2b a).length=a.length:=by simp[s2b]
theorem Q8h (l:List UInt8):b2s (s2b l)=some l:=by
 unfold b2s s2b
 rw[if_pos]
 ·rw[List.map_map]
  congr 1
  have:∀ c:UInt8,((fun n:Int=>UInt8.ofNat n.toNat) ∘ fun c:UInt8=>(c.toNat:Int)) c=c:=fun c=>by simp
  rw[show((fun n:Int=>UInt8.ofNat n.toNat) ∘ fun c:UInt8=>(c.toNat:Int))=id from funext this,List.map_id]
 ·rw[List.all_eq_true]
  intro n hn
  obtain⟨c,-,rfl⟩:=List.mem_map.1 hn
  have:=c.toNat_lt
  simp only[decide_eq_true_eq]
  omega
end Go.Proofs.YtfgegilhjlnohaaGreat
end

section
namespace Go.Proofs.YtfgegilhjlnohaaGreat
open Go.RowKit
def kws:List (List UInt8):=[[105,102],[101,108,115,101],[101,110,100],[101,97,99,104],[105,110],[108,101,116],[117,115,101],[116,114,117,101],[102,97,108,115,101],[115,101,99,114,101,116]]
def nameP (s:List UInt8):Bool := !(kws.any (· == s))&&wordP s
theorem tName (s:List UInt8) (hs:s.length<9223372036854775807):Qgw s=some (nameP s):=by
 have c:∀ a:List UInt8,(a==s)=(s==a):=fun a=>by rw[Bool.beq_comm]
 rw[Qgw,lWord s hs,nameP]
 simp only[kws,List.any_cons,List.any_nil,c]
 generalize (s==[105,102])=a1
 generalize (s==[101,108,115,101])=a2
 generalize (s==[101,110,100])=a3
 generalize (s==[101,97,99,104])=a4
 generalize (s==[105,110])=a5
 generalize (s==[108,101,116])=a6
 generalize (s==[117,115,101])=a7
 generalize (s==[116,114,117,101])=a8
 generalize (s==[102,97,108,115,101])=a9
 generalize (s==[115,101,99,114,101,116])=a10
 generalize wordP s=b
 cases a1
 ·cases a2
  ·cases a3
   ·cases a4
    ·cases a5
     ·cases a6
      ·cases a7
       ·cases a8
        ·cases a9
         ·cases a10<;>cases b<;>rfl
         ·rfl
        ·rfl
       ·rfl
      ·rfl
     ·rfl
    ·rfl
   ·rfl
  ·rfl
 ·rfl
theorem rNameL (s:List UInt8) (l:List (List UInt8)) (hl:l.length<9223372036854775807):∀ k,k≤l.length→Qd5 s l k=some (if(l.drop k).any (· == s) then .inr () else .inl ()):=by
 refine upto ?_ fun k hk ih=>?_
 ·rw[Qd5]; simp
 ·rw[Qd5,Qas (by omega),ih]
  simp only[ltI,hk,decide_true,if_true,Qaw,getE hk,Qad]
  rw[dropE hk,List.any_cons]
  cases (l[k]==s)<;>rfl
theorem rName (s:List UInt8) (hs:s.length<9223372036854775807):Qi2 s=some (nameP s):=by
 have h:=rNameL s kws (by decide) 0 (by omega)
 rw[Qi2,Qp4]
 simp only[Qad,rWord s hs]
 rw[show(0:Int)=((0:Nat):Int) from rfl]
 show(Qd5 s kws _>>=_)=_
 rw[h,List.drop_zero,nameP]
 cases kws.any (· == s)<;>rfl
theorem Qus {s:List UInt8} (h:wordP s=true):(s==[])=false:=by
 unfold wordP at h
 cases hs:(s==[]) with
 | false=>rfl
 | true=>rw[hs] at h; cases h
theorem Qns {s:List UInt8} (h:nameP s=true):wordP s=true:=by
 unfold nameP at h
 cases hw:wordP s with
 | true=>rfl
 | false=>rw[hw] at h; simp at h
def hasB:List UInt8→Bool
 | []=>false
 | c::r=>(c==123&&r.head? == some 123)||hasB r
theorem pre2 (l:List UInt8):([123,123]:List UInt8).isPrefixOf l=(match l with | []=>false | c::r=>c==123&&r.head? == some 123):=by
 match l with
 | []=>rfl
 | [c]=>simp[List.isPrefixOf]
 | c::d::r =>
  simp only[List.isPrefixOf,List.head?_cons]
  have e1:(123==c)=(c==123):=Bool.beq_comm
  have e2:(123==d)=(d==123):=Bool.beq_comm
  rw[e1,e2]
  cases (c==123)<;>cases hd:(d==123)<;>simp_all
theorem Q1m:∀ l:List UInt8,decide (Lib.index l [123,123] ≥ 0)=hasB l
 | []=>rfl
 | c::r=>by
  have ih:=Q1m r
  have hg:=Lib.index_ge r [123,123]
  have hp2:([123,123]:List UInt8).isPrefixOf (c::r)=(c==123&&r.head? == some 123):=pre2 (c::r)
  unfold Lib.index
  rw[hp2,hasB]
  generalize (c==123&&r.head? == some 123)=b
  cases b with
  | true=>rfl
  | false =>
   simp only[Bool.false_or]
   by_cases h1:Lib.index r [123,123] = -1
   ·rw[h1] at ih ⊢
    rw[← ih]; rfl
   ·rw[if_neg (by decide),if_neg (by simpa using h1),← ih,decide_eq_true (by omega),decide_eq_true (by omega)]
theorem tHas (s:List UInt8) (hs:s.length<4294967281):strings_Contains s [123,123]=some (hasB s):=by
 rw[strings_Contains,strings_Index,Qb1,Qg6 hs]
 simp only[Qad,Q1m]
theorem rBegins (s:List UInt8) (k:Nat) (hk:k<s.length) (hs:s.length<4294967281):Qlb s [123,123] k=some (match s.drop k with | []=>false | c::r=>c==123&&r.head? == some 123):=by
 have e1:decide ((k:Int) ≥ 0)=true:=decide_eq_true (by omega)
 have e2:decide ((k:Int)≤(s.length:Int))=true:=decide_eq_true (by omega)
 have e3:wr ((s.length:Int)-k)=((s.length-k:Nat):Int):=by rw[wr_in (by omega) (by omega)]; omega
 have e4:wr ((k:Int)+(([123,123]:List UInt8).length:Int))=((k+2:Nat):Int):=by rw[wr_in (by simp; omega) (by simp; omega)]; simp
 rw[Qlb,e1,e2,e3,e4]
 simp only[if_true]
 by_cases h2:2≤s.length-k
 ·have e5:decide (((([123,123]:List UInt8).length:Nat):Int)≤((s.length-k:Nat):Int))=true:=decide_eq_true (by simp; omega)
  rw[e5,Qki (by omega) (by omega) (by omega)]
  simp only[if_true,Qad]
  have hk1:k+1<s.length:=by omega
  have e6:(s.take (k+2)).drop k=[s[k],s[k+1]]:=by
   apply List.ext_getElem
   ·simp; omega
   ·intro i h1 h2
    simp at h1 h2
    match i,h2 with
    | 0,_=>simp
    | 1,_=>simp
  rw[Int.toNat_natCast,Int.toNat_natCast,e6,dropE hk,dropE hk1]
  simp only[List.head?_cons]
  have:(([s[k],s[k+1]]:List UInt8)==[123,123])=(s[k]==123&&(some s[k+1]==some 123)):=by
   have e:(some s[k+1]==some (123:UInt8))=(s[k+1]==123):=rfl
   rw[e,List.cons_beq_cons,List.cons_beq_cons]
   show(s[k]==123&&(s[k+1]==123&&true))=_
   rw[Bool.and_true]
  rw[this]
 ·have e5:decide (((([123,123]:List UInt8).length:Nat):Int)≤((s.length-k:Nat):Int))=false:=decide_eq_false (by simp; omega)
  rw[e5,dropE hk]
  have:s.drop (k+1)=[]:=List.drop_eq_nil_of_le (by omega)
  rw[this]
  simp
theorem rStandsL (s:List UInt8) (hs:s.length<4294967281):∀ k,k≤s.length→Qdd s [123,123] k=some (if hasB (s.drop k) then .inr () else .inl ()):=by
 refine upto ?_ fun k hk ih=>?_
 ·rw[Qdd]; simp[hasB]
 ·rw[Qdd,Qas (by omega),ih,rBegins s k hk hs]
  simp only[ltI,hk,decide_true,if_true,Qad]
  rw[dropE hk,hasB]
  show(if(s[k]==123&&(s.drop (k+1)).head? == some 123)=true then _ else _)=_
  generalize (s[k]==123&&(s.drop (k+1)).head? == some 123)=b
  cases b<;>rfl
theorem rStands (s:List UInt8) (hs:s.length<4294967281):Qle s [123,123]=some (hasB s):=by
 have h:=rStandsL s hs 0 (by omega)
 rw[Qle,show(0:Int)=((0:Nat):Int) from rfl,h,List.drop_zero]
 cases hasB s<;>rfl
def endB (s:List UInt8):Bool:=s.getLast? == some 123
theorem tEnd (s:List UInt8) (hs:s.length<4294967281):strings_HasSuffix s [123]=some (endB s):=by
 rw[strings_HasSuffix,Qbq,endB]
 cases hl:s.getLast? with
 | none =>
  have:s=[]:=List.getLast?_eq_none_iff.1 hl
  subst this
  rfl
 | some c =>
  have hne:s≠[]:=fun h=>by subst h; cases hl
  have hpos:0<s.length:=List.length_pos_iff.2 hne
  have e1:decide ((s.length:Int) ≥ ((([123]:List UInt8).length:Nat):Int))=true:=decide_eq_true (by simp; omega)
  have e2:wr ((s.length:Int)-((([123]:List UInt8).length:Nat):Int))=((s.length-1:Nat):Int):=by rw[wr_in (by simp; omega) (by simp; omega)]; simp; omega
  rw[e1,e2,Qki (by omega) (by omega) (by omega)]
  simp only[if_true,Qad,Int.toNat_natCast,List.take_length]
  have e3:s.drop (s.length-1)=[c]:=by
   have h1:s.length-1<s.length:=by omega
   rw[dropE h1,List.drop_eq_nil_of_le (by omega)]
   rw[List.getLast?_eq_getElem?,getE h1] at hl
   cases hl; rfl
  rw[e3]
  simp
theorem rEnd (s:List UInt8) (hs:s.length<4294967281) (hne:(s==[])=false):(idx s (wr ((s.length:Int)-1))>>=fun x=>some ((x.toNat:Int)==123))=some (endB s):=by
 have hne:s≠[]:=fun h=>by subst h; cases hne
 have hpos:0<s.length:=List.length_pos_iff.2 hne
 have e2:wr ((s.length:Int)-1)=((s.length-1:Nat):Int):=by rw[wr_in (by omega) (by omega)]; omega
 have h1:s.length-1<s.length:=by omega
 rw[e2,Qaw,getE h1,Qad,endB,List.getLast?_eq_getElem?,getE h1]
 have d:=eqN s[s.length-1].toNat 123
 rw[show(123:Int)=((123:Nat):Int) from rfl,d]
 congr 1
 by_cases h:s[s.length-1]=123
 ·rw[h]; rfl
 ·have:s[s.length-1].toNat≠123:=fun e=>h (UInt8.toNat_inj.1 (by rw[e]; rfl))
  rw[beq_eq_false_iff_ne.2 this]
  symm
  rw[beq_eq_false_iff_ne]
  intro e; exact h (Option.some.inj e)
end Go.Proofs.YtfgegilhjlnohaaGreat
end

section
namespace Go.Proofs.YtfgegilhjlnohaaGreat
open Go.RowKit
mutual
def allN (Q:Qab→Prop):Qab→Prop
 | ⟨k,s,t,n,a,b,c⟩=>Q ⟨k,s,t,n,a,b,c⟩∧allL Q a∧allL Q b∧allL Q c
def allL (Q:Qab→Prop):List Qab→Prop
 | []=>True
 | x::r=>allN Q x∧allL Q r
end
theorem Qiu (Q:Qab→Prop) (x:Qab):allN Q x↔(Q x∧allL Q x.L∧allL Q x.Then∧allL Q x.Else):=by cases x; rw[allN]
theorem Ql7 {Q:Qab→Prop}:∀ {l:List Qab} {x:Qab},x ∈ l→allL Q l→allN Q x
 | y::r,x,h,hs=>by
  rw[allL] at hs
  rcases List.mem_cons.1 h with rfl | h
  ·exact hs.1
  ·exact Ql7 h hs.2
theorem Q8i {R Q:Qab→Prop} (h:∀ x:Qab,x.Name.length≤40→x.Text.length≤60→R x→Q x):∀ n (l:List Qab),nns l≤n→sms l→allL R l→allL Q l:=by
 intro n
 induction n with
 | zero=>intro l hn _; cases l with
  | nil=>intro _; rw[allL]; trivial
  | cons x r=>have:=Qqk x; simp[nns] at hn; omega
 | succ n ih =>
  intro l
  induction l with
  | nil=>intro _ _ _; rw[allL]; trivial
  | cons x r ihr =>
   intro hn hs hr
   rw[nns,nn_eq] at hn
   rw[sms,sm_eq] at hs
   obtain⟨⟨h1,h2,h3,h4,h5⟩,h6⟩:=hs
   rw[allL,Qiu] at hr ⊢
   obtain⟨⟨g1,g2,g3,g4⟩,g5⟩:=hr
   exact⟨⟨h x h1 h2 g1,ih _ (by omega) h3 g2,ih _ (by omega) h4 g3,ih _ (by omega) h5 g4⟩,ihr (by omega) h6 g5⟩
structure okNd (x:Qab):Prop where
 nm:x.Name.length≤1000000
 tx:x.Text.length≤1000000
 rg : -9223372036854775808≤x.N∧x.N≤9223372036854775807
 qt:x.Kind=1→∃ q,Qif x.Text=some q∧Qjz x.Text=some q
noncomputable def quoteP (s:List UInt8):List UInt8×Bool:=(Qif s).getD ([],false)
def zl (l:List Qab):Bool:=l.length==0
mutual
noncomputable def exprP:Qab→Bool
 | ⟨k,s,t,n,a,b,c⟩ =>
  if k==1 then(quoteP t).2&&(s==[]&&(n==0&&(zl a&&(zl b&&zl c)))) else
  if k==2 then s==[]&&(t==[]&&(zl a&&(zl b&&zl c))) else
  if k==3 then(n==0||n==1)&&(s==[]&&(t==[]&&(zl a&&(zl b&&zl c)))) else
  if k==4 then nameP s&&(t==[]&&(n==0&&(zl a&&(zl b&&zl c)))) else
  if k==5 then wordP s&&(a.length==1&&(exprsP a&&(t==[]&&(n==0&&(zl b&&zl c))))) else
  if k==6 then nameP s&&(decide (a.length≤3)&&(exprsP a&&(t==[]&&(n==0&&(zl b&&zl c))))) else
  if k==7 then wordP s&&(t==[]&&(n==0&&(zl a&&(zl b&&zl c)))) else false
noncomputable def exprsP:List Qab→Bool
 | []=>true
 | x::r=>exprP x&&exprsP r
end
theorem Qzc (x:Qab):exprP x =
  if x.Kind==1 then(quoteP x.Text).2&&(x.Name==[]&&(x.N==0&&(zl x.L&&(zl x.Then&&zl x.Else)))) else
  if x.Kind==2 then x.Name==[]&&(x.Text==[]&&(zl x.L&&(zl x.Then&&zl x.Else))) else
  if x.Kind==3 then(x.N==0||x.N==1)&&(x.Name==[]&&(x.Text==[]&&(zl x.L&&(zl x.Then&&zl x.Else)))) else
  if x.Kind==4 then nameP x.Name&&(x.Text==[]&&(x.N==0&&(zl x.L&&(zl x.Then&&zl x.Else)))) else
  if x.Kind==5 then wordP x.Name&&(x.L.length==1&&(exprsP x.L&&(x.Text==[]&&(x.N==0&&(zl x.Then&&zl x.Else))))) else
  if x.Kind==6 then nameP x.Name&&(decide (x.L.length≤3)&&(exprsP x.L&&(x.Text==[]&&(x.N==0&&(zl x.Then&&zl x.Else))))) else
  if x.Kind==7 then wordP x.Name&&(x.Text==[]&&(x.N==0&&(zl x.L&&(zl x.Then&&zl x.Else)))) else false:=by cases x; rw[exprP]
theorem zI (l:List Qab):((l.length:Int)==0)=zl l:=eqN l.length 0
theorem gI (l:List Qab):decide ((l.length:Int)>0) = !zl l:=by
 unfold zl
 by_cases h:l.length=0
 ·rw[h]; rfl
 ·rw[beq_eq_false_iff_ne.2 h,decide_eq_true (by omega)]; rfl
theorem oneI (l:List Qab):((l.length:Int)==1)=(l.length==1):=eqN l.length 1
theorem low1 (a:BitVec 64):a &&& ~~~1#64=0#64↔(a=0#64∨a=1#64):=by
 constructor
 ·intro h
  have hb:∀ i,0<i→a.getLsbD i=false:=fun i hi=>by
   have:=congrArg (fun x:BitVec 64=>x.getLsbD i) h
   simp only[BitVec.getLsbD_and,BitVec.getLsbD_not,BitVec.getLsbD_zero] at this
   by_cases h64:i<64
   ·have h1:(1#64).getLsbD i=false:=by simp[BitVec.getLsbD_one]; omega
    rw[h1] at this
    simpa [h64] using this
   ·exact BitVec.getLsbD_of_ge a i (by omega)
  cases h0:a.getLsbD 0 with
  | false =>
   left
   apply BitVec.eq_of_getLsbD_eq
   intro i _
   by_cases hi:i=0
   ·subst hi; rw[h0]; simp
   ·rw[hb i (by omega)]; simp
  | true =>
   right
   apply BitVec.eq_of_getLsbD_eq
   intro i _
   by_cases hi:i=0
   ·subst hi; rw[h0]; simp
   ·rw[hb i (by omega)]; simp[BitVec.getLsbD_one]; omega
 ·rintro (h | h)<;>subst h<;>decide
theorem ofI {n:Int} (h1 : -9223372036854775808≤n) (h2:n≤9223372036854775807) (m:Int) (h3:0≤m) (h4:m≤1):BitVec.ofInt 64 n=BitVec.ofInt 64 m↔n=m:=by
 constructor
 ·intro h
  have:=congrArg BitVec.toInt h
  rw[BitVec.toInt_ofInt,BitVec.toInt_ofInt,Int.bmod_def,Int.bmod_def] at this
  simp only[show(((2:Nat) ^ 64:Nat):Int)=18446744073709551616 from rfl] at this
  split at this<;>split at this<;>omega
 ·intro h; rw[h]
theorem wrap0 (m:Nat) (h:m<18446744073709551616):(IntKind.i64.wrap (m:Int)=0)↔m=0:=by
 rw[IntKind.wrap_i64]
 omega
theorem truthI (n:Int) (h1 : -9223372036854775808≤n) (h2:n≤9223372036854775807):((bits .andNot .i64 n 1)==0)=(n==0||n==1):=by
 have hw:=wrap0 (BitVec.ofInt 64 n &&& ~~~(BitVec.ofInt 64 1)).toNat (BitVec.isLt _)
 have e:bits .andNot .i64 n 1=IntKind.i64.wrap ((BitVec.ofInt 64 n &&& ~~~(BitVec.ofInt 64 1)).toNat:Int):=rfl
 have e2:(BitVec.ofInt 64 n &&& ~~~(BitVec.ofInt 64 1)).toNat=0↔(n=0∨n=1):=by
  have z:(BitVec.ofInt 64 n &&& ~~~(BitVec.ofInt 64 1)).toNat=0↔BitVec.ofInt 64 n &&& ~~~1#64=0#64:=by
   constructor
   ·intro h; exact BitVec.eq_of_toNat_eq h
   ·intro h; exact congrArg BitVec.toNat h
  rw[z,low1]
  have a0:=ofI h1 h2 0 (by omega) (by omega)
  have a1:=ofI h1 h2 1 (by omega) (by omega)
  rw[← a0,← a1]
  exact Iff.rfl
 rw[e2] at hw
 rw[e]
 by_cases h:n=0∨n=1
 ·rw[hw.2 h]
  rcases h with h | h<;>subst h<;>rfl
 ·have:¬ IntKind.i64.wrap ((BitVec.ofInt 64 n &&& ~~~(BitVec.ofInt 64 1)).toNat:Int)=0:=fun k=>h (hw.1 k)
  rw[beq_eq_false_iff_ne.2 this]
  simp only[not_or] at h
  rw[beq_eq_false_iff_ne.2 h.1,beq_eq_false_iff_ne.2 h.2]
  rfl
section
variable (n:Nat) (ih:∀ x:Qab,nn x≤n→allN okNd x→Qd9 x=some (exprP x))
include ih
theorem tExprL (l:List Qab) (h:nns l≤n) (ho:allL okNd l) (hl:l.length<9223372036854775807):∀ k,k≤l.length→∃ r,Qan l k=some r ∧
  (match r with | .inl _=>exprsP (l.drop k)=true | .inr v=>0≤v∧exprsP (l.drop k)=false):=by
 refine upto ?_ fun k hk ihk=>?_
 ·rw[Qan]
  refine⟨.inl (),by simp,?_⟩
  simp[exprsP]
 ·have hx:=Qit (List.getElem_mem hk)
  rw[Qan,Qas (by omega)]
  simp only[ltI,hk,decide_true,if_true,Qaw,getE hk,Qad,Qo9,ih l[k] (by omega) (Ql7 (List.getElem_mem hk) ho)]
  rw[dropE hk]
  simp only[exprsP]
  cases he:exprP l[k] with
  | true =>
   obtain⟨r,h1,h2⟩:=ihk
   refine⟨r,by simpa using h1,?_⟩
   simpa using h2
  | false=>exact⟨.inr k,by simp,by omega,rfl⟩
end
theorem tExpr:∀ n (x:Qab),n<1000000000→nn x≤n→allN okNd x→Qd9 x=some (exprP x):=by
 intro n
 induction n with
 | zero=>intro x _ h; have:=Qqk x; omega
 | succ n ih =>
  intro x hb h ho
  rw[nn_eq] at h
  obtain⟨hq,ho1,-,-⟩:=(Qiu okNd x).1 ho
  have hnm:=hq.nm
  rw[Qd9,Qf7,Qzc,tName x.Name (by omega),lWord x.Name (by omega)]
  simp only[Qad,gI,truthI _ hq.rg.1 hq.rg.2]
  have e2:(x.N != 0) = !(x.N==0):=rfl
  have e3:((x.L.length:Int)==0)=zl x.L:=zI x.L
  have e4:((x.L.length:Int)==1)=(x.L.length==1):=oneI x.L
  simp only[e2,e3,e4]
  by_cases k1:x.Kind=1
  ·obtain⟨q,q1,q2⟩:=hq.qt k1
   simp only[k1,beq_self_eq_true,if_true,q1,Qad,quoteP,Option.getD_some]
   generalize (x.Name==[])=a1
   generalize (x.Text==[])=a2
   generalize (x.N==0)=a3
   generalize zl x.L=a4
   generalize zl x.Then=a5
   generalize zl x.Else=a6
   cases q.2<;>cases a1<;>cases a2<;>cases a3<;>cases a4<;>cases a5<;>cases a6<;>rfl
  by_cases k2:x.Kind=2
  ·simp only[k2,beq_self_eq_true,if_true,show((2:Int)==1)=false from rfl,Bool.false_eq_true,if_false]
   generalize (x.Name==[])=a1
   generalize (x.Text==[])=a2
   generalize (x.N==0)=a3
   generalize zl x.L=a4
   generalize zl x.Then=a5
   generalize zl x.Else=a6
   cases a1<;>cases a2<;>cases a3<;>cases a4<;>cases a5<;>cases a6<;>rfl
  by_cases k3:x.Kind=3
  ·simp only[k3,beq_self_eq_true,if_true,show((3:Int)==1)=false from rfl,show((3:Int)==2)=false from rfl,Bool.false_eq_true,if_false]
   generalize (x.N==0||x.N==1)=a0
   generalize (x.Name==[])=a1
   generalize (x.Text==[])=a2
   generalize (x.N==0)=a3
   generalize zl x.L=a4
   generalize zl x.Then=a5
   generalize zl x.Else=a6
   cases a0<;>cases a1<;>cases a2<;>cases a3<;>cases a4<;>cases a5<;>cases a6<;>rfl
  have nw:nameP x.Name=true→(x.Name==[])=false:=fun h=>Qus (Qns h)
  have ww:wordP x.Name=true→(x.Name==[])=false:=fun h=>Qus h
  by_cases k4:x.Kind=4
  ·simp only[k4,beq_self_eq_true,if_true,show((4:Int)==1)=false from rfl,show((4:Int)==2)=false from rfl,show((4:Int)==3)=false from rfl,Bool.false_eq_true,if_false]
   cases hn:nameP x.Name with
   | false=>rfl
   | true =>
    rw[nw hn]
    generalize (x.Text==[])=a2
    generalize (x.N==0)=a3
    generalize zl x.L=a4
    generalize zl x.Then=a5
    generalize zl x.Else=a6
    cases a2<;>cases a3<;>cases a4<;>cases a5<;>cases a6<;>rfl
  by_cases k7:x.Kind=7
  ·simp only[k7,beq_self_eq_true,if_true,show((7:Int)==1)=false from rfl,show((7:Int)==2)=false from rfl,show((7:Int)==3)=false from rfl,show((7:Int)==4)=false from rfl,show((7:Int)==5)=false from rfl,show((7:Int)==6)=false from rfl,Bool.false_eq_true,if_false]
   cases hn:wordP x.Name with
   | false=>rfl
   | true =>
    rw[ww hn]
    generalize (x.Text==[])=a2
    generalize (x.N==0)=a3
    generalize zl x.L=a4
    generalize zl x.Then=a5
    generalize zl x.Else=a6
    cases a2<;>cases a3<;>cases a4<;>cases a5<;>cases a6<;>rfl
  have b1:(x.Kind==1)=false:=beq_eq_false_iff_ne.2 k1
  have b2:(x.Kind==2)=false:=beq_eq_false_iff_ne.2 k2
  have b3:(x.Kind==3)=false:=beq_eq_false_iff_ne.2 k3
  have b4:(x.Kind==4)=false:=beq_eq_false_iff_ne.2 k4
  have b7:(x.Kind==7)=false:=beq_eq_false_iff_ne.2 k7
  simp only[b1,b2,b3,b4,b7,Bool.false_eq_true,if_false]
  by_cases k5:x.Kind=5
  ·simp only[k5,beq_self_eq_true,if_true]
   cases hn:wordP x.Name with
   | false=>rfl
   | true =>
    rw[ww hn]
    cases hl:(x.L.length==1) with
    | false =>
     generalize (x.Text==[])=a2
     generalize (x.N==0)=a3
     generalize zl x.Then=a5
     generalize zl x.Else=a6
     cases a2<;>cases a3<;>cases a5<;>cases a6<;>rfl
    | true =>
     have hl1:x.L.length=1:=by simpa using hl
     obtain⟨y,hy⟩:=List.length_eq_one_iff.1 hl1
     have hy1:nn y≤n:=by have:=Qit (show y ∈ x.L by rw[hy]; simp); omega
     have hy2:allN okNd y:=Ql7 (show y ∈ x.L by rw[hy]; simp) ho1
     rw[hy]
     simp only[idx_0,List.getElem?_cons_zero,Qad,ih y (by omega) hy1 hy2,exprsP,Bool.and_true]
     generalize (x.Text==[])=a2
     generalize (x.N==0)=a3
     generalize zl x.Then=a5
     generalize zl x.Else=a6
     generalize exprP y=a7
     cases a2<;>cases a3<;>cases a5<;>cases a6<;>cases a7<;>rfl
  by_cases k6:x.Kind=6
  ·simp only[k6,beq_self_eq_true,if_true,show((6:Int)==5)=false from rfl,Bool.false_eq_true,if_false]
   cases hn:nameP x.Name with
   | false=>rfl
   | true =>
    rw[nw hn]
    have hmin:((x.L.length:Int)==(if 3<(x.L.length:Int) then 3 else(x.L.length:Int)))=decide (x.L.length≤3):=by
     by_cases h3:x.L.length≤3
     ·rw[if_neg (by omega),decide_eq_true h3]; simp
     ·rw[if_pos (by omega),decide_eq_false h3,beq_eq_false_iff_ne.2 (by omega)]
    rw[hmin]
    have hll:=Qg0 x.L
    obtain⟨r,hr,hp⟩:=tExprL n (fun y=>ih y (by omega)) x.L (by omega) ho1 (by omega) 0 (by omega)
    rw[Qat,Qa9,show(0:Int)=((0:Nat):Int) from rfl,hr]
    rw[List.drop_zero] at hp
    cases r with
    | inl u =>
     simp only at hp
     rw[hp]
     generalize (x.Text==[])=a2
     generalize (x.N==((0:Nat):Int))=a3
     generalize zl x.Then=a5
     generalize zl x.Else=a6
     generalize decide (x.L.length≤3)=a7
     cases a2<;>cases a3<;>cases a5<;>cases a6<;>cases a7<;>rfl
    | inr v =>
     simp only at hp
     have hv:decide (v ≥ ((0:Nat):Int))=true:=decide_eq_true (by omega)
     simp only[hp.2,Qad,hv]
     generalize (x.Text==[])=a2
     generalize (x.N==((0:Nat):Int))=a3
     generalize zl x.Then=a5
     generalize zl x.Else=a6
     generalize decide (x.L.length≤3)=a7
     cases a2<;>cases a3<;>cases a5<;>cases a6<;>cases a7<;>rfl
  have b5:(x.Kind==5)=false:=beq_eq_false_iff_ne.2 k5
  have b6:(x.Kind==6)=false:=beq_eq_false_iff_ne.2 k6
  simp only[b5,b6,Bool.false_eq_true,if_false]
def bareB (x:Qab) (p1 p2 p3 p4 p5:Bool):Bool:=(p1||x.Name==[])&&((p2||x.Text==[])&&((p3||x.N==0)&&((p4||zl x.L)&&((p5||zl x.Then)&&(x.Kind==10||zl x.Else)))))
theorem rBare (x:Qab) (p1 p2 p3 p4 p5:Bool):Qdc x p1 p2 p3 p4 p5=some (bareB x p1 p2 p3 p4 p5):=by
 unfold Qdc bareB
 simp only[zI]
 generalize (x.Name==[])=a1
 generalize (x.Text==[])=a2
 generalize (x.N==0)=a3
 generalize zl x.L=a4
 generalize zl x.Then=a5
 generalize zl x.Else=a6
 generalize (x.Kind==10)=a7
 have e:∀ b:Bool,(if a7=true then some true else some b:Option Bool)=some (a7||b):=fun b=>by cases a7<;>rfl
 simp only[e]
 generalize (a7||a6)=a8
 cases p1<;>cases p2<;>cases p3<;>cases p4<;>cases p5<;>cases a1<;>(try rfl)<;>cases a2<;>(try rfl)<;>cases a3<;>(try rfl)<;>cases a4<;>(try rfl)<;>cases a5<;>rfl
section
variable (n:Nat) (ih:∀ x:Qab,nn x≤n→allN okNd x→Qn5 x=some (exprP x))
include ih
theorem rExprsL (l:List Qab) (h:nns l≤n) (ho:allL okNd l) (hl:l.length<9223372036854775807):∀ k,k≤l.length→Qf5 l k=some (if exprsP (l.drop k) then .inl () else .inr ()):=by
 refine upto ?_ fun k hk ihk=>?_
 ·rw[Qf5]; simp[exprsP]
 ·have hx:=Qit (List.getElem_mem hk)
  rw[Qf5,Qas (by omega),ihk]
  simp only[ltI,hk,decide_true,if_true,Qaw,getE hk,Qad,ih l[k] (by omega) (Ql7 (List.getElem_mem hk) ho)]
  rw[dropE hk,exprsP]
  cases exprP l[k]<;>rfl
theorem rExprs (l:List Qab) (h:nns l≤n) (ho:allL okNd l) (hl:l.length<9223372036854775807):Qj1 l=some (exprsP l):=by
 have:=rExprsL n ih l h ho hl 0 (by omega)
 rw[Qj1,show(0:Int)=((0:Nat):Int) from rfl,this,List.drop_zero]
 cases exprsP l<;>rfl
end
theorem rExpr:∀ n (x:Qab),n<1000000000→nn x≤n→allN okNd x→Qn5 x=some (exprP x):=by
 intro n
 induction n with
 | zero=>intro x _ h; have:=Qqk x; omega
 | succ n ih =>
  intro x hb h ho
  rw[nn_eq] at h
  obtain⟨hq,ho1,-,-⟩:=(Qiu okNd x).1 ho
  have hnm:=hq.nm
  have hll:=Qg0 x.L
  have hex:=rExprs n (fun y=>ih y (by omega)) x.L (by omega) ho1 (by omega)
  have el:decide ((x.L.length:Int)≤3)=decide (x.L.length≤3):=leN x.L.length 3
  rw[Qn5,Qzc,rName x.Name (by omega),rWord x.Name (by omega),hex]
  simp only[Qad,rBare,bareB,oneI,el]
  by_cases k1:x.Kind=1
  ·obtain⟨q,q1,q2⟩:=hq.qt k1
   have e10:(x.Kind==10)=false:=beq_eq_false_iff_ne.2 (by omega)
   simp only[e10]
   simp only[k1,beq_self_eq_true,if_true,q2,q1,Qad,quoteP,Option.getD_some]
   generalize (x.Name==[])=a1
   generalize (x.N==0)=a3
   generalize zl x.L=a4
   generalize zl x.Then=a5
   generalize zl x.Else=a6
   cases q.2<;>cases a1<;>cases a3<;>cases a4<;>cases a5<;>cases a6<;>rfl
  have b1:(x.Kind==1)=false:=beq_eq_false_iff_ne.2 k1
  by_cases h10:x.Kind=10
  ·simp only[h10]; rfl
  have e10:(x.Kind==10)=false:=beq_eq_false_iff_ne.2 h10
  simp only[e10,b1,Bool.false_eq_true,if_false,Bool.false_or,Bool.true_or,Bool.true_and]
  generalize (x.Kind==2)=k2
  generalize (x.Kind==3)=k3
  generalize (x.Kind==4)=k4
  generalize (x.Kind==5)=k5
  generalize (x.Kind==6)=k6
  generalize (x.Kind==7)=k7
  generalize (x.Name==[])=a1
  generalize (x.Text==[])=a2
  generalize (x.N==0)=a3
  generalize (x.N==1)=a8
  generalize zl x.L=a4
  generalize zl x.Then=a5
  generalize zl x.Else=a6
  generalize nameP x.Name=n1
  generalize wordP x.Name=n2
  generalize (x.L.length==1)=l1
  generalize decide (x.L.length≤3)=l3
  generalize exprsP x.L=ex
  cases k2
  ·cases k3
   ·cases k4
    ·cases k5
     ·cases k6
      ·cases k7
       ·rfl
       ·cases n2<;>rfl
      ·cases n1<;>(try rfl)<;>cases l3<;>(try rfl)<;>cases ex<;>rfl
     ·cases n2<;>(try rfl)<;>cases l1<;>(try rfl)<;>cases ex<;>rfl
    ·cases n1<;>rfl
   ·cases a3<;>(try rfl)<;>cases a8<;>rfl
  ·rfl
def litB:List Qab→Bool
 | []=>false
 | x::_=>x.Kind==8
def badSt (x:Qab) (r:List Qab) (inn:Bool):Bool:=x.Kind==8&&(litB r||((!r.isEmpty||inn)&&endB x.Text))
mutual
noncomputable def stmtP:Qab→Bool
 | ⟨k,s,t,n,a,b,c⟩ =>
  if k==8 then !(t==[])&&(!(hasB t)&&(s==[]&&(n==0&&(zl a&&(zl b&&zl c))))) else
  if k==9 then(a.length==1&&exprsP a)&&(s==[]&&(t==[]&&(n==0&&(zl b&&zl c)))) else
  if k==10 then(a.length==1&&exprsP a)&&((blockP b true&&blockP c true)&&(s==[]&&(t==[]&&n==0))) else
  if k==11||k==12 then nameP s&&((a.length==1&&exprsP a)&&(blockP b true&&(t==[]&&(n==0&&zl c)))) else
  if k==13 then nameP s&&((a.length==1&&exprsP a)&&(t==[]&&(n==0&&(zl b&&zl c)))) else false
noncomputable def blockP:List Qab→Bool→Bool
 | [],_=>true
 | x::r,inn=>stmtP x&&(!(badSt x r inn)&&blockP r inn)
end
theorem Qst (x:Qab):stmtP x =
  if x.Kind==8 then !(x.Text==[])&&(!(hasB x.Text)&&(x.Name==[]&&(x.N==0&&(zl x.L&&(zl x.Then&&zl x.Else))))) else
  if x.Kind==9 then(x.L.length==1&&exprsP x.L)&&(x.Name==[]&&(x.Text==[]&&(x.N==0&&(zl x.Then&&zl x.Else)))) else
  if x.Kind==10 then(x.L.length==1&&exprsP x.L)&&((blockP x.Then true&&blockP x.Else true)&&(x.Name==[]&&(x.Text==[]&&x.N==0))) else
  if x.Kind==11||x.Kind==12 then nameP x.Name&&((x.L.length==1&&exprsP x.L)&&(blockP x.Then true&&(x.Text==[]&&(x.N==0&&zl x.Else)))) else
  if x.Kind==13 then nameP x.Name&&((x.L.length==1&&exprsP x.L)&&(x.Text==[]&&(x.N==0&&(zl x.Then&&zl x.Else)))) else false:=by cases x; rw[stmtP]
theorem Q7x {l:List Qab} (h:zl l=true):l=[]:=List.eq_nil_of_length_eq_zero (by simpa [zl] using h)
theorem Q1n (b:Bool):blockP [] b=true:=by rw[blockP]
theorem Q6j {x:Qab} (h:stmtP x=true) (hk:x.Kind=8):(x.Text==[])=false:=by
 rw[Qst,hk] at h
 simp only[beq_self_eq_true,if_true] at h
 cases ht:(x.Text==[]) with
 | false=>rfl
 | true=>rw[ht] at h; cases h
theorem lastI (k n:Nat) (hk:k<n) (hn:n<9223372036854775807):((k:Int)==wr ((n:Int)-1))=(k+1==n):=by
 have e:wr ((n:Int)-1)=((n-1:Nat):Int):=by rw[wr_in (by omega) (by omega)]; omega
 rw[e,eqN]
 by_cases h:k+1=n
 ·rw[beq_iff_eq.2 h,beq_iff_eq.2 (by omega)]
 ·rw[beq_eq_false_iff_ne.2 h,beq_eq_false_iff_ne.2 (by omega)]
theorem dropNil {l:List Qab} {k:Nat} (hk:k<l.length):(l.drop (k+1)).isEmpty=(k+1==l.length):=by
 by_cases h:k+1=l.length
 ·rw[List.drop_eq_nil_of_le (by omega),beq_iff_eq.2 h]; rfl
 ·rw[beq_eq_false_iff_ne.2 h,dropE (by omega:k+1<l.length)]; rfl
end Go.Proofs.YtfgegilhjlnohaaGreat
end

section
namespace Go.Proofs.YtfgegilhjlnohaaGreat
open Go.RowKit
theorem Q6k (l:List Qab) (k:Nat) (h:k+1<l.length):litB (l.drop (k+1))=(l[k+1].Kind==8):=by
 rw[dropE h]; rfl
section
variable (n:Nat) (hn:n<900000000) (ih:∀ x:Qab,nn x≤n→allN okNd x→Qnp x=some (stmtP x))
include hn ih
theorem tBlockL (l:List Qab) (h:nns l≤n) (ho:allL okNd l) (top:Bool):∀ k,k≤l.length→Qfd l top k=some (if blockP (l.drop k) (!top) then .inl () else .inr ()):=by
 have hl:=Qg0 l
 refine upto ?_ fun k hk ihk=>?_
 ·rw[Qfd]; simp[blockP]
 ·have hx:=Qit (List.getElem_mem hk)
  have ha:=Ql7 (List.getElem_mem hk) ho
  have htx:=((Qiu okNd l[k]).1 ha).1.tx
  rw[Qfd,Qas (by omega),ihk]
  simp only[ltI,hk,decide_true,if_true,Qaw,getE hk,Qad,ih l[k] (by omega) ha,lastI k l.length hk (by omega),tEnd l[k].Text (by omega)]
  rw[dropE hk,blockP,badSt]
  rw[dropNil hk]
  cases hs:stmtP l[k] with
  | false=>rfl
  | true =>
   cases h8:(l[k].Kind==8) with
   | false=>simp
   | true =>
    by_cases hlast:k+1=l.length
    ·have e1:(k+1==l.length)=true:=beq_iff_eq.2 hlast
     have e2:litB (l.drop (k+1))=false:=by rw[List.drop_eq_nil_of_le (by omega)]; rfl
     rw[e1,e2]
     cases top<;>cases endB l[k].Text<;>simp
    ·have e1:(k+1==l.length)=false:=beq_eq_false_iff_ne.2 hlast
     have hk1:k+1<l.length:=by omega
     rw[e1,Q6k l k hk1,getE hk1]
     simp only[Qad]
     cases (l[k+1].Kind==8)<;>cases endB l[k].Text<;>cases top<;>simp
theorem tBlock (l:List Qab) (h:nns l≤n) (ho:allL okNd l) (top:Bool):Qf8 l top=some (blockP l (!top)):=by
 have:=tBlockL n hn ih l h ho top 0 (by omega)
 rw[Qf8,show(0:Int)=((0:Nat):Int) from rfl,this,List.drop_zero]
 cases blockP l (!top)<;>rfl
end
theorem tStmt:∀ n (x:Qab),n<900000000→nn x≤n→allN okNd x→Qnp x=some (stmtP x):=by
 intro n
 induction n with
 | zero=>intro x _ h; have:=Qqk x; omega
 | succ n ih =>
  intro x hb h ho
  rw[nn_eq] at h
  obtain⟨hq,ho1,ho2,ho3⟩:=(Qiu okNd x).1 ho
  have hnm:=hq.nm
  have htx:=hq.tx
  have ih' := fun y=>ih y (by omega)
  have t1:=tBlock n (by omega) ih' x.Then (by omega) ho2 false
  have t2:=tBlock n (by omega) ih' x.Else (by omega) ho3 false
  have e2:(x.N != 0) = !(x.N==0):=rfl
  rw[Qnp,Qf7,Qst,tName x.Name (by omega),tHas x.Text (by omega),t1,t2]
  simp only[Qad,gI,e2,zI,oneI]
  obtain⟨ex,hex,hex2⟩:∃ ex:Bool,exprsP x.L=ex∧(x.L.length==1→(idx x.L 0>>=fun y=>Qd9 y)=some ex):=by
   refine⟨_,rfl,fun hl=>?_⟩
   obtain⟨y,hy⟩:=List.length_eq_one_iff.1 (by simpa using hl:x.L.length=1)
   have hy1:nn y≤n:=by have:=Qit (show y ∈ x.L by rw[hy]; simp); omega
   have hy2:allN okNd y:=Ql7 (show y ∈ x.L by rw[hy]; simp) ho1
   rw[hy]
   simp only[idx_0,List.getElem?_cons_zero,Qad,tExpr n y (by omega) hy1 hy2,exprsP,Bool.and_true]
  rw[hex]
  have hidx:∀ (f:Bool→Option Bool) (g:Qab→Option Bool),x.L.length=1→(∀ y,g y=Qd9 y>>=f)→(idx x.L 0>>=g)=f ex:=fun f g hl hg=>by
   have:=hex2 (by simpa using hl)
   obtain⟨y,hy⟩:=List.length_eq_one_iff.1 hl
   rw[hy] at this ⊢
   simp only[idx_0,List.getElem?_cons_zero,Qad] at this ⊢
   rw[hg,this,Qad]
  have nw:nameP x.Name=true→(x.Name==[])=false:=fun h=>Qus (Qns h)
  by_cases k8:x.Kind=8
  ·simp only[k8,beq_self_eq_true,if_true]
   generalize (x.Name==[])=a1
   generalize (x.Text==[])=a2
   generalize (x.N==0)=a3
   generalize zl x.L=a4
   generalize zl x.Then=a5
   generalize zl x.Else=a6
   generalize hasB x.Text=hh
   cases a1<;>(try (cases a2<;>cases hh<;>rfl))<;>cases a2<;>(try (cases hh<;>rfl))<;>cases a3<;>(try (cases hh<;>rfl))<;>cases a4<;>(try (cases hh<;>rfl))<;>cases a5<;>(try (cases hh<;>rfl))<;>cases a6<;>cases hh<;>rfl
  have b8:(x.Kind==8)=false:=beq_eq_false_iff_ne.2 k8
  have hE:x.L.length=1→(idx x.L 0>>=fun y=>Qd9 y>>=fun b=>if b=true then if blockP x.Then (!false)=true then some (blockP x.Else (!false)) else some false else some false)=some (ex&&(blockP x.Then true&&blockP x.Else true)):=fun hl=>by
   rw[hidx (fun b=>if b=true then if blockP x.Then (!false)=true then some (blockP x.Else (!false)) else some false else some false) _ hl fun y=>rfl]
   show(if ex=true then if blockP x.Then true=true then some (blockP x.Else true) else some false else some false)=_
   cases ex<;>cases blockP x.Then true<;>rfl
  have hb5:zl x.Then=true→blockP x.Then true=true:=fun h=>by rw[Q7x h,Q1n]
  have hb6:zl x.Else=true→blockP x.Else true=true:=fun h=>by rw[Q7x h,Q1n]
  have half:∀ w th ot nmd:Bool,(if(w==nmd)=true then if((!x.Name==[])==w&&((!x.Text==[])==false&&((!x.N==0)==false&&((!zl x.Then)==th&&((!zl x.Else)==ot&&(x.L.length==1&&true))))))=true then
    idx x.L 0>>=fun y=>Qd9 y>>=fun b=>if b=true then if blockP x.Then (!false)=true then some (blockP x.Else (!false)) else some false else some false else some false else some false) =
    some ((w==nmd)&&(((!x.Name==[])==w)&&((x.Text==[])&&((x.N==0)&&(((!zl x.Then)==th)&&(((!zl x.Else)==ot)&&((x.L.length==1)&&(ex&&(blockP x.Then true&&blockP x.Else true))))))))):=fun w th ot nmd=>by
   have e0:∀ b:Bool,((!b)==false)=b:=fun b=>by cases b<;>rfl
   simp only[e0]
   cases hl:(x.L.length==1) with
   | true =>
    rw[hE (by simpa using hl)]
    generalize (ex&&(blockP x.Then true&&blockP x.Else true))=q
    generalize ((!x.Name==[])==w)=q1
    generalize (x.Text==[])=q2
    generalize (x.N==0)=q3
    generalize ((!zl x.Then)==th)=q4
    generalize ((!zl x.Else)==ot)=q5
    generalize (w==nmd)=q6
    cases q6<;>(try rfl)<;>cases q1<;>(try rfl)<;>cases q2<;>(try rfl)<;>cases q3<;>(try rfl)<;>cases q4<;>(try rfl)<;>cases q5<;>rfl
   | false =>
    generalize ((!x.Name==[])==w)=q1
    generalize (x.Text==[])=q2
    generalize (x.N==0)=q3
    generalize ((!zl x.Then)==th)=q4
    generalize ((!zl x.Else)==ot)=q5
    generalize (w==nmd)=q6
    cases q6<;>(try rfl)<;>cases q1<;>(try rfl)<;>cases q2<;>(try rfl)<;>cases q3<;>(try rfl)<;>cases q4<;>(try rfl)<;>cases q5<;>rfl
  have bnd:∀ m:Option Bool,(m>>=fun o=>some o)=m:=fun m=>by cases m<;>rfl
  simp only[b8,Bool.false_eq_true,if_false]
  by_cases k9:x.Kind=9
  ·simp only[k9,beq_self_eq_true,if_true,Qad,show((9:Int)==11)=false from rfl,show((9:Int)==12)=false from rfl,show((9:Int)==13)=false from rfl,Bool.false_eq_true,if_false,bnd]
   have hh:=half false false false false
   simp only[beq_self_eq_true,if_true,Bool.true_and] at hh
   rw[hh]
   have e0:∀ b:Bool,((!b)==false)=b:=fun b=>by cases b<;>rfl
   simp only[e0]
   cases h5:zl x.Then with
   | false=>generalize (x.Name==[])=a1; generalize (x.Text==[])=a2; generalize (x.N==0)=a3; cases a1<;>cases a2<;>cases a3<;>simp
   | true=>cases h6:zl x.Else with
    | false=>generalize (x.Name==[])=a1; generalize (x.Text==[])=a2; generalize (x.N==0)=a3; cases a1<;>cases a2<;>cases a3<;>simp
    | true =>
     rw[hb5 h5,hb6 h6]
     generalize (x.Name==[])=a1; generalize (x.Text==[])=a2; generalize (x.N==0)=a3; generalize (x.L.length==1)=l1
     cases a1<;>cases a2<;>cases a3<;>cases l1<;>cases ex<;>rfl
  have b9:(x.Kind==9)=false:=beq_eq_false_iff_ne.2 k9
  simp only[b9,Bool.false_eq_true,if_false]
  by_cases k10:x.Kind=10
  ·simp only[k10,beq_self_eq_true,if_true,Qad,show((10:Int)==11)=false from rfl,show((10:Int)==12)=false from rfl,show((10:Int)==13)=false from rfl,Bool.false_eq_true,if_false,bnd]
   have hh:=half false (!zl x.Then) (!zl x.Else) false
   simp only[beq_self_eq_true,if_true,Bool.true_and] at hh ⊢
   rw[hh]
   have e0:∀ b:Bool,((!b)==false)=b:=fun b=>by cases b<;>rfl
   simp only[e0]
   generalize (x.Name==[])=a1; generalize (x.Text==[])=a2; generalize (x.N==0)=a3; generalize (x.L.length==1)=l1; generalize zl x.Then=a5; generalize zl x.Else=a6; generalize blockP x.Then true=bt; generalize blockP x.Else true=be
   cases a5<;>cases a6<;>cases a1<;>cases a2<;>cases a3<;>cases l1<;>cases ex<;>cases bt<;>cases be<;>rfl
  have b10:(x.Kind==10)=false:=beq_eq_false_iff_ne.2 k10
  simp only[b10,Bool.false_eq_true,if_false]
  have e11:(if(x.Kind==11)=true then some (x.Kind==11) else some (x.Kind==12):Option Bool)=some (x.Kind==11||x.Kind==12):=by cases (x.Kind==11)<;>rfl
  rw[e11]
  cases h11:(x.Kind==11||x.Kind==12) with
  | true =>
   have e12:(if(x.Kind==11)=true then some true else if(x.Kind==12)=true then some true else some (x.Kind==13):Option Bool)=some true:=by
    revert h11; cases (x.Kind==11)<;>cases (x.Kind==12)<;>intro h<;>first | rfl | cases h
   rw[e12]
   simp only[Qad,if_true,bnd]
   rw[half (nameP x.Name) (!zl x.Then) false true]
   have e0:∀ b:Bool,((!b)==false)=b:=fun b=>by cases b<;>rfl
   simp only[e0]
   cases hn:nameP x.Name with
   | false=>rfl
   | true =>
    rw[nw hn]
    cases h6:zl x.Else with
    | false=>generalize (x.Text==[])=a2; generalize (x.N==0)=a3; generalize zl x.Then=a5; cases a2<;>cases a3<;>cases a5<;>simp
    | true =>
     rw[hb6 h6]
     generalize (x.Text==[])=a2; generalize (x.N==0)=a3; generalize (x.L.length==1)=l1; generalize zl x.Then=a5; generalize blockP x.Then true=bt
     cases a5<;>cases a2<;>cases a3<;>cases l1<;>cases ex<;>cases bt<;>rfl
  | false =>
   have e12:(if(x.Kind==11)=true then some true else if(x.Kind==12)=true then some true else some (x.Kind==13):Option Bool)=some (x.Kind==13):=by
    revert h11; cases (x.Kind==11)<;>cases (x.Kind==12)<;>intro h<;>first | rfl | cases h
   rw[e12]
   simp only[Qad,Bool.false_eq_true,if_false]
   by_cases k13:x.Kind=13
   ·simp only[k13,beq_self_eq_true,if_true,Qad,bnd]
    rw[half (nameP x.Name) false false true]
    have e0:∀ b:Bool,((!b)==false)=b:=fun b=>by cases b<;>rfl
    simp only[e0]
    cases hn:nameP x.Name with
    | false=>rfl
    | true =>
     rw[nw hn]
     cases h5:zl x.Then with
     | false=>generalize (x.Text==[])=a2; generalize (x.N==0)=a3; cases a2<;>cases a3<;>simp
     | true=>cases h6:zl x.Else with
      | false=>generalize (x.Text==[])=a2; generalize (x.N==0)=a3; cases a2<;>cases a3<;>simp
      | true =>
       rw[hb5 h5,hb6 h6]
       generalize (x.Text==[])=a2; generalize (x.N==0)=a3; generalize (x.L.length==1)=l1
       cases a2<;>cases a3<;>cases l1<;>cases ex<;>rfl
   ·have b13:(x.Kind==13)=false:=beq_eq_false_iff_ne.2 k13
    simp only[b13,Bool.false_eq_true,if_false,Qad]
section
variable (n:Nat) (hn:n<900000000) (ih:∀ x:Qab,nn x≤n→allN okNd x→Qp5 x=some (stmtP x))
include hn ih
theorem rBlockL (l:List Qab) (h:nns l≤n) (ho:allL okNd l) (inn:Bool):∀ k,k≤l.length→Qev l inn k=some (if blockP (l.drop k) inn then .inl () else .inr ()):=by
 have hl:=Qg0 l
 refine upto ?_ fun k hk ihk=>?_
 ·rw[Qev]; simp[blockP]
 ·have hx:=Qit (List.getElem_mem hk)
  have ha:=Ql7 (List.getElem_mem hk) ho
  have htx:=((Qiu okNd l[k]).1 ha).1.tx
  rw[Qev,Qas (by omega),ihk]
  simp only[ltI,hk,decide_true,if_true,Qaw,getE hk,Qad,ih l[k] (by omega) ha,lastI k l.length hk (by omega)]
  rw[dropE hk,blockP,badSt]
  rw[dropNil hk]
  cases hs:stmtP l[k] with
  | false=>rfl
  | true =>
   cases h8:(l[k].Kind==8) with
   | false =>
    have:(l[k].Kind != 8)=true:=by rw[bne,h8]; rfl
    rw[this]
    simp
   | true =>
    have h8' : (l[k].Kind != 8)=false:=by rw[bne,h8]; rfl
    rw[h8', rEnd l[k].Text (by omega) (Q6j hs (by simpa using h8))]
    by_cases hlast:k+1=l.length
    ·have e1:(k+1==l.length)=true:=beq_iff_eq.2 hlast
     have e2:litB (l.drop (k+1))=false:=by rw[List.drop_eq_nil_of_le (by omega)]; rfl
     rw[e1,e2]
     cases inn<;>cases endB l[k].Text<;>simp
    ·have e1:(k+1==l.length)=false:=beq_eq_false_iff_ne.2 hlast
     have hk1:k+1<l.length:=by omega
     rw[e1,Q6k l k hk1,getE hk1]
     simp only[Qad]
     cases (l[k+1].Kind==8)<;>cases endB l[k].Text<;>cases inn<;>simp
theorem rBlock (l:List Qab) (h:nns l≤n) (ho:allL okNd l) (inn:Bool):Qgu l inn=some (blockP l inn):=by
 have:=rBlockL n hn ih l h ho inn 0 (by omega)
 rw[Qgu,show(0:Int)=((0:Nat):Int) from rfl,this,List.drop_zero]
 cases blockP l inn<;>rfl
end
theorem rStmt:∀ n (x:Qab),n<900000000→nn x≤n→allN okNd x→Qp5 x=some (stmtP x):=by
 intro n
 induction n with
 | zero=>intro x _ h; have:=Qqk x; omega
 | succ n ih =>
  intro x hb h ho
  rw[nn_eq] at h
  obtain⟨hq,ho1,ho2,ho3⟩:=(Qiu okNd x).1 ho
  have hnm:=hq.nm
  have htx:=hq.tx
  have hll:=Qg0 x.L
  have ih' := fun y=>ih y (by omega)
  have t1:=rBlock n (by omega) ih' x.Then (by omega) ho2 true
  have t2:=rBlock n (by omega) ih' x.Else (by omega) ho3 true
  have hex:=rExprs n (fun y hy=>rExpr n y (by omega) hy) x.L (by omega) ho1 (by omega)
  rw[Qp5,Qst,rName x.Name (by omega),rStands x.Text (by omega),t1,t2,hex]
  simp only[Qad,oneI,rBare,bareB]
  have e1:(if(x.L.length==1)=true then some (exprsP x.L) else some false:Option Bool)=some (x.L.length==1&&exprsP x.L):=by cases (x.L.length==1)<;>rfl
  rw[e1]
  simp only[Qad]
  generalize (x.L.length==1&&exprsP x.L)=one
  by_cases k8:x.Kind=8
  ·have e10:(x.Kind==10)=false:=beq_eq_false_iff_ne.2 (by omega)
   simp only[e10]
   simp only[k8,beq_self_eq_true,if_true]
   generalize (x.Name==[])=a1
   generalize (x.Text==[])=a2
   generalize (x.N==0)=a3
   generalize zl x.L=a4
   generalize zl x.Then=a5
   generalize zl x.Else=a6
   generalize hasB x.Text=hh
   cases a2<;>(try rfl)<;>cases hh<;>(try rfl)<;>cases a1<;>(try rfl)<;>cases a3<;>rfl
  have b8:(x.Kind==8)=false:=beq_eq_false_iff_ne.2 k8
  simp only[b8,Bool.false_eq_true,if_false]
  by_cases k10:x.Kind=10
  ·simp only[k10,beq_self_eq_true,if_true,show((10:Int)==9)=false from rfl,Bool.false_eq_true,if_false]
   generalize (x.Name==[])=a1
   generalize (x.Text==[])=a2
   generalize (x.N==0)=a3
   generalize blockP x.Then true=bt
   generalize blockP x.Else true=be
   generalize zl x.L=a4
   generalize zl x.Then=a5
   generalize zl x.Else=a6
   cases one<;>(try rfl)<;>cases bt<;>(try rfl)<;>cases be<;>(try rfl)<;>cases a1<;>(try rfl)<;>cases a2<;>(try rfl)<;>cases a3<;>rfl
  have b10:(x.Kind==10)=false:=beq_eq_false_iff_ne.2 k10
  simp only[b10,Bool.false_eq_true,if_false]
  have e11:(if(x.Kind==11)=true then some (x.Kind==11) else some (x.Kind==12):Option Bool)=some (x.Kind==11||x.Kind==12):=by cases (x.Kind==11)<;>rfl
  rw[e11]
  simp only[Qad]
  have nw:nameP x.Name=true→(x.Name==[])=false:=fun h=>Qus (Qns h)
  generalize (x.Kind==9)=k9
  generalize (x.Kind==11||x.Kind==12)=k11
  generalize (x.Kind==13)=k13
  generalize (x.Name==[])=a1
  generalize nameP x.Name=nm
  generalize (x.Text==[])=a2
  generalize (x.N==0)=a3
  generalize blockP x.Then true=bt
  generalize blockP x.Else true=be
  generalize zl x.L=a4
  generalize zl x.Then=a5
  generalize zl x.Else=a6
  cases k9
  ·cases k11
   ·cases k13
    ·rfl
    ·cases nm<;>(try rfl)<;>cases one<;>(try rfl)<;>cases a2<;>(try rfl)<;>cases a3<;>rfl
   ·cases nm<;>(try rfl)<;>cases one<;>(try rfl)<;>cases bt<;>(try rfl)<;>cases a2<;>(try rfl)<;>cases a3<;>rfl
  ·cases one<;>(try rfl)<;>cases a1<;>(try rfl)<;>cases a2<;>(try rfl)<;>cases a3<;>rfl
end Go.Proofs.YtfgegilhjlnohaaGreat
end

section
namespace Go.Proofs.YtfgegilhjlnohaaGreat
open Go.RowKit
def maxD (l:List (Qab×Int)) (m:Int):Int:=l.foldl (fun m x=>if x.2>m then x.2 else m) m
theorem Qsu (a b:List (Qab×Int)) (m:Int):maxD (a++b) m=maxD b (maxD a m):=by unfold maxD; rw[List.foldl_append]
theorem tDeepL (x1:List Qab×Int):∀ (l:List (Qab×Int)) (m:Int),Qd2 x1 l m=some (maxD l m)
 | [],m=>by rw[Qd2]; rfl
 | x::r,m=>by rw[Qd2,tDeepL x1 r]; rfl
theorem tCountL (x1:List Qab×Int):∀ (l:List (Qab×Int)) (m:Nat),m+l.length<9223372036854775807→Qdf x1 l m=some ((m+l.length:Nat):Int)
 | [],m,_=>by rw[Qdf]; rfl
 | x::r,m,h=>by
  simp at h
  rw[Qdf,Qas (by omega),tCountL x1 r (m+1) (by omega)]
  simp; omega
theorem tAll3 (p0:List Qab) (p1 v12:Int) (x3:Qab) (v28:Int) (x7:List Qab×Int):∀ l:List (Qab×Int),Qdg p0 p1 v12 x3 v28 x7 l=some (l,())
 | []=>by rw[Qdg]
 | x::r=>by
  obtain⟨⟨k,s,t,n,a,b,c⟩,d⟩:=x
  rw[Qdg,tAll3 p0 p1 v12 x3 v28 x7 r]; rfl
def AllIs (d:Nat) (k dep:Nat) (o:Option (List (Qab×Int)×Unit)):Prop:=∃ out,o=some (out,())∧out.length=k∧∀ m:Int,(d:Int)-1≤m→maxD out m=max m ((d:Int)-1+dep)
section
variable (n:Nat) (ih:∀ (l:List Qab) (d:Nat),nns l≤n→n+d≤1000000000→AllIs d (nns l) (dps l) (Qec l d))
include ih
theorem tAll2 (l:List Qab) (d:Nat) (v:Int) (x:Qab) (hx:nn x≤n+1) (hd:n+1+d≤1000000000) :
  AllIs (d+1) (nns x.L+nns x.Then+nns x.Else) (max (dps x.L) (max (dps x.Then) (dps x.Else))) (Qbt l d v x 0):=by
 rw[nn_eq] at hx
 have ed:wr ((d:Int)+1)=((d+1:Nat):Int):=Qas (by omega)
 obtain⟨o1,a1,a2,a3⟩:=ih x.L (d+1) (by omega) (by omega)
 obtain⟨o2,b1,b2,b3⟩:=ih x.Then (d+1) (by omega) (by omega)
 obtain⟨o3,c1,c2,c3⟩:=ih x.Else (d+1) (by omega) (by omega)
 have s3:Qbt l d v x 3=some ([],()):=by rw[Qbt]; rfl
 have s2:Qbt l d v x 2=some (o3++[],()):=by
  rw[Qbt]
  have e:wr ((2:Int)+1)=3:=by rw[wr_in (by omega) (by omega)]; rfl
  have g:idx ([x.L,x.Then,x.Else]:List (List Qab)) 2=some x.Else:=Q2o _ 2
  rw[g,e,s3]
  simp only[Qad,Qh3,ed,c1,tAll3,show decide ((2:Int)<3)=true from rfl,if_true]
 have s1:Qbt l d v x 1=some (o2++(o3++[]),()):=by
  rw[Qbt]
  have e:wr ((1:Int)+1)=2:=by rw[wr_in (by omega) (by omega)]; rfl
  have g:idx ([x.L,x.Then,x.Else]:List (List Qab)) 1=some x.Then:=Q2o _ 1
  rw[g,e,s2]
  simp only[Qad,Qh3,ed,b1,tAll3,show decide ((1:Int)<3)=true from rfl,if_true]
 have s0:Qbt l d v x 0=some (o1++(o2++(o3++[])),()):=by
  rw[Qbt]
  have e:wr ((0:Int)+1)=1:=by rw[wr_in (by omega) (by omega)]; rfl
  have g:idx ([x.L,x.Then,x.Else]:List (List Qab)) 0=some x.L:=Q2o _ 0
  rw[g,e,s1]
  simp only[Qad,Qh3,ed,a1,tAll3,show decide ((0:Int)<3)=true from rfl,if_true]
 refine⟨_,s0,by simp; omega,fun m hm=>?_⟩
 rw[List.append_nil,Qsu,Qsu,a3 m hm,b3 _ (by omega),c3 _ (by omega)]
 omega
theorem tAll1 (l:List Qab) (d:Nat) (hl:nns l≤n+1) (hd:n+1+d≤1000000000):∀ k,k≤l.length→AllIs d (nns (l.drop k)) (dps (l.drop k)) (Qd7 l d k):=by
 have hlen:=Qg0 l
 refine upto ?_ fun k hk ihk=>?_
 ·rw[Qd7,List.drop_length]
  refine⟨[],by simp,by simp[nns],fun m hm=>?_⟩
  simp[maxD,dps]; omega
 ·have hx:=Qit (List.getElem_mem hk)
  obtain⟨o1,a1,a2,a3⟩:=tAll2 n ih l d k l[k] (by omega) hd
  obtain⟨o2,b1,b2,b3⟩:=ihk
  rw[Qd7,Qas (by omega)]
  simp only[ltI,hk,decide_true,if_true,Qaw,getE hk,Qad,a1,b1]
  rw[dropE hk]
  refine⟨_,rfl,?_,fun m hm=>?_⟩
  ·simp[nns,nn_eq,a2,b2]; omega
  ·show maxD ([(l[k],(d:Int))]++(o1++o2)) m=_
   have e0:maxD [(l[k],(d:Int))] m=max m d:=by
    show(if(d:Int)>m then(d:Int) else m)=_
    split<;>omega
   rw[Qsu,Qsu,e0,a3 _ (by omega),b3 _ (by omega),dps,dp_eq]
   omega
end
theorem tAll:∀ n (l:List Qab) (d:Nat),nns l≤n→n+d≤1000000000→AllIs d (nns l) (dps l) (Qec l d):=by
 intro n
 induction n with
 | zero =>
  intro l d h _
  have hl:l=[]:=List.eq_nil_of_length_eq_zero (by have:=Qg0 l; omega)
  subst hl
  rw[Qec,Qd7]
  refine⟨[],by simp,by simp[nns],fun m hm=>?_⟩
  simp[maxD,dps]; omega
 | succ n ih =>
  intro l d h hd
  obtain⟨o,a1,a2,a3⟩:=tAll1 n ih l d h hd 0 (by omega)
  rw[List.drop_zero] at a2 a3
  refine⟨o,?_,a2,a3⟩
  rw[Qec,show(0:Int)=((0:Nat):Int) from rfl,a1]
  simp
theorem tDeep (l:List Qab) (h:nns l≤900000000):Qnn l=some (dps l:Int):=by
 obtain⟨o,a1,a2,a3⟩:=tAll 900000000 l 1 h (by omega)
 rw[Qnn,Qh3]
 simp only[Qad]
 rw[show(1:Int)=((1:Nat):Int) from rfl,a1]
 simp only[Qad,tDeepL]
 rw[a3 0 (by omega)]
 congr 1
 omega
theorem tCount (l:List Qab) (h:nns l≤900000000):Qlg l=some (nns l:Int):=by
 obtain⟨o,a1,a2,a3⟩:=tAll 900000000 l 1 h (by omega)
 have:=tCountL (l,((1:Nat):Int)) o 0 (by omega)
 rw[Qlg,Qh3]
 simp only[Qad]
 rw[show(1:Int)=((1:Nat):Int) from rfl,a1]
 simp only[Qad]
 rw[show(0:Int)=((0:Nat):Int) from rfl,this]
 simp[a2]
theorem Q6l:∀ m (l:List Qab),nns l≤m→dps l≤nns l:=by
 intro m
 induction m with
 | zero =>
  intro l h
  have hl:l=[]:=List.eq_nil_of_length_eq_zero (by have:=Qg0 l; omega)
  subst hl; simp[dps]
 | succ m ihm =>
  intro l
  induction l with
  | nil=>intro _; simp[dps]
  | cons x r ihr =>
   intro h
   rw[nns,nn_eq] at h
   have h1:=ihm x.L (by omega)
   have h2:=ihm x.Then (by omega)
   have h3:=ihm x.Else (by omega)
   have h4:=ihr (by omega)
   rw[dps,dp_eq,nns,nn_eq]
   omega
section
variable (n:Nat) (hn:n≤900000000) (ih:∀ l:List Qab,nns l≤n→Qgt l=some (dps l:Int)∧Qet l=some (nns l:Int))
include hn ih
theorem rDeepL (l:List Qab) (h:nns l≤n+1):∀ k,k≤l.length→∀ v:Nat,v≤1000000000→Qfx l v k=some ((max v (dps (l.drop k)):Nat):Int):=by
 have hl:=Qg0 l
 refine upto ?_ fun k hk ihk=>?_
 ·intro v _; rw[Qfx]; simp[dps]
 ·intro v hv
  have hx:=Qit (List.getElem_mem hk)
  rw[nn_eq] at hx
  have d1:=Q6l _ l[k].L (Nat.le_refl _)
  have d2:=Q6l _ l[k].Then (Nat.le_refl _)
  have d3:=Q6l _ l[k].Else (Nat.le_refl _)
  have em:(if(dps l[k].Else:Int)>(if(dps l[k].Then:Int)>(dps l[k].L:Int) then(dps l[k].Then:Int) else(dps l[k].L:Int)) then(dps l[k].Else:Int) else(if(dps l[k].Then:Int)>(dps l[k].L:Int) then(dps l[k].Then:Int) else(dps l[k].L:Int)))=((max (dps l[k].L) (max (dps l[k].Then) (dps l[k].Else)):Nat):Int):=by
   split<;>split at * <;> omega
  rw[Qfx,Qas (by omega)]
  simp only[ltI,hk,decide_true,if_true,Qaw,getE hk,Qad,(ih l[k].L (by omega)).1,(ih l[k].Then (by omega)).1,(ih l[k].Else (by omega)).1]
  rw[em]
  have ew:wr (1+((max (dps l[k].L) (max (dps l[k].Then) (dps l[k].Else)):Nat):Int))=((dp l[k]:Nat):Int):=by
   rw[wr_in (by omega) (by omega),dp_eq]; omega
  rw[ew]
  have ei:(if((dp l[k]:Nat):Int)>(v:Int) then((dp l[k]:Nat):Int) else(v:Int))=((max v (dp l[k]):Nat):Int):=by split<;>omega
  have hdp:dp l[k]≤1000000000:=by rw[dp_eq]; omega
  rw[ei,ihk (max v (dp l[k])) (by omega),dropE hk,dps]
  congr 2
  omega
theorem rCountL (l:List Qab) (h:nns l≤n+1):∀ k,k≤l.length→∀ v:Nat,v+nns (l.drop k)≤1000000000→Qeu l v k=some ((v+nns (l.drop k):Nat):Int):=by
 have hl:=Qg0 l
 refine upto ?_ fun k hk ihk=>?_
 ·intro v _; rw[Qeu]; simp[nns]
 ·intro v hv
  have hx:=Qit (List.getElem_mem hk)
  rw[nn_eq] at hx
  rw[dropE hk,nns,nn_eq] at hv
  rw[Qeu,Qas (i:=k) (by omega)]
  simp only[ltI,hk,decide_true,if_true,Qaw,getE hk,Qad,(ih l[k].L (by omega)).2,(ih l[k].Then (by omega)).2,(ih l[k].Else (by omega)).2]
  have ew:wr ((wr ((wr ((wr ((v:Int)+1))+(nns l[k].L:Int)))+(nns l[k].Then:Int)))+(nns l[k].Else:Int))=((v+nn l[k]:Nat):Int):=by
   rw[wr_in (n:=(v:Int)+1) (by omega) (by omega),wr_in (n:=(v:Int)+1+(nns l[k].L:Int)) (by omega) (by omega),wr_in (n:=(v:Int)+1+(nns l[k].L:Int)+(nns l[k].Then:Int)) (by omega) (by omega),wr_in (by omega) (by omega),nn_eq]
   omega
  rw[ew,ihk (v+nn l[k]) (by rw[nn_eq]; omega),dropE hk,nns]
  congr 2
  omega
end
theorem rDC:∀ n (l:List Qab),n≤900000000→nns l≤n→Qgt l=some (dps l:Int)∧Qet l=some (nns l:Int):=by
 intro n
 induction n with
 | zero =>
  intro l _ h
  have hl:l=[]:=List.eq_nil_of_length_eq_zero (by have:=Qg0 l; omega)
  subst hl
  rw[Qgt,Qet,Qfx,Qeu]
  simp[dps,nns]
 | succ n ih =>
  intro l hn h
  have h1:=rDeepL n (by omega) (fun l hl=>ih l (by omega) hl) l h 0 (by omega) 0 (by omega)
  have h2:=rCountL n (by omega) (fun l hl=>ih l (by omega) hl) l h 0 (by omega) 0 (by rw[List.drop_zero]; omega)
  rw[Qgt,Qet,show(0:Int)=((0:Nat):Int) from rfl,h1,h2]
  simp
noncomputable def isP (l:List Qab):Bool:=decide (dps l≤12)&&(decide (nns l≤1024)&&blockP l false)
theorem tIs (l:List Qab) (h:nns l≤800000000) (ho:allL okNd l):Qup l=some (isP l):=by
 have e1:decide ((dps l:Int)≤12)=decide (dps l≤12):=leN _ 12
 have e2:decide ((nns l:Int)≤1024)=decide (nns l≤1024):=leN _ 1024
 have hb:=tBlock 800000000 (by omega) (fun x hx=>tStmt 800000000 x (by omega) hx) l h ho true
 rw[Qup,tDeep l (by omega),tCount l (by omega),hb,isP]
 simp only[Qad,e1,e2]
 cases decide (dps l≤12)<;>cases decide (nns l≤1024)<;>rfl
theorem rIs (l:List Qab) (h:nns l≤800000000) (ho:allL okNd l):Q1a l=some (isP l):=by
 have e1:decide ((dps l:Int)≤12)=decide (dps l≤12):=leN _ 12
 have e2:decide ((nns l:Int)≤1024)=decide (nns l≤1024):=leN _ 1024
 have hb:=rBlock 800000000 (by omega) (fun x hx=>rStmt 800000000 x (by omega) hx) l h ho false
 obtain⟨hd,hc⟩:=rDC 800000000 l (by omega) h
 rw[Q1a,hd,hc,hb,isP]
 simp only[Qad,e1,e2]
 cases decide (dps l≤12)<;>cases decide (nns l≤1024)<;>cases blockP l false<;>rfl
end Go.Proofs.YtfgegilhjlnohaaGreat
end

section
namespace Go.Proofs.YtfgegilhjlnohaaGreat
open Go.RowKit
def Puts (w:List UInt8) (acc:List Int) (o:Option (Bool×List Int)):Prop:=∃ f,o=some (f,acc++s2b w)
abbrev room:Nat:=100000000000
theorem Puts.seq {w1 w2:List UInt8} {acc:List Int} {o:Option (Bool×List Int)} {g:Bool×List Int→Option (Bool×List Int)} (h:Puts w1 acc o) (k:∀ f,Puts w2 (acc++s2b w1) (g (f,acc++s2b w1))):Puts (w1++w2) acc (o>>=g):=by
 obtain⟨f,rfl⟩:=h
 obtain⟨f', hf⟩:=k f
 refine⟨f', ?_⟩
 rw[Qad,hf,Q6i,List.append_assoc]
theorem Puts.ret {w:List UInt8} {acc:List Int} {o:Option (Bool×List Int)} (h:Puts w acc o):Puts w acc (o>>=fun x=>some (x.1,x.2)):=by
 obtain⟨f,rfl⟩:=h
 exact⟨f,rfl⟩
section
end
end Go.Proofs.YtfgegilhjlnohaaGreat
end

section
namespace Go.Proofs.YtfgegilhjlnohaaGreat
open Go.RowKit
def contB (c:UInt8):Bool:=decide (128≤c.toNat)&&decide (c.toNat<192)
def runeB (n:Nat):Bool:=decide (n≤1114111) && !(decide (55296≤n)&&decide (n≤57343))
def nextC (c:UInt8) (r:List UInt8):Nat×Nat :=
  if c.toNat<128 then(c.toNat,1)
  else if 192≤c.toNat∧c.toNat<224 then
   match r with
   | c1::_=>if contB c1=true∧128≤(c.toNat-192)*64+(c1.toNat-128) then((c.toNat-192)*64+(c1.toNat-128),2) else(65533,1)
   | _=>(65533,1)
  else if 224≤c.toNat∧c.toNat<240 then
   match r with
   | c1::c2::_=>if contB c1=true∧contB c2=true∧2048≤((c.toNat-224)*64+(c1.toNat-128))*64+(c2.toNat-128)∧runeB (((c.toNat-224)*64+(c1.toNat-128))*64+(c2.toNat-128))=true then(((c.toNat-224)*64+(c1.toNat-128))*64+(c2.toNat-128),3) else(65533,1)
   | _=>(65533,1)
  else if 240≤c.toNat∧c.toNat<248 then
   match r with
   | c1::c2::c3::_=>if contB c1=true∧contB c2=true∧contB c3=true∧65536≤(((c.toNat-240)*64+(c1.toNat-128))*64+(c2.toNat-128))*64+(c3.toNat-128)∧runeB ((((c.toNat-240)*64+(c1.toNat-128))*64+(c2.toNat-128))*64+(c3.toNat-128))=true then((((c.toNat-240)*64+(c1.toNat-128))*64+(c2.toNat-128))*64+(c3.toNat-128),4) else(65533,1)
   | _=>(65533,1)
  else(65533,1)
def nextP:List UInt8→Nat×Nat
 | []=>(0,0)
 | c::r=>nextC c r
theorem Qut {n:Int} (h1 : -2147483648≤n) (h2:n≤2147483647):IntKind.i32.wrap n=n:=by
 simp[IntKind.wrap,IntKind.bits,IntKind.signed]
 omega
theorem u8_in {n:Int} (h1:0≤n) (h2:n≤255):IntKind.u8.wrap n=n:=by
 simp[IntKind.wrap,IntKind.bits,IntKind.signed]
 omega
theorem and63:∀ c:Fin 256,bits .and .u8 ((c.1:Nat):Int) 63=((c.1 % 64:Nat):Int):=by decide +kernel
theorem and192:∀ c:Fin 256,(bits .and .u8 ((c.1:Nat):Int) 192 != 128) = !(decide (128≤c.1)&&decide (c.1<192)):=by decide +kernel
theorem and31:∀ c:Fin 256,bits .and .u8 ((c.1:Nat):Int) 31=((c.1 % 32:Nat):Int):=by decide +kernel
theorem and15:∀ c:Fin 256,bits .and .u8 ((c.1:Nat):Int) 15=((c.1 % 16:Nat):Int):=by decide +kernel
theorem and7:∀ c:Fin 256,bits .and .u8 ((c.1:Nat):Int) 7=((c.1 % 8:Nat):Int):=by decide +kernel
theorem or64 (a b:Nat) (ha:a<1000000) (hb:b<64):bits .or .i32 (IntKind.i32.wrap ((a:Int)*2 ^ (min (6:Int).toNat (IntKind.i32.bits)))) (IntKind.i32.wrap (b:Int))=((a*64+b:Nat):Int):=by
 have e1:IntKind.i32.wrap ((a:Int)*2 ^ (min (6:Int).toNat (IntKind.i32.bits)))=((a*64:Nat):Int):=by
  have:(min (6:Int).toNat (IntKind.i32.bits))=6:=rfl
  rw[this,Qut (by omega) (by omega)]; omega
 rw[e1,Qut (by omega) (by omega)]
 have e2:(2:Nat) ^ 6*a+b=2 ^ 6*a ||| b:=Nat.two_pow_add_eq_or_of_lt (by omega) a
 have e3:a*64 ||| b=a*64+b:=by
  have:(2:Nat) ^ 6*a=a*64:=by omega
  rw[this] at e2; omega
 show IntKind.i32.wrap ((BitVec.ofInt 32 ((a*64:Nat):Int) ||| BitVec.ofInt 32 (b:Int)).toNat:Int)=_
 rw[BitVec.toNat_or,BitVec.ofInt_natCast,BitVec.ofInt_natCast,BitVec.toNat_ofNat,BitVec.toNat_ofNat,Nat.mod_eq_of_lt (by omega),Nat.mod_eq_of_lt (by omega),e3,Qut (by omega) (by omega)]
theorem b63 (c:UInt8):bits .and .u8 (c.toNat:Int) 63=((c.toNat % 64:Nat):Int):=and63 ⟨c.toNat,c.toNat_lt⟩
theorem b192 (c:UInt8):(bits .and .u8 (c.toNat:Int) 192 != 128) = !contB c:=and192 ⟨c.toNat,c.toNat_lt⟩
theorem b31 (c:UInt8):bits .and .u8 (c.toNat:Int) 31=((c.toNat % 32:Nat):Int):=and31 ⟨c.toNat,c.toNat_lt⟩
theorem b15 (c:UInt8):bits .and .u8 (c.toNat:Int) 15=((c.toNat % 16:Nat):Int):=and15 ⟨c.toNat,c.toNat_lt⟩
theorem b7 (c:UInt8):bits .and .u8 (c.toNat:Int) 7=((c.toNat % 8:Nat):Int):=and7 ⟨c.toNat,c.toNat_lt⟩
theorem Q7m {c:UInt8} (h:contB c=true):c.toNat % 64=c.toNat-128:=by
 unfold contB at h
 simp at h
 omega
def tailP:Nat→List UInt8→Nat→Option Nat
 | 0,_,v=>some v
 | _+1,[],_=>none
 | m+1,c::r,v=>if contB c=true then tailP m r (v*64+(c.toNat-128)) else none
set_option maxRecDepth 20000 in
theorem tTailL (l:List UInt8) (m:Nat) (hm:m≤l.length) (hm3:m≤3):∀ (d k v:Nat),k+d=m→((k=0→v<64)∧(k≤1→v<4096)∧(k≤2→v<262144)) →
  Qe0 l m v k=some (match tailP d (l.drop k) v with | some n =>.inl (n:Int) | none =>.inr ()):=by
 intro d
 induction d with
 | zero =>
  intro k v hk _
  rw[Qe0,ltI,decide_eq_false (by omega:¬ k<m)]
  rfl
 | succ d ih =>
  intro k v hk hv
  have hkl:k<l.length:=by omega
  have:decide ((k:Int)<(m:Int))=true:=decide_eq_true (by omega)
  rw[Qe0]
  simp only[this,if_true,Qaw,getE hkl,Qad,b192,b63]
  rw[or64 v _ (by omega) (Nat.mod_lt _ (by omega)),Qas (by omega),dropE hkl]
  unfold tailP
  cases hc:contB l[k] with
  | false=>rfl
  | true =>
   rw[Q7m hc]
   have hlt:l[k].toNat-128<64:=by unfold contB at hc; simp at hc; omega
   have hv2:(k+1=0→v*64+(l[k].toNat-128)<64)∧(k+1≤1→v*64+(l[k].toNat-128)<4096)∧(k+1≤2→v*64+(l[k].toNat-128)<262144):=by omega
   simp only[Bool.not_true,Bool.false_eq_true,if_false,if_true]
   exact ih (k+1) _ (by omega) hv2
theorem tTail (l:List UInt8) (m v:Nat) (hm3:m≤3) (hv:v<64):Qn6 l v m=some (match (if l.length<m then none else tailP m l v) with | some n=>((n:Int),true) | none=>(0,false)):=by
 rw[Qn6,ltI]
 by_cases h:l.length<m
 ·rw[decide_eq_true h,if_pos h]; rfl
 ·rw[decide_eq_false h,if_neg h]
  have:=tTailL l m (by omega) hm3 m 0 v (by omega) (by omega)
  rw[List.drop_zero] at this
  rw[show(0:Int)=((0:Nat):Int) from rfl,this]
  cases tailP m l v<;>rfl
theorem tIsR (n:Nat):Qwz (n:Int)=some (runeB n):=by
 have a:decide ((n:Int) ≥ 0)=true:=decide_eq_true (by omega)
 have b:decide ((n:Int)≤1114111)=decide (n≤1114111):=by
  by_cases h:n≤1114111
  ·rw[decide_eq_true h,decide_eq_true (by omega)]
  ·rw[decide_eq_false h,decide_eq_false (by omega)]
 rw[Qwz,a,b,runeB]
 by_cases h1:n<55296
 ·rw[decide_eq_true (show(n:Int)<55296 by omega),decide_eq_true (show n≤1114111 by omega),decide_eq_false (show ¬ 55296≤n by omega)]; rfl
 ·rw[decide_eq_false (show ¬ (n:Int)<55296 by omega),decide_eq_true (show 55296≤n by omega)]
  by_cases h2:n≤57343
  ·rw[decide_eq_false (show ¬ (n:Int)>57343 by omega),decide_eq_true h2,decide_eq_true (show n≤1114111 by omega)]; rfl
  ·rw[decide_eq_true (show(n:Int)>57343 by omega),decide_eq_false h2]
   cases decide (n≤1114111)<;>rfl
theorem rIsR (n:Nat):Qlz (n:Int)=some (runeB n):=by
 have a:decide ((n:Int) ≥ 0)=true:=decide_eq_true (by omega)
 have b:decide ((n:Int)≤1114111)=decide (n≤1114111):=by
  by_cases h:n≤1114111
  ·rw[decide_eq_true h,decide_eq_true (by omega)]
  ·rw[decide_eq_false h,decide_eq_false (by omega)]
 have c:decide ((n:Int) ≥ 55296)=decide (55296≤n):=by
  by_cases h:55296≤n
  ·rw[decide_eq_true h,decide_eq_true (by omega)]
  ·rw[decide_eq_false h,decide_eq_false (by omega)]
 have d:decide ((n:Int)≤57343)=decide (n≤57343):=by
  by_cases h:n≤57343
  ·rw[decide_eq_true h,decide_eq_true (by omega)]
  ·rw[decide_eq_false h,decide_eq_false (by omega)]
 rw[Qlz,a,b,c,d,runeB]
 cases decide (n≤1114111)<;>cases decide (55296≤n)<;>cases decide (n≤57343)<;>rfl
theorem ltC (c:UInt8) (k:Nat):decide ((c.toNat:Int)<(k:Int))=decide (c.toNat<k):=ltI _ _
theorem geC (c:UInt8) (k:Nat):decide ((c.toNat:Int) ≥ (k:Int))=decide (k≤c.toNat):=by
 by_cases h:k≤c.toNat
 ·rw[decide_eq_true h,decide_eq_true (by omega)]
 ·rw[decide_eq_false h,decide_eq_false (by omega)]
def endP (o:Option Nat) (least m:Nat):Nat×Nat:=match o with
 | some n=>if least≤n∧runeB n=true then(n,m+1) else(65533,1)
 | none=>(65533,1)
set_option maxRecDepth 20000 in
theorem tNext (s:List UInt8) (k:Nat) (hk:k<s.length) (hs:s.length<9223372036854775807):Qp9 s k=some (((nextP (s.drop k)).1:Int),((nextP (s.drop k)).2:Int)):=by
 have d1:decide ((k:Int)<0)=false:=decide_eq_false (by omega)
 have d2:decide ((k:Int) ≥ (s.length:Int))=false:=decide_eq_false (by omega)
 have hc:=s[k].toNat_lt
 have hr:cutL s (wr ((k:Int)+1)) (s.length:Int)=some (s.drop (k+1)):=by
  rw[Qas (by omega),Qki (by omega) (by omega) (by omega)]
  simp
 rw[Qp9,d1,d2,hr,dropE hk]
 have l128:=ltC s[k] 128
 have g192:=geC s[k] 192
 have l224:=ltC s[k] 224
 have g224:=geC s[k] 224
 have l240:=ltC s[k] 240
 have g240:=geC s[k] 240
 have l248:=ltC s[k] 248
 have b1:∀ a b:Bool,(if a=true then some b else some false:Option Bool)=some (a&&b):=fun a b=>by cases a<;>rfl
 simp only[Bool.false_eq_true,if_false,Qad,Qaw,getE hk]
 rw[show(128:Int)=((128:Nat):Int) from rfl,show(192:Int)=((192:Nat):Int) from rfl,show(224:Int)=((224:Nat):Int) from rfl,show(240:Int)=((240:Nat):Int) from rfl,show(248:Int)=((248:Nat):Int) from rfl,l128,g192,l224,g224,l240,g240,l248]
 simp only[b1,Qad]
 rw[nextP]
 unfold nextC
 have fin:∀ (v least m:Nat),m≤3→v<64→(Qn6 (s.drop (k+1)) (v:Int) (m:Int)>>=fun x10 =>
   (if(!x10.2)=true then some true else if decide (x10.1<(least:Int))=true then some true else Qwz x10.1>>=fun x12=>some (!x12):Option Bool)>>=fun o11 =>
   if o11=true then some ((65533:Int),(1:Int)) else some (x10.1,wr ((m:Int)+1))) =
   some (((endP (if(s.drop (k+1)).length<m then none else tailP m (s.drop (k+1)) v) least m).1:Int),((endP (if(s.drop (k+1)).length<m then none else tailP m (s.drop (k+1)) v) least m).2:Int)):=fun v least m hm hv=>by
  rw[tTail _ m v hm hv]
  cases (if(s.drop (k+1)).length<m then none else tailP m (s.drop (k+1)) v) with
  | none=>rfl
  | some n =>
   simp only[Qad,Bool.not_true,Bool.false_eq_true,if_false,ltI,tIsR,endP]
   by_cases h1:n<least
   ·rw[decide_eq_true h1,if_neg (fun h=>absurd h.1 (by omega):¬ (least≤n∧runeB n=true))]; rfl
   ·rw[decide_eq_false h1]
    cases hrn:runeB n with
    | true=>rw[if_pos (⟨by omega,rfl⟩:least≤n∧true=true),Qas (by omega)]; rfl
    | false=>rw[if_neg (fun h=>by cases h.2:¬ (least≤n∧false=true))]; rfl
 by_cases h1:s[k].toNat<128
 ·rw[decide_eq_true h1,if_pos h1]
  simp only[if_true,Qad]
  rw[Qut (by omega) (by omega)]; rfl
 rw[decide_eq_false h1,if_neg h1]
 simp only[Bool.false_eq_true,if_false]
 have cc:∀ c:UInt8,contB c=true→c.toNat-128<64:=fun c h=>by unfold contB at h; simp at h; omega
 by_cases h2:192≤s[k].toNat∧s[k].toNat<224
 ·rw[decide_eq_true h2.1,decide_eq_true h2.2,if_pos h2,b31]
  simp only[Bool.and_true,if_true,Qad]
  rw[Qut (by omega) (by omega)]
  have f:=fin (s[k].toNat % 32) 128 1 (by omega) (by omega)
  rw[show((1:Nat):Int)=1 from rfl] at f
  rw[f]
  have e:s[k].toNat % 32=s[k].toNat-192:=by omega
  rw[e]
  cases s.drop (k+1) with
  | nil=>rfl
  | cons c1 r1 =>
   simp only[List.length_cons,if_neg (by omega:¬ r1.length+1<1),tailP]
   cases h:contB c1 with
   | false=>rfl
   | true =>
    have:=cc c1 h
    have hr:runeB ((s[k].toNat-192)*64+(c1.toNat-128))=true:=by unfold runeB; rw[decide_eq_true (by omega),decide_eq_false (by omega)]; rfl
    simp only[if_true,endP,hr,and_true,true_and]
 rw[if_neg h2]
 have d2:(decide (192≤s[k].toNat)&&decide (s[k].toNat<224))=false:=by
  rw[Bool.and_eq_false_iff]
  by_cases h:192≤s[k].toNat
  ·exact .inr (decide_eq_false (by omega))
  ·exact .inl (decide_eq_false h)
 rw[d2]
 simp only[Bool.false_eq_true,if_false]
 by_cases h3:224≤s[k].toNat∧s[k].toNat<240
 ·rw[decide_eq_true h3.1,decide_eq_true h3.2,if_pos h3,b15]
  simp only[Bool.and_true,if_true,Qad]
  rw[Qut (by omega) (by omega)]
  have f:=fin (s[k].toNat % 16) 2048 2 (by omega) (by omega)
  rw[show((2:Nat):Int)=2 from rfl,show((2048:Nat):Int)=2048 from rfl] at f
  rw[f]
  have e:s[k].toNat % 16=s[k].toNat-224:=by omega
  rw[e]
  match s.drop (k+1) with
  | []=>rfl
  | [c1]=>rfl
  | c1::c2::r1 =>
   simp only[List.length_cons,if_neg (by omega:¬ r1.length+1+1<2),tailP]
   cases h:contB c1 with
   | false=>rfl
   | true =>
    cases h' : contB c2 with
    | false=>simp[endP]
    | true=>simp only[if_true,endP,true_and]
 rw[if_neg h3]
 have d3:(decide (224≤s[k].toNat)&&decide (s[k].toNat<240))=false:=by
  rw[Bool.and_eq_false_iff]
  by_cases h:224≤s[k].toNat
  ·exact .inr (decide_eq_false (by omega))
  ·exact .inl (decide_eq_false h)
 rw[d3]
 simp only[Bool.false_eq_true,if_false]
 by_cases h4:240≤s[k].toNat∧s[k].toNat<248
 ·rw[decide_eq_true h4.1,decide_eq_true h4.2,if_pos h4,b7]
  simp only[Bool.and_true,if_true,Qad]
  rw[Qut (by omega) (by omega)]
  have f:=fin (s[k].toNat % 8) 65536 3 (by omega) (by omega)
  rw[show((3:Nat):Int)=3 from rfl,show((65536:Nat):Int)=65536 from rfl] at f
  rw[f]
  have e:s[k].toNat % 8=s[k].toNat-240:=by omega
  rw[e]
  match s.drop (k+1) with
  | []=>rfl
  | [c1]=>rfl
  | [c1,c2]=>rfl
  | c1::c2::c3::r1 =>
   simp only[List.length_cons,if_neg (by omega:¬ r1.length+1+1+1<3),tailP]
   cases h:contB c1 with
   | false=>rfl
   | true =>
    cases h' : contB c2 with
    | false=>simp[endP]
    | true =>
     cases h'' : contB c3 with
     | false=>simp[endP]
     | true=>simp only[if_true,endP,true_and]
 rw[if_neg h4]
 have d4:(decide (240≤s[k].toNat)&&decide (s[k].toNat<248))=false:=by
  rw[Bool.and_eq_false_iff]
  by_cases h:240≤s[k].toNat
  ·exact .inr (decide_eq_false (by omega))
  ·exact .inl (decide_eq_false h)
 rw[d4]
 rfl
theorem Qw1 (l:List UInt8) (h:l≠[]):1≤(nextP l).2∧(nextP l).2≤l.length:=by
 cases l with
 | nil=>exact absurd rfl h
 | cons c r =>
  rw[nextP]
  unfold nextC
  split
  ·simp
  ·split
   ·split
    ·split<;>simp
    ·simp
   ·split
    ·split
     ·split<;>simp
     ·simp
    ·split
     ·split
      ·split<;>simp
      ·simp
     ·simp
end Go.Proofs.YtfgegilhjlnohaaGreat
end

section
namespace Go.Proofs.YtfgegilhjlnohaaGreat
open Go.RowKit
def bytesN (n:Nat):List Nat :=
 if n<128 then [n] else if n<2048 then [192+n / 64,128+n % 64] else if n<65536 then [224+n / 4096,128+n / 64 % 64,128+n % 64] else [240+n / 262144,128+n / 4096 % 64,128+n / 64 % 64,128+n % 64]
theorem Q7n (l:List Nat) (h:∀ x ∈ l,x<256) (m:List UInt8):(l.map UInt8.ofNat==m)=decide (l=m.map UInt8.toNat):=by
 have key:l.map UInt8.ofNat=m↔l=m.map UInt8.toNat:=by
  constructor
  ·intro e
   subst e
   rw[List.map_map]
   conv=>lhs; rw[← List.map_id l]
   refine List.map_congr_left fun x hx=>?_
   have:=h x hx
   show x=(UInt8.ofNat x).toNat
   rw[UInt8.toNat_ofNat', Nat.mod_eq_of_lt this]
  ·intro e
   subst e
   rw[List.map_map]
   conv=>rhs; rw[← List.map_id m]
   exact List.map_congr_left fun x _=>by simp
 by_cases he:l.map UInt8.ofNat=m
 ·rw[decide_eq_true (key.1 he),beq_iff_eq]; exact he
 ·rw[decide_eq_false (fun k=>he (key.2 k)),beq_eq_false_iff_ne]; exact he
theorem Q33 (l:List Nat) (h:∀ x ∈ l,x<256):b2s (l.map fun x:Nat=>(x:Int))=some (l.map UInt8.ofNat):=by
 unfold b2s
 rw[if_pos]
 ·rw[List.map_map]; rfl
 ·rw[List.all_eq_true]
  intro n hn
  obtain⟨x,hx,rfl⟩:=List.mem_map.1 hn
  have:=h x hx
  simp only[decide_eq_true_eq]
  omega
theorem td (n k:Nat):((n:Int).tdiv (k:Int))=((n / k:Nat):Int):=by rw[Int.tdiv_eq_ediv_of_nonneg (by omega)]; rfl
theorem tm (n k:Nat):((n:Int).tmod (k:Int))=((n % k:Nat):Int):=by rw[Int.tmod_eq_emod_of_nonneg (by omega)]; rfl
theorem wrN (n:Nat) (h:n<9000000000000):wr (n:Int)=(n:Int):=wr_in (by omega) (by omega)
theorem u8N (n:Nat) (h:n<256):IntKind.u8.wrap (n:Int)=(n:Int):=u8_in (by omega) (by omega)
set_option maxRecDepth 20000 in
theorem rBytes (n:Nat) (h:runeB n=true):Qlc (n:Int)=some ((bytesN n).map UInt8.ofNat):=by
 have hn:n≤1114111:=by unfold runeB at h; rw[Bool.and_eq_true] at h; exact of_decide_eq_true h.1
 have a1:decide ((n:Int)<128)=decide (n<128):=ltI n 128
 have a2:decide ((n:Int)<2048)=decide (n<2048):=ltI n 2048
 have a3:decide ((n:Int)<65536)=decide (n<65536):=ltI n 65536
 have d64:(n:Int).tdiv 64=((n / 64:Nat):Int):=td n 64
 have m64:(n:Int).tmod 64=((n % 64:Nat):Int):=tm n 64
 have d4096:(n:Int).tdiv 4096=((n / 4096:Nat):Int):=td n 4096
 have d262:(n:Int).tdiv 262144=((n / 262144:Nat):Int):=td n 262144
 have w1:∀ a b:Nat,a+b<256→IntKind.u8.wrap (wr ((a:Int)+(b:Int)))=((a+b:Nat):Int):=fun a b h=>by
  rw[wr_in (by omega) (by omega),u8_in (by omega) (by omega)]; rfl
 rw[Qlc,rIsR,h]
 simp only[Qad,Bool.not_true,Bool.false_eq_true,if_false,a1,a2,a3,d64,m64,d4096,d262]
 rw[wrN (n / 64) (by omega),wrN (n / 4096) (by omega),wrN (n / 262144) (by omega)]
 have t64:(((n / 64:Nat):Int)).tmod 64=((n / 64 % 64:Nat):Int):=tm (n / 64) 64
 have t4096:(((n / 4096:Nat):Int)).tmod 64=((n / 4096 % 64:Nat):Int):=tm (n / 4096) 64
 rw[t64,t4096]
 unfold bytesN
 by_cases h1:n<128
 ·rw[decide_eq_true h1,if_pos h1,u8N n (by omega)]
  simp only[if_true]
  have:=Q33 [n] (by simp; omega)
  simp only[List.map_cons,List.map_nil] at this
  rw[this]; rfl
 rw[decide_eq_false h1,if_neg h1]
 by_cases h2:n<2048
 ·rw[decide_eq_true h2,if_pos h2]
  have e1:=w1 192 (n / 64) (by omega)
  have e2:=w1 128 (n % 64) (by omega)
  have:=Q33 [192+n / 64,128+n % 64] (by simp; omega)
  simp only[List.map_cons,List.map_nil] at this
  simp only[Bool.false_eq_true,if_false,if_true]
  rw[show(192:Int)=((192:Nat):Int) from rfl,show(128:Int)=((128:Nat):Int) from rfl,e1,e2,this]; rfl
 rw[decide_eq_false h2,if_neg h2]
 by_cases h3:n<65536
 ·rw[decide_eq_true h3,if_pos h3]
  have e1:=w1 224 (n / 4096) (by omega)
  have e2:=w1 128 (n / 64 % 64) (by omega)
  have e3:=w1 128 (n % 64) (by omega)
  have:=Q33 [224+n / 4096,128+n / 64 % 64,128+n % 64] (by simp; omega)
  simp only[List.map_cons,List.map_nil] at this
  simp only[Bool.false_eq_true,if_false,if_true]
  rw[show(224:Int)=((224:Nat):Int) from rfl,show(128:Int)=((128:Nat):Int) from rfl,e1,e2,e3,this]; rfl
 rw[decide_eq_false h3,if_neg h3]
 have e0:=w1 240 (n / 262144) (by omega)
 have e1:=w1 128 (n / 4096 % 64) (by omega)
 have e2:=w1 128 (n / 64 % 64) (by omega)
 have e3:=w1 128 (n % 64) (by omega)
 have:=Q33 [240+n / 262144,128+n / 4096 % 64,128+n / 64 % 64,128+n % 64] (by simp; omega)
 simp only[List.map_cons,List.map_nil] at this
 simp only[Bool.false_eq_true,if_false]
 rw[show(240:Int)=((240:Nat):Int) from rfl,show(128:Int)=((128:Nat):Int) from rfl,e0,e1,e2,e3,this]; rfl
theorem Q6m (n:Nat) (h:n≤1114111):∀ x ∈ bytesN n,x<256:=by
 unfold bytesN
 split
 ·simp; omega
 ·split
  ·simp; omega
  ·split<;>simp<;>omega
theorem rTest (s:List UInt8) (k m:Nat) (hm:k+m≤s.length) (hs:s.length<9000000000000) (n:Int) :
  ( if(decide (n ≥ 0))=true then
    Qlz n>>=fun x11 =>
    if x11=true then
     Qlc n>>=fun x12 =>
     cutL s k (wr ((k:Int)+m))>>=fun x13 =>
     some (x12==x13)
    else
     some false
   else
    some false:Option Bool)=some (decide (0≤n)&&(runeB n.toNat&&decide (bytesN n.toNat=((s.take (k+m)).drop k).map UInt8.toNat))):=by
 have e:wr ((k:Int)+m)=((k+m:Nat):Int):=by rw[wr_in (by omega) (by omega)]; rfl
 by_cases h:0≤n
 ·obtain⟨v,rfl⟩:∃ v:Nat,n=v:=⟨n.toNat,by omega⟩
  rw[decide_eq_true (show(v:Int) ≥ 0 by omega),rIsR,e,Qki (by omega) (by omega) (by omega)]
  simp only[if_true,Qad,Int.toNat_natCast,Bool.true_and]
  cases hr:runeB v with
  | false=>rfl
  | true =>
   have hv:v≤1114111:=by unfold runeB at hr; rw[Bool.and_eq_true] at hr; exact of_decide_eq_true hr.1
   rw[rBytes v hr]
   simp only[if_true,Qad,Q7n _ (Q6m v hv),Bool.true_and]
 ·rw[decide_eq_false (show ¬ n ≥ 0 from h)]; rfl
theorem wr64 (a b:Int) (ha : -3000000≤a) (ha2:a≤3000000) (hb:0≤b) (hb2:b≤255):wr ((wr ((wr (64*a))+(wr b)))-128)=64*a+b-128:=by
 rw[wr_in (n:=64*a) (by omega) (by omega),wr_in (n:=b) (by omega) (by omega),wr_in (n:=64*a+b) (by omega) (by omega),wr_in (by omega) (by omega)]
def addN (a:Int) (c:UInt8):Int:=64*a+c.toNat-128
theorem rL2 (s:List UInt8) (k:Nat) (v6:List Int) (m:Nat) (hm:k+m≤s.length) (hm4:m≤4) (hs:s.length<9000000000000):∀ d (i:Nat) (v:Int),i+d=m→1≤i→(i=1 → -300≤v∧v≤300)→(i=2 → -30000≤v∧v≤30000)→(i=3 → -3000000≤v∧v≤3000000) →
  Qer s k v6 m v i=some (((s.drop (k+i)).take d).foldl addN v):=by
 intro d
 induction d with
 | zero =>
  intro i v hi _ _ _ _
  rw[Qer,ltI,decide_eq_false (by omega:¬ i<m)]
  simp
 | succ d ih =>
  intro i v hi hi1 h1 h2 h3
  have hk:k+i<s.length:=by omega
  have e1:wr ((k:Int)+i)=((k+i:Nat):Int):=by rw[wr_in (by omega) (by omega)]; rfl
  have hc:=s[k+i].toNat_lt
  have hb : -3000000≤v∧v≤3000000:=by omega
  rw[Qer,ltI,decide_eq_true (by omega:i<m),e1,Qas (by omega)]
  simp only[if_true,Qaw,getE hk,Qad]
  rw[wr64 v _ hb.1 hb.2 (by omega) (by omega),dropE hk,List.take_succ_cons,List.foldl_cons]
  exact ih (i+1) (addN v s[k+i]) (by omega) (by omega) (by omega) (by unfold addN; omega) (by unfold addN; omega)
def leadL:List Int:=[0,0,192,224,240]
def numN (c:UInt8) (r:List UInt8) (m:Nat):Int:=(r.take (m-1)).foldl addN ((c.toNat:Int)-(leadL[m]?.getD 0))
def tstB (c:UInt8) (r:List UInt8) (m:Nat):Bool:=decide (0≤numN c r m)&&(runeB (numN c r m).toNat&&decide (bytesN (numN c r m).toNat=((c::r).take m).map UInt8.toNat))
theorem rL1 (s:List UInt8) (k:Nat) (hk:k<s.length) (hs:s.length<9000000000000) (m:Nat) (h1:1≤m) (h4:m≤4) :
  Qcw s k leadL m=if k+m≤s.length then(if tstB s[k] (s.drop (k+1)) m=true then some (.inr (numN s[k] (s.drop (k+1)) m,(m:Int))) else Qcw s k leadL ((m+1:Nat):Int)) else some (.inl ()):=by
 have e0:wr ((s.length:Int)-k)=((s.length-k:Nat):Int):=by rw[wr_in (by omega) (by omega)]; omega
 have a4:decide ((m:Int)≤4)=true:=decide_eq_true (by omega)
 have hc:=s[k].toNat_lt
 rw[Qcw,e0,a4]
 by_cases hm:k+m≤s.length
 ·have a5:decide ((m:Int)≤((s.length-k:Nat):Int))=true:=decide_eq_true (by omega)
  obtain⟨ld,hld,hl0,hl1⟩:∃ ld:Int,leadL[m]? = some ld∧0≤ld∧ld≤240:=by
   match m,h1,h4 with
   | 1,_,_=>exact⟨0,rfl,by omega,by omega⟩
   | 2,_,_=>exact⟨192,rfl,by omega,by omega⟩
   | 3,_,_=>exact⟨224,rfl,by omega,by omega⟩
   | 4,_,_=>exact⟨240,rfl,by omega,by omega⟩
  have ew:wr ((wr (s[k].toNat:Int))-ld)=(s[k].toNat:Int)-ld:=by rw[wr_in (n:=(s[k].toNat:Int)) (by omega) (by omega),wr_in (by omega) (by omega)]
  have h2:=rL2 s k leadL m hm h4 hs (m-1) 1 ((s[k].toNat:Int)-ld) (by omega) (by omega) (by omega) (by omega) (by omega)
  have en:numN s[k] (s.drop (k+1)) m=((s.drop (k+1)).take (m-1)).foldl addN ((s[k].toNat:Int)-ld):=by rw[numN,hld]; rfl
  rw[← en,show((1:Nat):Int)=1 from rfl] at h2
  have ht:=rTest s k m hm hs (numN s[k] (s.drop (k+1)) m)
  have et:((s.take (k+m)).drop k)=((s[k]::s.drop (k+1)).take m):=by rw[← dropE hk,List.drop_take]; congr 1; omega
  rw[et] at ht
  rw[a5,if_pos hm,Qas (by omega)]
  simp only[if_true,Qad,Qaw,getE hk,hld,ew,h2]
  rw[ht]
  rfl
 ·have a5:decide ((m:Int)≤((s.length-k:Nat):Int))=false:=decide_eq_false (by omega)
  rw[a5,if_neg hm]
  rfl
theorem tst1 (c:UInt8) (r:List UInt8):tstB c r 1=decide (c.toNat<128)∧numN c r 1=(c.toNat:Int):=by
 have hc:=c.toNat_lt
 have en:numN c r 1=(c.toNat:Int):=by simp[numN,leadL]
 refine⟨?_,en⟩
 have hr:runeB c.toNat=true:=by unfold runeB; rw[decide_eq_true (by omega),decide_eq_false (by omega)]; rfl
 rw[tstB,en,decide_eq_true (by omega),Int.toNat_natCast,hr]
 simp only[Bool.true_and,List.take_succ_cons,List.take_zero,List.map_cons,List.map_nil]
 unfold bytesN
 by_cases h:c.toNat<128
 ·rw[decide_eq_true h,if_pos h]; simp
 ·rw[decide_eq_false h,if_neg h,if_pos (by omega)]
  simp
theorem tst2 (c c1:UInt8) (r:List UInt8):tstB c (c1::r) 2=decide ((192≤c.toNat∧c.toNat<224)∧contB c1=true∧128≤(c.toNat-192)*64+(c1.toNat-128))∧numN c (c1::r) 2=64*((c.toNat:Int)-192)+c1.toNat-128:=by
 have hc:=c.toNat_lt
 have hc1:=c1.toNat_lt
 have en:numN c (c1::r) 2=64*((c.toNat:Int)-192)+c1.toNat-128:=by simp[numN,leadL,addN]
 refine⟨?_,en⟩
 rw[tstB,en]
 simp only[List.take_succ_cons,List.take_zero,List.map_cons,List.map_nil]
 have hcont:contB c1=true↔(128≤c1.toNat∧c1.toNat<192):=by unfold contB; simp
 by_cases hn:0≤64*((c.toNat:Int)-192)+c1.toNat-128
 ·obtain⟨n,hn2⟩:∃ n:Nat,64*((c.toNat:Int)-192)+c1.toNat-128=n:=⟨(64*((c.toNat:Int)-192)+c1.toNat-128).toNat,by omega⟩
  rw[hn2,Int.toNat_natCast,decide_eq_true (by omega),Bool.true_and]
  have hlt:n<5000:=by omega
  have hr:runeB n=true:=by unfold runeB; rw[decide_eq_true (by omega),decide_eq_false (by omega)]; rfl
  rw[hr,Bool.true_and]
  congr 1
  apply propext
  rw[hcont]
  unfold bytesN
  by_cases h1:n<128
  ·rw[if_pos h1]
   constructor
   ·intro h; simp at h
   ·intro h; omega
  ·rw[if_neg h1]
   by_cases h2:n<2048
   ·rw[if_pos h2]
    simp only[List.cons.injEq,and_true]
    omega
   ·rw[if_neg h2,if_pos (by omega)]
    constructor
    ·intro h; simp at h
    ·intro h; omega
 ·rw[decide_eq_false hn,Bool.false_and,decide_eq_false]
  rw[hcont]; omega
theorem tst3 (c c1 c2:UInt8) (r:List UInt8):tstB c (c1::c2::r) 3=decide ((224≤c.toNat∧c.toNat<240)∧contB c1=true∧contB c2=true∧2048≤((c.toNat-224)*64+(c1.toNat-128))*64+(c2.toNat-128)∧runeB (((c.toNat-224)*64+(c1.toNat-128))*64+(c2.toNat-128))=true) ∧
  numN c (c1::c2::r) 3=64*(64*((c.toNat:Int)-224)+c1.toNat-128)+c2.toNat-128:=by
 have hc:=c.toNat_lt
 have hc1:=c1.toNat_lt
 have hc2:=c2.toNat_lt
 have en:numN c (c1::c2::r) 3=64*(64*((c.toNat:Int)-224)+c1.toNat-128)+c2.toNat-128:=by simp[numN,leadL,addN]
 refine⟨?_,en⟩
 rw[tstB,en]
 simp only[List.take_succ_cons,List.take_zero,List.map_cons,List.map_nil]
 have hcont:contB c1=true↔(128≤c1.toNat∧c1.toNat<192):=by unfold contB; simp
 have hcont2:contB c2=true↔(128≤c2.toNat∧c2.toNat<192):=by unfold contB; simp
 by_cases hn:0≤64*(64*((c.toNat:Int)-224)+c1.toNat-128)+c2.toNat-128
 ·obtain⟨n,hn2⟩:∃ n:Nat,64*(64*((c.toNat:Int)-224)+c1.toNat-128)+c2.toNat-128=n:=⟨(64*(64*((c.toNat:Int)-224)+c1.toNat-128)+c2.toNat-128).toNat,by omega⟩
  rw[hn2,Int.toNat_natCast,decide_eq_true (by omega),Bool.true_and]
  have hlt:n<200000:=by omega
  have key:bytesN n=[c.toNat,c1.toNat,c2.toNat]↔((224≤c.toNat∧c.toNat<240)∧(128≤c1.toNat∧c1.toNat<192)∧(128≤c2.toNat∧c2.toNat<192)∧2048≤n):=by
   unfold bytesN
   by_cases h1:n<128
   ·rw[if_pos h1]
    exact⟨fun h=>by simp at h,fun h=>by omega⟩
   rw[if_neg h1]
   by_cases h2:n<2048
   ·rw[if_pos h2]
    exact⟨fun h=>by simp at h,fun h=>by omega⟩
   rw[if_neg h2]
   by_cases h3:n<65536
   ·rw[if_pos h3]
    simp only[List.cons.injEq,and_true]
    omega
   ·rw[if_neg h3]
    exact⟨fun h=>by simp at h,fun h=>by omega⟩
  rw[Bool.eq_iff_iff]
  simp only[Bool.and_eq_true,decide_eq_true_eq]
  rw[key,hcont,hcont2]
  constructor
  ·rintro ⟨hr,a,b,c', d⟩
   have e:((c.toNat-224)*64+(c1.toNat-128))*64+(c2.toNat-128)=n:=by omega
   exact⟨a,b,c', by omega,by rw[e]; exact hr⟩
  ·rintro ⟨a,b,c', d,hr⟩
   have e:((c.toNat-224)*64+(c1.toNat-128))*64+(c2.toNat-128)=n:=by omega
   rw[e] at hr d
   exact⟨hr,a,b,c', d⟩
 ·rw[decide_eq_false hn,Bool.false_and,decide_eq_false]
  rw[hcont,hcont2]; omega
theorem tst4 (c c1 c2 c3:UInt8) (r:List UInt8):tstB c (c1::c2::c3::r) 4=decide ((240≤c.toNat∧c.toNat<248)∧contB c1=true∧contB c2=true∧contB c3=true∧65536≤(((c.toNat-240)*64+(c1.toNat-128))*64+(c2.toNat-128))*64+(c3.toNat-128)∧runeB ((((c.toNat-240)*64+(c1.toNat-128))*64+(c2.toNat-128))*64+(c3.toNat-128))=true) ∧
  numN c (c1::c2::c3::r) 4=64*(64*(64*((c.toNat:Int)-240)+c1.toNat-128)+c2.toNat-128)+c3.toNat-128:=by
 have hc:=c.toNat_lt
 have hc1:=c1.toNat_lt
 have hc2:=c2.toNat_lt
 have hc3:=c3.toNat_lt
 have en:numN c (c1::c2::c3::r) 4=64*(64*(64*((c.toNat:Int)-240)+c1.toNat-128)+c2.toNat-128)+c3.toNat-128:=by simp[numN,leadL,addN]
 refine⟨?_,en⟩
 rw[tstB,en]
 simp only[List.take_succ_cons,List.take_zero,List.map_cons,List.map_nil]
 have hcont:contB c1=true↔(128≤c1.toNat∧c1.toNat<192):=by unfold contB; simp
 have hcont2:contB c2=true↔(128≤c2.toNat∧c2.toNat<192):=by unfold contB; simp
 have hcont3:contB c3=true↔(128≤c3.toNat∧c3.toNat<192):=by unfold contB; simp
 by_cases hn:0≤64*(64*(64*((c.toNat:Int)-240)+c1.toNat-128)+c2.toNat-128)+c3.toNat-128
 ·obtain⟨n,hn2⟩:∃ n:Nat,64*(64*(64*((c.toNat:Int)-240)+c1.toNat-128)+c2.toNat-128)+c3.toNat-128=n:=⟨(64*(64*(64*((c.toNat:Int)-240)+c1.toNat-128)+c2.toNat-128)+c3.toNat-128).toNat,by omega⟩
  rw[hn2,Int.toNat_natCast,decide_eq_true (by omega),Bool.true_and]
  have key:runeB n=true→(bytesN n=[c.toNat,c1.toNat,c2.toNat,c3.toNat]↔((240≤c.toNat∧c.toNat<248)∧(128≤c1.toNat∧c1.toNat<192)∧(128≤c2.toNat∧c2.toNat<192)∧(128≤c3.toNat∧c3.toNat<192)∧65536≤n)):=fun hr=>by
   have hlt:n≤1114111:=by unfold runeB at hr; rw[Bool.and_eq_true] at hr; exact of_decide_eq_true hr.1
   unfold bytesN
   by_cases h1:n<128
   ·rw[if_pos h1]
    exact⟨fun h=>by simp at h,fun h=>by omega⟩
   rw[if_neg h1]
   by_cases h2:n<2048
   ·rw[if_pos h2]
    exact⟨fun h=>by simp at h,fun h=>by omega⟩
   rw[if_neg h2]
   by_cases h3:n<65536
   ·rw[if_pos h3]
    exact⟨fun h=>by simp at h,fun h=>by omega⟩
   ·rw[if_neg h3]
    simp only[List.cons.injEq,and_true]
    omega
  rw[Bool.eq_iff_iff]
  simp only[Bool.and_eq_true,decide_eq_true_eq]
  rw[hcont,hcont2,hcont3]
  constructor
  ·rintro ⟨hr,hb⟩
   obtain⟨a,b,c', d', d⟩:=(key hr).1 hb
   have e:(((c.toNat-240)*64+(c1.toNat-128))*64+(c2.toNat-128))*64+(c3.toNat-128)=n:=by omega
   exact⟨a,b,c', d', by omega,by rw[e]; exact hr⟩
  ·rintro ⟨a,b,c', d', d,hr⟩
   have e:(((c.toNat-240)*64+(c1.toNat-128))*64+(c2.toNat-128))*64+(c3.toNat-128)=n:=by omega
   rw[e] at hr d
   exact⟨hr,(key hr).2 ⟨a,b,c', d', d⟩⟩
 ·rw[decide_eq_false hn,Bool.false_and,decide_eq_false]
  rw[hcont,hcont2,hcont3]; omega
theorem rNext (s:List UInt8) (k:Nat) (hk:k<s.length) (hs:s.length<9000000000000):Qp3 s k=some (((nextP (s.drop k)).1:Int),((nextP (s.drop k)).2:Int)):=by
 have d1:decide ((k:Int)<0)=false:=decide_eq_false (by omega)
 have d2:decide ((k:Int) ≥ (s.length:Int))=false:=decide_eq_false (by omega)
 have hc:=s[k].toNat_lt
 have l1:=rL1 s k hk hs 1 (by omega) (by omega)
 have l2:=rL1 s k hk hs 2 (by omega) (by omega)
 have l3:=rL1 s k hk hs 3 (by omega) (by omega)
 have l4:=rL1 s k hk hs 4 (by omega) (by omega)
 have l5:Qcw s k leadL ((4+1:Nat):Int)=some (.inl ()):=by
  rw[Qcw,show decide (((4+1:Nat):Int)≤4)=false from rfl]
  simp only[Bool.false_eq_true,if_false,Qad]
 have hdl:(s.drop (k+1)).length=s.length-(k+1):=List.length_drop
 rw[Qp3,d1,d2,dropE hk,nextP]
 show(Qcw s k leadL ((1:Nat):Int)>>=_)=_
 rw[l1,if_pos (by omega),(tst1 _ _).1,(tst1 _ _).2,l2]
 unfold nextC
 by_cases h1:s[k].toNat<128
 ·rw[decide_eq_true h1,if_pos rfl,if_pos h1]; rfl
 rw[decide_eq_false h1,if_neg (by decide),if_neg h1]
 generalize hr:s.drop (k+1)=r at *
 match r with
 | [] =>
  simp at hdl
  rw[if_neg (by omega)]
  simp
 | [c1] =>
  simp at hdl
  have hc1:=c1.toNat_lt
  rw[if_pos (by omega),(tst2 _ _ _).1,(tst2 _ _ _).2,l3,if_neg (by omega:¬ k+3≤s.length)]
  dsimp only
  by_cases h2:192≤s[k].toNat∧s[k].toNat<224
  ·rw[if_pos h2]
   by_cases h3:contB c1=true∧128≤(s[k].toNat-192)*64+(c1.toNat-128)
   ·have h4:128≤c1.toNat:=by have:=h3.1; unfold contB at this; simp at this; exact this.1
    rw[decide_eq_true ⟨h2,h3⟩,if_pos rfl,if_pos h3]
    simp only[Qad]
    congr 2
    omega
   ·rw[decide_eq_false (fun h=>h3 h.2),if_neg (by decide),if_neg h3]; rfl
  ·rw[decide_eq_false (fun h=>h2 h.1),if_neg (by decide),if_neg h2]
   simp
 | [c1,c2] =>
  simp at hdl
  have hc1:=c1.toNat_lt
  have hc2:=c2.toNat_lt
  rw[if_pos (by omega),(tst2 _ _ _).1,(tst2 _ _ _).2,l3,if_pos (by omega:k+3≤s.length),(tst3 _ _ _ _).1,(tst3 _ _ _ _).2,l4,if_neg (by omega:¬ k+4≤s.length)]
  dsimp only
  by_cases h2:192≤s[k].toNat∧s[k].toNat<224
  ·rw[if_pos h2]
   by_cases h3:contB c1=true∧128≤(s[k].toNat-192)*64+(c1.toNat-128)
   ·have h4:128≤c1.toNat:=by have:=h3.1; unfold contB at this; simp at this; exact this.1
    rw[decide_eq_true ⟨h2,h3⟩,if_pos rfl,if_pos h3]
    simp only[Qad]
    congr 2
    omega
   ·rw[decide_eq_false (fun h=>h3 h.2),if_neg (by decide),if_neg h3,decide_eq_false (fun h=>by have:=h.1; omega),if_neg (by decide)]; rfl
  ·rw[decide_eq_false (fun h=>h2 h.1),if_neg (by decide),if_neg h2]
   by_cases h5:224≤s[k].toNat∧s[k].toNat<240
   ·rw[if_pos h5]
    by_cases h6:contB c1=true∧contB c2=true∧2048≤((s[k].toNat-224)*64+(c1.toNat-128))*64+(c2.toNat-128)∧runeB (((s[k].toNat-224)*64+(c1.toNat-128))*64+(c2.toNat-128))=true
    ·have h4:128≤c1.toNat:=by have:=h6.1; unfold contB at this; simp at this; exact this.1
     have h4' : 128≤c2.toNat:=by have:=h6.2.1; unfold contB at this; simp at this; exact this.1
     rw[decide_eq_true ⟨h5,h6⟩,if_pos rfl,if_pos h6]
     simp only[Qad]
     congr 2
     omega
    ·rw[decide_eq_false (fun h=>h6 h.2),if_neg (by decide),if_neg h6]; rfl
   ·rw[decide_eq_false (fun h=>h5 h.1),if_neg (by decide),if_neg h5]
    simp
 | c1::c2::c3::r =>
  simp at hdl
  have hc1:=c1.toNat_lt
  have hc2:=c2.toNat_lt
  have hc3:=c3.toNat_lt
  rw[if_pos (by omega),(tst2 _ _ _).1,(tst2 _ _ _).2,l3,if_pos (by omega:k+3≤s.length),(tst3 _ _ _ _).1,(tst3 _ _ _ _).2,l4,if_pos (by omega:k+4≤s.length),(tst4 _ _ _ _ _).1,(tst4 _ _ _ _ _).2,l5]
  dsimp only
  by_cases h2:192≤s[k].toNat∧s[k].toNat<224
  ·rw[if_pos h2]
   by_cases h3:contB c1=true∧128≤(s[k].toNat-192)*64+(c1.toNat-128)
   ·have h4:128≤c1.toNat:=by have:=h3.1; unfold contB at this; simp at this; exact this.1
    rw[decide_eq_true ⟨h2,h3⟩,if_pos rfl,if_pos h3]
    simp only[Qad]
    congr 2
    omega
   ·rw[decide_eq_false (fun h=>h3 h.2),if_neg (by decide),if_neg h3,decide_eq_false (fun h=>by have:=h.1; omega),if_neg (by decide),decide_eq_false (fun h=>by have:=h.1; omega),if_neg (by decide)]; rfl
  ·rw[decide_eq_false (fun h=>h2 h.1),if_neg (by decide),if_neg h2]
   by_cases h5:224≤s[k].toNat∧s[k].toNat<240
   ·rw[if_pos h5]
    by_cases h6:contB c1=true∧contB c2=true∧2048≤((s[k].toNat-224)*64+(c1.toNat-128))*64+(c2.toNat-128)∧runeB (((s[k].toNat-224)*64+(c1.toNat-128))*64+(c2.toNat-128))=true
    ·have h4:128≤c1.toNat:=by have:=h6.1; unfold contB at this; simp at this; exact this.1
     have h4' : 128≤c2.toNat:=by have:=h6.2.1; unfold contB at this; simp at this; exact this.1
     rw[decide_eq_true ⟨h5,h6⟩,if_pos rfl,if_pos h6]
     simp only[Qad]
     congr 2
     omega
    ·rw[decide_eq_false (fun h=>h6 h.2),if_neg (by decide),if_neg h6,decide_eq_false (fun h=>by have:=h.1; omega),if_neg (by decide)]; rfl
   ·rw[decide_eq_false (fun h=>h5 h.1),if_neg (by decide),if_neg h5]
    by_cases h7:240≤s[k].toNat∧s[k].toNat<248
    ·rw[if_pos h7]
     by_cases h8:contB c1=true∧contB c2=true∧contB c3=true∧65536≤(((s[k].toNat-240)*64+(c1.toNat-128))*64+(c2.toNat-128))*64+(c3.toNat-128)∧runeB ((((s[k].toNat-240)*64+(c1.toNat-128))*64+(c2.toNat-128))*64+(c3.toNat-128))=true
     ·have h4:128≤c1.toNat:=by have:=h8.1; unfold contB at this; simp at this; exact this.1
      have h4' : 128≤c2.toNat:=by have:=h8.2.1; unfold contB at this; simp at this; exact this.1
      have h4'' : 128≤c3.toNat:=by have:=h8.2.2.1; unfold contB at this; simp at this; exact this.1
      rw[decide_eq_true ⟨h7,h8⟩,if_pos rfl,if_pos h8]
      simp only[Qad]
      congr 2
      omega
     ·rw[decide_eq_false (fun h=>h8 h.2),if_neg (by decide),if_neg h8]; rfl
    ·rw[decide_eq_false (fun h=>h7 h.1),if_neg (by decide),if_neg h7]
     rfl
end Go.Proofs.YtfgegilhjlnohaaGreat
end
