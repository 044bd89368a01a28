/- The proof's texts, part 9 of 12: the walks by a logic in which data are by value, the plain laws, and at the end the law, for every input. -/
import Derived.Test.YtagokkpnfceidaaGreatDoorMgParseBounds8

section
set_option linter.unusedVariables false
set_option linter.unusedSimpArgs false
set_option maxRecDepth 100000
set_option maxHeartbeats 4000000
namespace Go.Proofs.YtagokkpnfceidaaGreatDoor
open Go.RowKit
theorem Qhb:∀ (h0_0:(List Qac)) (h0_1:Int) (h0_2:Bool) (o:(List UInt8)×Int×Bool),Qch h0_0 h0_1 h0_2=some o→CallOK Tryz.prog 70 [.ptr 0 0] ⟨[[.p (.sl false (h0_0.map Qab)),.p (iV h0_1),.p (bV h0_2)]],[]⟩ (Qlg o) ⟨[[.p (.sl false (h0_0.map Qab)),.p (iV o.2.1),.p (bV o.2.2)]],[]⟩:=by
 intro h0_0 h0_1 h0_2 o h
 unfold Qch at h
 refine CallOK.ofB mixed tbOk Qqs Tryz.func70 rfl (by kernel_rfl) (Nat.le_of_ble_eq_true rfl) rfl rfl rfl ?_
 refine Qai h (fun o1 ho hk=>?_)
 refine Exists.intro (JP1 _ _ o1 .normal (Qo0 h0_0)) (And.intro ?_ (join1 ?_))
 ·have h:=ho
  refine And.intro (by decide +kernel) (And.intro rfl ?_)
  refine Qqh (fun x2=>(Qc6 x2).ren [0] []) h (fun x2 hy=>(Qap 4 h0_0 h0_1 h0_2 x2 hy).fd rfl rfl [0] rfl rfl) (fun x2 hy h=>?_)
  refine Qaf h (fun hb h=>?_) (fun hb h=>?_)
  ·refine Qel (l:=h0_0) (c:=Qab) (c' := Qab) h (fun _=>rfl) (fun _=>rfl) (by decide) (fun x3 hi h=>?_)
   refine Qf1 [sV x3.Text] Qot h (fun x4 hy=>(Q1k x3.Text x4 hy)) (fun x4 hy h=>?_)
   refine Qkk _ _ h (fun x5 hy=>((Qaj x4 h0_0 h0_1 h0_2 x5 hy).fg [0] [] rfl rfl rfl (Nat.le_of_ble_eq_true rfl))) (fun x5 hy h=>?_)
   refine JP1.a h ?_
   exact Le.tz 1 0 rfl rfl rfl
  ·refine Qkk _ _ h (fun x6 hy=>((Qaj false h0_0 h0_1 h0_2 x6 hy).fg [0] [] rfl rfl rfl (Nat.le_of_ble_eq_true rfl))) (fun x6 hy h=>?_)
   refine JP1.a h ?_
   exact Le.tz 1 0 rfl rfl rfl
 ·have h:=hk
  refine Exists.intro _ (And.intro (Le.refl _ _ _) ?_)
  exact Qa7 (t:=Qlg) (ss:=fun o=>⟨[[.p (.sl false (h0_0.map Qab)),.p (iV o.2.1),.p (bV o.2.2)]],[]⟩) h ⟨[],rfl,.refl _,.refl _,rfl⟩
noncomputable def Qbd (p1:(List UInt8)) (h0_0:(List Qac)) (h0_1:Int) (h0_2:Bool):Option (Bool) :=
 ( Qan 4 h0_0 h0_1 h0_2>>=fun x2 =>
  if x2 then
   idx h0_0 h0_1>>=fun x3 =>
   some (x3.Text==p1)
  else
   some false:Option (Bool))>>=fun o1 =>
 some o1
theorem Qbi:∀ (p1:(List UInt8)) (h0_0:(List Qac)) (h0_1:Int) (h0_2:Bool) (o:Bool),Qbd p1 h0_0 h0_1 h0_2=some o→CallOK Tryz.prog 66 [.ptr 0 0,.p (sV p1)] ⟨[[.p (.sl false (h0_0.map Qab)),.p (iV h0_1),.p (bV h0_2)]],[]⟩ (Qlh o) ⟨[[.p (.sl false (h0_0.map Qab)),.p (iV h0_1),.p (bV h0_2)]],[]⟩:=by
 intro p1 h0_0 h0_1 h0_2 o h
 unfold Qbd at h
 refine CallOK.ofB mixed tbOk Qqu Tryz.func66 rfl (by kernel_rfl) (Nat.le_of_ble_eq_true rfl) rfl rfl rfl ?_
 refine Qai h (fun o1 ho hk=>?_)
 refine Exists.intro (JP1 _ _ o1 .normal (Qo2 h0_0 h0_1 h0_2)) (And.intro ?_ (join1 ?_))
 ·have h:=ho
  refine And.intro (by decide +kernel) (And.intro rfl ?_)
  refine Qqh (fun x2=>(Qc6 x2).ren [0] []) h (fun x2 hy=>(Qap 4 h0_0 h0_1 h0_2 x2 hy).fd rfl rfl [0] rfl rfl) (fun x2 hy h=>?_)
  refine Qaf h (fun hb h=>?_) (fun hb h=>?_)
  ·refine Qel (l:=h0_0) (c:=Qab) (c' := Qab) h (fun _=>rfl) (fun _=>rfl) (by decide) (fun x3 hi h=>?_)
   refine JP1.a h ?_
   exact Le.tz 1 0 rfl rfl rfl
  ·refine JP1.a h ?_
   exact Le.tz 1 0 rfl rfl rfl
 ·have h:=hk
  refine Exists.intro _ (And.intro (Le.refl _ _ _) ?_)
  exact Qa7 (t:=Qlh) (ss:=fun o=>⟨[[.p (.sl false (h0_0.map Qab)),.p (iV h0_1),.p (bV h0_2)]],[]⟩) h ⟨[],rfl,.refl _,.refl _,rfl⟩
mutual
noncomputable def Qat (h0_0:(List Qac)) (h0_1:Int) (h0_2:Bool):Option (Qaa×Int×Bool) :=
 Qc3 h0_0 h0_1 h0_2>>=fun x1 =>
 (Qbh h0_0 x1.2.1 x1.2.2 x1.1.Kind x1.1.Name x1.1.Text x1.1.N x1.1.L x1.1.Then x1.1.Else)>>=fun o2 =>
 some ((Qaa.mk o2.2.2.1 o2.2.2.2.1 o2.2.2.2.2.1 o2.2.2.2.2.2.1 o2.2.2.2.2.2.2.1 o2.2.2.2.2.2.2.2.1 o2.2.2.2.2.2.2.2.2),o2.1,o2.2.1)
 partial_fixpoint
noncomputable def Qc3 (h0_0:(List Qac)) (h0_1:Int) (h0_2:Bool):Option (Qaa×Int×Bool) :=
 Qan 5 h0_0 h0_1 h0_2>>=fun x1 =>
 if x1 then
  Qah true h0_0 h0_1 h0_2>>=fun x2 =>
  some ((Qaa.mk 1 [] x2.1.Text 0 [] [] []),x2.2.1,x2.2.2)
 else
  Qan 6 h0_0 h0_1 h0_2>>=fun x3 =>
  if x3 then
   Qah true h0_0 h0_1 h0_2>>=fun x4 =>
   some ((Qaa.mk 2 [] [] x4.1.N [] [] []),x4.2.1,x4.2.2)
  else
   Qbd [116,114,117,101] h0_0 h0_1 h0_2>>=fun x5 =>
   if x5 then
    Qah true h0_0 h0_1 h0_2>>=fun x6 =>
    some ((Qaa.mk 3 [] [] 1 [] [] []),x6.2.1,x6.2.2)
   else
    Qbd [102,97,108,115,101] h0_0 h0_1 h0_2>>=fun x7 =>
    if x7 then
     Qah true h0_0 h0_1 h0_2>>=fun x8 =>
     some ((Qaa.mk 3 [] [] 0 [] [] []),x8.2.1,x8.2.2)
    else
     Qbd [115,101,99,114,101,116] h0_0 h0_1 h0_2>>=fun x9 =>
     if x9 then
      Qah true h0_0 h0_1 h0_2>>=fun x10 =>
      Qan 8 h0_0 x10.2.1 x10.2.2>>=fun x11 =>
      Qah x11 h0_0 x10.2.1 x10.2.2>>=fun x12 =>
      ( Qan 5 h0_0 x12.2.1 x12.2.2>>=fun x14 =>
       if x14 then
        idx h0_0 x12.2.1>>=fun x15 =>
        Qic x15.Text>>=fun x16 =>
        Qah x16 h0_0 x12.2.1 x12.2.2>>=fun x17 =>
        some (x17.2.1,x17.2.2,x17.1.Kind,x17.1.Text,x17.1.N,x17.1.From,x17.1.To)
       else
        Qah false h0_0 x12.2.1 x12.2.2>>=fun x18 =>
        some (x18.2.1,x18.2.2,x18.1.Kind,x18.1.Text,x18.1.N,x18.1.From,x18.1.To):Option ((Int×Bool×Int×(List UInt8)×Int×Int×Int)))>>=fun o13 =>
      Qan 9 h0_0 o13.1 o13.2.1>>=fun x19 =>
      Qah x19 h0_0 o13.1 o13.2.1>>=fun x20 =>
      some ((Qaa.mk 7 o13.2.2.2.1 [] 0 [] [] []),x20.2.1,x20.2.2)
     else
      Qch h0_0 h0_1 h0_2>>=fun x21 =>
      Qan 8 h0_0 x21.2.1 x21.2.2>>=fun x22 =>
      if(!x22) then
       some ((Qaa.mk 4 x21.1 [] 0 [] [] []),x21.2.1,x21.2.2)
      else
       Qah true h0_0 x21.2.1 x21.2.2>>=fun x23 =>
       Qan 9 h0_0 x23.2.1 x23.2.2>>=fun x24 =>
       if x24 then
        Qah true h0_0 x23.2.1 x23.2.2>>=fun x25 =>
        some ((Qaa.mk 6 x21.1 [] 0 [] [] []),x25.2.1,x25.2.2)
       else
        (Qao h0_0 x21 0 x23.2.1 x23.2.2 [])>>=fun o26 =>
        Qan 9 h0_0 o26.1 o26.2.1>>=fun x33 =>
        Qah x33 h0_0 o26.1 o26.2.1>>=fun x34 =>
        some ((Qaa.mk 6 x21.1 [] 0 o26.2.2 [] []),x34.2.1,x34.2.2)
 partial_fixpoint
noncomputable def Qao (h0_0:(List Qac)) (x21:(List UInt8)×Int×Bool) (v5:Int) (h0_1_:Int) (h0_2_:Bool) (h2_4:(List Qaa)):Option ((Int×Bool×(List Qaa))) :=
 ( if(decide (v5<3)) then
   some (!h0_2_)
  else
   some false:Option (Bool))>>=fun o27 =>
 if o27 then
  Qat h0_0 h0_1_ h0_2_>>=fun x28 =>
  appL 120 h2_4 [x28.1]>>=fun x29 =>
  Qan 9 h0_0 x28.2.1 x28.2.2>>=fun x30 =>
  if x30 then
   some (x28.2.1,x28.2.2,x29)
  else
   if(decide (v5<2)) then
    Qan 10 h0_0 x28.2.1 x28.2.2>>=fun x31 =>
    Qah x31 h0_0 x28.2.1 x28.2.2>>=fun x32 =>
    Qao h0_0 x21 (wr (v5+1)) x32.2.1 x32.2.2 x29
   else
    Qao h0_0 x21 (wr (v5+1)) x28.2.1 x28.2.2 x29
 else
  some (h0_1_,h0_2_,h2_4)
 partial_fixpoint
end
theorem Qp1:∀ (h0_0:(List Qac)),(∀ (h0_1:Int) (h0_2:Bool) (o:Qaa×Int×Bool),Qat h0_0 h0_1 h0_2=some o→CallOK Tryz.prog 67 [.ptr 0 0] ⟨[[.p (.sl false (h0_0.map Qab)),.p (iV h0_1),.p (bV h0_2)]],[]⟩ (Qhw o) ⟨[[.p (.sl false (h0_0.map Qab)),.p (iV o.2.1),.p (bV o.2.2)]],[]⟩)∧(∀ (h0_1:Int) (h0_2:Bool) (o:Qaa×Int×Bool),Qc3 h0_0 h0_1 h0_2=some o→CallOK Tryz.prog 95 [.ptr 0 0] ⟨[[.p (.sl false (h0_0.map Qab)),.p (iV h0_1),.p (bV h0_2)]],[]⟩ (Qbu o) ⟨[[.p (.sl false (h0_0.map Qab)),.p (iV o.2.1),.p (bV o.2.2)]],[]⟩)∧(∀ (x21:(List UInt8)×Int×Bool) (v5:Int) (h0_1_:Int) (h0_2_:Bool) (h2_4:(List Qaa)) (o26:(Int×Bool×(List Qaa))),Qao h0_0 x21 v5 h0_1_ h0_2_ h2_4=some o26→TL (1,0) Tryz.prog 107 Qnr (JP1 (1,0) 107 o26 (.exit 0) (Qhm h0_0 x21)) (Qdb h0_0 x21 v5 h0_1_ h0_2_ h2_4)):=by
 intro h0_0
 refine Qat.mutual_partial_correctness h0_0 _ _ _ ?_ ?_ ?_
 ·intro Qc3' iQc3 h0_1 h0_2 o h
  refine CallOK.ofB mixed tbOk Qko Tryz.func67 rfl (by kernel_rfl) (Nat.le_of_ble_eq_true rfl) rfl rfl rfl ?_
  refine Qag _ _ h (fun x1 hy=>((iQc3 h0_1 h0_2 x1 hy).fr [0] [] rfl rfl rfl)) (fun x1 hy h=>?_)
  refine Qai h (fun o2 ho hk=>?_)
  refine Exists.intro (JP1 _ _ o2 (.exit 0) (Qfa h0_0)) (And.intro (T_le (τ := Qdh h0_0 x1.2.1 x1.2.2 x1.1.Kind x1.1.Name x1.1.Text x1.1.N x1.1.L x1.1.Then x1.1.Else) ?_ (TL.loop (Qn2 h0_0 x1.2.1 x1.2.2 x1.1.Kind x1.1.Name x1.1.Text x1.1.N x1.1.L x1.1.Then x1.1.Else o2 ho))) (join1 ?_))
  ·exact Le.tz 3 0 rfl rfl rfl
  have h:=hk
  refine Exists.intro _ (And.intro (Le.refl _ _ _) ?_)
  exact Qa7 (t:=Qhw) (ss:=fun o=>⟨[[.p (.sl false (h0_0.map Qab)),.p (iV o.2.1),.p (bV o.2.2)]],[]⟩) h ⟨[],rfl,.refl _,.refl _,rfl⟩
 ·intro Qao' iQao h0_1 h0_2 o h
  refine CallOK.ofB mixed tbOk Qj5 Tryz.func95 rfl (by kernel_rfl) (Nat.le_of_ble_eq_true rfl) rfl rfl rfl ?_
  refine Qag _ _ h (fun x1 hy=>((Qap 5 h0_0 h0_1 h0_2 x1 hy).fr [0] [] rfl rfl rfl)) (fun x1 hy h=>?_)
  refine Qaf h (fun hb h=>?_) (fun hb h=>?_)
  ·refine Qag _ _ h (fun x2 hy=>((Qaj true h0_0 h0_1 h0_2 x2 hy).fr [0] [] rfl rfl rfl)) (fun x2 hy h=>?_)
   refine Exists.intro _ (And.intro (Le.refl _ _ _) ?_)
   exact Qa7 (t:=Qbu) (ss:=fun o=>⟨[[.p (.sl false (h0_0.map Qab)),.p (iV o.2.1),.p (bV o.2.2)]],[]⟩) h ⟨[],rfl,.p (.agg' (.cons (.refl _) (.cons (.refl _) (.cons (.refl _) (.cons (.refl _) (.cons (.not) (.cons (.not) (.cons (.not) (.nil))))))))),.refl _,rfl⟩
  ·refine Qag _ _ h (fun x3 hy=>((Qap 6 h0_0 h0_1 h0_2 x3 hy).fr [0] [] rfl rfl rfl)) (fun x3 hy h=>?_)
   refine Qaf h (fun hb h=>?_) (fun hb h=>?_)
   ·refine Qag _ _ h (fun x4 hy=>((Qaj true h0_0 h0_1 h0_2 x4 hy).fr [0] [] rfl rfl rfl)) (fun x4 hy h=>?_)
    refine Exists.intro _ (And.intro (Le.refl _ _ _) ?_)
    exact Qa7 (t:=Qbu) (ss:=fun o=>⟨[[.p (.sl false (h0_0.map Qab)),.p (iV o.2.1),.p (bV o.2.2)]],[]⟩) h ⟨[],rfl,.p (.agg' (.cons (.refl _) (.cons (.refl _) (.cons (.refl _) (.cons (.refl _) (.cons (.not) (.cons (.not) (.cons (.not) (.nil))))))))),.refl _,rfl⟩
   ·refine Qag _ _ h (fun x5 hy=>((Qbi [116,114,117,101] h0_0 h0_1 h0_2 x5 hy).fr [0] [] rfl rfl rfl)) (fun x5 hy h=>?_)
    refine Qaf h (fun hb h=>?_) (fun hb h=>?_)
    ·refine Qag _ _ h (fun x6 hy=>((Qaj true h0_0 h0_1 h0_2 x6 hy).fr [0] [] rfl rfl rfl)) (fun x6 hy h=>?_)
     refine Exists.intro _ (And.intro (Le.refl _ _ _) ?_)
     exact Qa7 (t:=Qbu) (ss:=fun o=>⟨[[.p (.sl false (h0_0.map Qab)),.p (iV o.2.1),.p (bV o.2.2)]],[]⟩) h ⟨[],rfl,.p (.agg' (.cons (.refl _) (.cons (.refl _) (.cons (.refl _) (.cons (.refl _) (.cons (.not) (.cons (.not) (.cons (.not) (.nil))))))))),.refl _,rfl⟩
    ·refine Qag _ _ h (fun x7 hy=>((Qbi [102,97,108,115,101] h0_0 h0_1 h0_2 x7 hy).fr [0] [] rfl rfl rfl)) (fun x7 hy h=>?_)
     refine Qaf h (fun hb h=>?_) (fun hb h=>?_)
     ·refine Qag _ _ h (fun x8 hy=>((Qaj true h0_0 h0_1 h0_2 x8 hy).fr [0] [] rfl rfl rfl)) (fun x8 hy h=>?_)
      refine Exists.intro _ (And.intro (Le.refl _ _ _) ?_)
      exact Qa7 (t:=Qbu) (ss:=fun o=>⟨[[.p (.sl false (h0_0.map Qab)),.p (iV o.2.1),.p (bV o.2.2)]],[]⟩) h ⟨[],rfl,.p (.agg' (.cons (.refl _) (.cons (.refl _) (.cons (.refl _) (.cons (.refl _) (.cons (.not) (.cons (.not) (.cons (.not) (.nil))))))))),.refl _,rfl⟩
     ·refine Qag _ _ h (fun x9 hy=>((Qbi [115,101,99,114,101,116] h0_0 h0_1 h0_2 x9 hy).fr [0] [] rfl rfl rfl)) (fun x9 hy h=>?_)
      refine Qaf h (fun hb h=>?_) (fun hb h=>?_)
      ·refine Qag _ _ h (fun x10 hy=>((Qaj true h0_0 h0_1 h0_2 x10 hy).fr [0] [] rfl rfl rfl)) (fun x10 hy h=>?_)
       refine Qag _ _ h (fun x11 hy=>((Qap 8 h0_0 x10.2.1 x10.2.2 x11 hy).fr [0] [] rfl rfl rfl)) (fun x11 hy h=>?_)
       refine Qag _ _ h (fun x12 hy=>((Qaj x11 h0_0 x10.2.1 x10.2.2 x12 hy).fr [0] [] rfl rfl rfl)) (fun x12 hy h=>?_)
       refine Qai h (fun o13 ho hk=>?_)
       refine Exists.intro (JP1 _ _ o13 .normal (Qnp h0_0)) (And.intro ?_ (join1 ?_))
       ·have h:=ho
        refine And.intro (by decide +kernel) (And.intro rfl ?_)
        refine Qqh (fun x14=>(Qc6 x14).ren [0] []) h (fun x14 hy=>(Qap 5 h0_0 x12.2.1 x12.2.2 x14 hy).fd rfl rfl [0] rfl rfl) (fun x14 hy h=>?_)
        refine Qaf h (fun hb h=>?_) (fun hb h=>?_)
        ·refine Qel (l:=h0_0) (c:=Qab) (c' := Qab) h (fun _=>rfl) (fun _=>rfl) (by decide) (fun x15 hi h=>?_)
         refine Qf1 [sV x15.Text] Qhs h (fun x16 hy=>(Qp0 x15.Text x16 hy)) (fun x16 hy h=>?_)
         refine Qkk _ _ h (fun x17 hy=>((Qaj x16 h0_0 x12.2.1 x12.2.2 x17 hy).fg [0] [] rfl rfl rfl (Nat.le_of_ble_eq_true rfl))) (fun x17 hy h=>?_)
         refine JP1.a h ?_
         exact Le.tz 3 0 rfl rfl rfl
        ·refine Qkk _ _ h (fun x18 hy=>((Qaj false h0_0 x12.2.1 x12.2.2 x18 hy).fg [0] [] rfl rfl rfl (Nat.le_of_ble_eq_true rfl))) (fun x18 hy h=>?_)
         refine JP1.a h ?_
         exact Le.tz 3 0 rfl rfl rfl
       ·have h:=hk
        refine Qag _ _ h (fun x19 hy=>((Qap 9 h0_0 o13.1 o13.2.1 x19 hy).fr [0] [] rfl rfl rfl)) (fun x19 hy h=>?_)
        refine Qag _ _ h (fun x20 hy=>((Qaj x19 h0_0 o13.1 o13.2.1 x20 hy).fr [0] [] rfl rfl rfl)) (fun x20 hy h=>?_)
        refine Exists.intro _ (And.intro (Le.refl _ _ _) ?_)
        exact Qa7 (t:=Qbu) (ss:=fun o=>⟨[[.p (.sl false (h0_0.map Qab)),.p (iV o.2.1),.p (bV o.2.2)]],[]⟩) h ⟨[],rfl,.p (.agg' (.cons (.refl _) (.cons (.refl _) (.cons (.refl _) (.cons (.refl _) (.cons (.not) (.cons (.not) (.cons (.not) (.nil))))))))),.refl _,rfl⟩
      ·refine Qag _ _ h (fun x21 hy=>((Qhb h0_0 h0_1 h0_2 x21 hy).fr [0] [] rfl rfl rfl)) (fun x21 hy h=>?_)
       refine Qag _ _ h (fun x22 hy=>((Qap 8 h0_0 x21.2.1 x21.2.2 x22 hy).fr [0] [] rfl rfl rfl)) (fun x22 hy h=>?_)
       refine Qaf h (fun hb h=>?_) (fun hb h=>?_)
       ·refine Exists.intro _ (And.intro (Le.refl _ _ _) ?_)
        exact Qa7 (t:=Qbu) (ss:=fun o=>⟨[[.p (.sl false (h0_0.map Qab)),.p (iV o.2.1),.p (bV o.2.2)]],[]⟩) h ⟨[],rfl,.p (.agg' (.cons (.refl _) (.cons (.refl _) (.cons (.refl _) (.cons (.refl _) (.cons (.not) (.cons (.not) (.cons (.not) (.nil))))))))),.refl _,rfl⟩
       ·refine Qag _ _ h (fun x23 hy=>((Qaj true h0_0 x21.2.1 x21.2.2 x23 hy).fr [0] [] rfl rfl rfl)) (fun x23 hy h=>?_)
        refine Qag _ _ h (fun x24 hy=>((Qap 9 h0_0 x23.2.1 x23.2.2 x24 hy).fr [0] [] rfl rfl rfl)) (fun x24 hy h=>?_)
        refine Qaf h (fun hb h=>?_) (fun hb h=>?_)
        ·refine Qag _ _ h (fun x25 hy=>((Qaj true h0_0 x23.2.1 x23.2.2 x25 hy).fr [0] [] rfl rfl rfl)) (fun x25 hy h=>?_)
         refine Exists.intro _ (And.intro (Le.refl _ _ _) ?_)
         exact Qa7 (t:=Qbu) (ss:=fun o=>⟨[[.p (.sl false (h0_0.map Qab)),.p (iV o.2.1),.p (bV o.2.2)]],[]⟩) h ⟨[],rfl,.p (.agg' (.cons (.refl _) (.cons (.refl _) (.cons (.refl _) (.cons (.refl _) (.cons (.not) (.cons (.not) (.cons (.not) (.nil))))))))),.refl _,rfl⟩
        ·refine Qai h (fun o26 ho hk=>?_)
         refine Exists.intro (JP1 _ _ o26 (.exit 0) (Qhm h0_0 x21)) (And.intro (T_le (τ := Qdb h0_0 x21 0 x23.2.1 x23.2.2 []) ?_ (TL.loop (iQao x21 0 x23.2.1 x23.2.2 [] o26 ho))) (join1 ?_))
         ·exact(Le.ownH 2 4 37 7 rfl rfl sizeNil).trans (Le.tz 3 1 rfl rfl rfl)
         have h:=hk
         refine Qag _ _ h (fun x33 hy=>((Qap 9 h0_0 o26.1 o26.2.1 x33 hy).fr [0] [] rfl rfl rfl)) (fun x33 hy h=>?_)
         refine Qag _ _ h (fun x34 hy=>((Qaj x33 h0_0 o26.1 o26.2.1 x34 hy).fr [0] [] rfl rfl rfl)) (fun x34 hy h=>?_)
         refine Exists.intro _ (And.intro (Le.refl _ _ _) ?_)
         exact Qa7 (t:=Qbu) (ss:=fun o=>⟨[[.p (.sl false (h0_0.map Qab)),.p (iV o.2.1),.p (bV o.2.2)]],[]⟩) h ⟨[],rfl,.p (.agg' (.cons (.refl _) (.cons (.refl _) (.cons (.refl _) (.cons (.refl _) (.cons (.refl _) (.cons (.not) (.cons (.not) (.nil))))))))),.refl _,rfl⟩
 ·intro Qat' Qao' iQat iQao x21 v5 h0_1_ h0_2_ h2_4 o26 h
  refine TL.round (Qam mixed tbOk (lv:=Qj5) _ _ _ ?_)
  refine Qai h (fun o27 ho hk=>?_)
  refine Exists.intro (JP1 _ _ o27 .normal (Qnq h0_0 x21 v5 h0_1_ h0_2_ h2_4)) (And.intro ?_ (join1 ?_))
  ·have h:=ho
   refine Qaf h (fun hb h=>?_) (fun hb h=>?_)
   ·refine JP1.a h ?_
    exact Le.tz 3 1 rfl rfl rfl
   ·refine JP1.a h ?_
    exact Le.tz 3 1 rfl rfl rfl
  ·have h:=hk
   refine Qaf h (fun hb h=>?_) (fun hb h=>?_)
   ·refine And.intro (by decide +kernel) (And.intro rfl ?_)
    refine Qkk _ _ h (fun x28 hy=>((iQat h0_1_ h0_2_ x28 hy).fg [0] [] rfl rfl rfl (Nat.le_of_ble_eq_true rfl))) (fun x28 hy h=>?_)
    refine Qpp (a:=h2_4) (b:=[x28.1]) (c:=Qae) h (.cons (.ceq (Qak _) (.refl _)) (.nil)) (fun x=>by rw[Qak]; rfl) rfl (fun x29 hi h=>?_)
    refine Qag _ _ h (fun x30 hy=>((Qap 9 h0_0 x28.2.1 x28.2.2 x30 hy).fr [0] [] rfl rfl rfl)) (fun x30 hy h=>?_)
    refine Qaf h (fun hb h=>?_) (fun hb h=>?_)
    ·exact JP1.a h (Le.tz 3 1 rfl rfl rfl)
    ·refine Qaf h (fun hb h=>?_) (fun hb h=>?_)
     ·refine Qag _ _ h (fun x31 hy=>((Qap 10 h0_0 x28.2.1 x28.2.2 x31 hy).fr [0] [] rfl rfl rfl)) (fun x31 hy h=>?_)
      refine Qag _ _ h (fun x32 hy=>((Qaj x31 h0_0 x28.2.1 x28.2.2 x32 hy).fr [0] [] rfl rfl rfl)) (fun x32 hy h=>?_)
      refine TL.le (τ := Qdb h0_0 x21 (wr (v5+1)) x32.2.1 x32.2.2 x29) ?_ ((iQao x21 (wr (v5+1)) x32.2.1 x32.2.2 x29 _ h))
      exact Le.tz 3 1 rfl rfl rfl
     ·refine TL.le (τ := Qdb h0_0 x21 (wr (v5+1)) x28.2.1 x28.2.2 x29) ?_ ((iQao x21 (wr (v5+1)) x28.2.1 x28.2.2 x29 _ h))
      exact Le.tz 3 1 rfl rfl rfl
   ·exact JP1.a h (Le.tz 3 1 rfl rfl rfl)
theorem Qhc:∀ (h0_0:(List Qac)) (h0_1:Int) (h0_2:Bool) (o:Qaa×Int×Bool),Qat h0_0 h0_1 h0_2=some o→CallOK Tryz.prog 67 [.ptr 0 0] ⟨[[.p (.sl false (h0_0.map Qab)),.p (iV h0_1),.p (bV h0_2)]],[]⟩ (Qhw o) ⟨[[.p (.sl false (h0_0.map Qab)),.p (iV o.2.1),.p (bV o.2.2)]],[]⟩:=fun h0_0 h0_1 h0_2=>(Qp1 h0_0).1 h0_1 h0_2
noncomputable def Qa3 (h0_0:(List Qac)) (h0_1:Int) (h0_2:Bool):Option (Int×Bool) :=
 Qan 3 h0_0 h0_1 h0_2>>=fun x1 =>
 Qah x1 h0_0 h0_1 h0_2>>=fun x2 =>
 some (x2.2.1,x2.2.2)
theorem Qeg:∀ (h0_0:(List Qac)) (h0_1:Int) (h0_2:Bool) (o:Int×Bool),Qa3 h0_0 h0_1 h0_2=some o→CallOK Tryz.prog 68 [.ptr 0 0] ⟨[[.p (.sl false (h0_0.map Qab)),.p (iV h0_1),.p (bV h0_2)]],[]⟩ (Qkp o) ⟨[[.p (.sl false (h0_0.map Qab)),.p (iV o.1),.p (bV o.2)]],[]⟩:=by
 intro h0_0 h0_1 h0_2 o h
 unfold Qa3 at h
 refine CallOK.ofB mixed tbOk Qpw Tryz.func68 rfl (by kernel_rfl) (Nat.le_of_ble_eq_true rfl) rfl rfl rfl ?_
 refine Qag _ _ h (fun x1 hy=>((Qap 3 h0_0 h0_1 h0_2 x1 hy).fr [0] [] rfl rfl rfl)) (fun x1 hy h=>?_)
 refine Qag _ _ h (fun x2 hy=>((Qaj x1 h0_0 h0_1 h0_2 x2 hy).fr [0] [] rfl rfl rfl)) (fun x2 hy h=>?_)
 refine Exists.intro _ (And.intro (Le.refl _ _ _) ?_)
 exact Qa7 (t:=Qkp) (ss:=fun o=>⟨[[.p (.sl false (h0_0.map Qab)),.p (iV o.1),.p (bV o.2)]],[]⟩) h ⟨[],rfl,.refl _,.refl _,rfl⟩
noncomputable def Qb7 (p1:(List UInt8)) (h0_0:(List Qac)) (h0_1:Int) (h0_2:Bool):Option (Int×Bool) :=
 Qan 2 h0_0 h0_1 h0_2>>=fun x1 =>
 Qah x1 h0_0 h0_1 h0_2>>=fun x2 =>
 Qbd p1 h0_0 x2.2.1 x2.2.2>>=fun x3 =>
 Qah x3 h0_0 x2.2.1 x2.2.2>>=fun x4 =>
 Qa3 h0_0 x4.2.1 x4.2.2>>=fun x5 =>
 some (x5.1,x5.2)
theorem Qh0:∀ (p1:(List UInt8)) (h0_0:(List Qac)) (h0_1:Int) (h0_2:Bool) (o:Int×Bool),Qb7 p1 h0_0 h0_1 h0_2=some o→CallOK Tryz.prog 69 [.ptr 0 0,.p (sV p1)] ⟨[[.p (.sl false (h0_0.map Qab)),.p (iV h0_1),.p (bV h0_2)]],[]⟩ (Qmr o) ⟨[[.p (.sl false (h0_0.map Qab)),.p (iV o.1),.p (bV o.2)]],[]⟩:=by
 intro p1 h0_0 h0_1 h0_2 o h
 unfold Qb7 at h
 refine CallOK.ofB mixed tbOk Qrq Tryz.func69 rfl (by kernel_rfl) (Nat.le_of_ble_eq_true rfl) rfl rfl rfl ?_
 refine Qag _ _ h (fun x1 hy=>((Qap 2 h0_0 h0_1 h0_2 x1 hy).fr [0] [] rfl rfl rfl)) (fun x1 hy h=>?_)
 refine Qag _ _ h (fun x2 hy=>((Qaj x1 h0_0 h0_1 h0_2 x2 hy).fr [0] [] rfl rfl rfl)) (fun x2 hy h=>?_)
 refine Qag _ _ h (fun x3 hy=>((Qbi p1 h0_0 x2.2.1 x2.2.2 x3 hy).fr [0] [] rfl rfl rfl)) (fun x3 hy h=>?_)
 refine Qag _ _ h (fun x4 hy=>((Qaj x3 h0_0 x2.2.1 x2.2.2 x4 hy).fr [0] [] rfl rfl rfl)) (fun x4 hy h=>?_)
 refine Qag _ _ h (fun x5 hy=>((Qeg h0_0 x4.2.1 x4.2.2 x5 hy).fr [0] [] rfl rfl rfl)) (fun x5 hy h=>?_)
 refine Exists.intro _ (And.intro (Le.refl _ _ _) ?_)
 exact Qa7 (t:=Qmr) (ss:=fun o=>⟨[[.p (.sl false (h0_0.map Qab)),.p (iV o.1),.p (bV o.2)]],[]⟩) h ⟨[],rfl,.refl _,.refl _,rfl⟩
mutual
noncomputable def Qas (p1:Bool) (p2:Bool) (h0_0:(List Qac)) (h0_1:Int) (h0_2:Bool):Option ((List Qaa)×Int×Bool) :=
 (Qa4 p1 p2 h0_0 [] h0_1 h0_2)>>=fun o1 =>
 match o1 with
 | .inl y2 =>
  some (y2.1,y2.2.1,y2.2.2)
 | .inr y3 =>
  some (y3.1,y3.2.1,y3.2.2)
 partial_fixpoint
noncomputable def Qa4 (p1:Bool) (p2:Bool) (h0_0:(List Qac)) (v7:(List Qaa)) (h0_1_:Int) (h0_2_:Bool):Option (((List Qaa)×Int×Bool)⊕((List Qaa)×Int×Bool)) :=
 ( if(!h0_2_) then
   some (decide (h0_1_<(h0_0.length:Int)))
  else
   some false:Option (Bool))>>=fun o4 =>
 if o4 then
  Qan 1 h0_0 h0_1_ h0_2_>>=fun x5 =>
  if x5 then
   Qah true h0_0 h0_1_ h0_2_>>=fun x6 =>
   ( if(decide ((wr ((v7.length:Int)-1)) ≥ 0)) then
     idx v7 (wr ((v7.length:Int)-1))>>=fun x8 =>
     some (x8.Kind==8)
    else
     some false:Option (Bool))>>=fun o7 =>
   if o7 then
    idx v7 (wr ((v7.length:Int)-1))>>=fun x9 =>
    need (x9.Text.length+x6.1.Text.length≤9223372036854775807)>>=fun _ =>
    idx v7 (wr ((v7.length:Int)-1))>>=fun x10 =>
    Qa4 p1 p2 h0_0 (v7.set ((wr ((v7.length:Int)-1)).toNat) (Qaa.mk x10.Kind x10.Name (x9.Text++x6.1.Text) x10.N x10.L x10.Then x10.Else)) x6.2.1 x6.2.2
   else
    appL 120 v7 ([(Qaa.mk 8 [] x6.1.Text 0 [] [] [])])>>=fun x11 =>
    Qa4 p1 p2 h0_0 x11 x6.2.1 x6.2.2
  else
   ( if p1 then
     Qbm [101,110,100] h0_0 h0_1_ h0_2_>>=fun x13 =>
     if x13 then
      some true
     else
      if p2 then
       Qbm [101,108,115,101] h0_0 h0_1_ h0_2_>>=fun x14 =>
       some x14
      else
       some false
    else
     if p2 then
      Qbm [101,108,115,101] h0_0 h0_1_ h0_2_>>=fun x15 =>
      some x15
     else
      some false:Option (Bool))>>=fun o12 =>
   if o12 then
    some (.inr (v7,h0_1_,h0_2_))
   else
    Qan 2 h0_0 h0_1_ h0_2_>>=fun x16 =>
    Qah x16 h0_0 h0_1_ h0_2_>>=fun x17 =>
    Qan 3 h0_0 x17.2.1 x17.2.2>>=fun x18 =>
    if x18 then
     Qah true h0_0 x17.2.1 x17.2.2>>=fun x19 =>
     Qa4 p1 p2 h0_0 v7 x19.2.1 x19.2.2
    else
     Qct h0_0 x17.2.1 x17.2.2>>=fun x20 =>
     appL 120 v7 [x20.1]>>=fun x21 =>
     Qa4 p1 p2 h0_0 x21 x20.2.1 x20.2.2
 else
  some (.inl (v7,h0_1_,h0_2_))
 partial_fixpoint
noncomputable def Qct (h0_0:(List Qac)) (h0_1:Int) (h0_2:Bool):Option (Qaa×Int×Bool) :=
 Qbd [105,102] h0_0 h0_1 h0_2>>=fun x1 =>
 if x1 then
  Qah true h0_0 h0_1 h0_2>>=fun x2 =>
  Qat h0_0 x2.2.1 x2.2.2>>=fun x3 =>
  Qa3 h0_0 x3.2.1 x3.2.2>>=fun x4 =>
  Qas true true h0_0 x4.1 x4.2>>=fun x5 =>
  ( Qbm [101,108,115,101] h0_0 x5.2.1 x5.2.2>>=fun x7 =>
   if x7 then
    Qb7 [101,108,115,101] h0_0 x5.2.1 x5.2.2>>=fun x8 =>
    Qas true false h0_0 x8.1 x8.2>>=fun x9 =>
    some (x9.2.1,x9.2.2,x9.1)
   else
    some (x5.2.1,x5.2.2,[]):Option ((Int×Bool×(List Qaa))))>>=fun o6 =>
  Qb7 [101,110,100] h0_0 o6.1 o6.2.1>>=fun x10 =>
  some ((Qaa.mk 10 [] [] 0 [x3.1] x5.1 o6.2.2),x10.1,x10.2)
 else
  ( Qbd [101,97,99,104] h0_0 h0_1 h0_2>>=fun x12 =>
   if x12 then
    some true
   else
    Qbd [108,101,116] h0_0 h0_1 h0_2>>=fun x13 =>
    some x13:Option (Bool))>>=fun o11 =>
  if o11 then
   ( Qbd [108,101,116] h0_0 h0_1 h0_2>>=fun x15 =>
    if x15 then
     some 12
    else
     some 11:Option (Int))>>=fun o14 =>
   Qah true h0_0 h0_1 h0_2>>=fun x16 =>
   Qch h0_0 x16.2.1 x16.2.2>>=fun x17 =>
   ( if(o14==11) then
     Qbd [105,110] h0_0 x17.2.1 x17.2.2>>=fun x19 =>
     Qah x19 h0_0 x17.2.1 x17.2.2>>=fun x20 =>
     some (x20.2.1,x20.2.2)
    else
     Qan 11 h0_0 x17.2.1 x17.2.2>>=fun x21 =>
     Qah x21 h0_0 x17.2.1 x17.2.2>>=fun x22 =>
     some (x22.2.1,x22.2.2):Option ((Int×Bool)))>>=fun o18 =>
   Qat h0_0 o18.1 o18.2>>=fun x23 =>
   Qa3 h0_0 x23.2.1 x23.2.2>>=fun x24 =>
   Qas true false h0_0 x24.1 x24.2>>=fun x25 =>
   Qb7 [101,110,100] h0_0 x25.2.1 x25.2.2>>=fun x26 =>
   some ((Qaa.mk o14 x17.1 [] 0 [x23.1] x25.1 []),x26.1,x26.2)
  else
   ( Qbd [117,115,101] h0_0 h0_1 h0_2>>=fun x28 =>
    if x28 then
     Qah true h0_0 h0_1 h0_2>>=fun x29 =>
     Qch h0_0 x29.2.1 x29.2.2>>=fun x30 =>
     some (x30.2.1,x30.2.2,13,x30.1)
    else
     some (h0_1,h0_2,9,[]):Option ((Int×Bool×Int×(List UInt8))))>>=fun o27 =>
   Qat h0_0 o27.1 o27.2.1>>=fun x31 =>
   Qa3 h0_0 x31.2.1 x31.2.2>>=fun x32 =>
   some ((Qaa.mk o27.2.2.1 o27.2.2.2 [] 0 [x31.1] [] []),x32.1,x32.2)
 partial_fixpoint
end
theorem Qpc:∀ (h0_0:(List Qac)),(∀ (p1:Bool) (p2:Bool) (h0_1:Int) (h0_2:Bool) (o:(List Qaa)×Int×Bool),Qas p1 p2 h0_0 h0_1 h0_2=some o→CallOK Tryz.prog 21 [.ptr 0 0,.p (bV p1),.p (bV p2)] ⟨[[.p (.sl false (h0_0.map Qab)),.p (iV h0_1),.p (bV h0_2)]],[]⟩ (Qe0 o) ⟨[[.p (.sl false (h0_0.map Qab)),.p (iV o.2.1),.p (bV o.2.2)]],[]⟩)∧(∀ (p1:Bool) (p2:Bool) (v7:(List Qaa)) (h0_1_:Int) (h0_2_:Bool) (o1:((List Qaa)×Int×Bool)⊕((List Qaa)×Int×Bool)),Qa4 p1 p2 h0_0 v7 h0_1_ h0_2_=some o1→TL (1,0) Tryz.prog 89 Qno (JP2 (1,0) 89 o1 (.exit 0) (Qhk p1 p2 h0_0) .ret (Qhl p1 p2 h0_0)) (Qb6 p1 p2 h0_0 v7 h0_1_ h0_2_))∧(∀ (h0_1:Int) (h0_2:Bool) (o:Qaa×Int×Bool),Qct h0_0 h0_1 h0_2=some o→CallOK Tryz.prog 45 [.ptr 0 0] ⟨[[.p (.sl false (h0_0.map Qab)),.p (iV h0_1),.p (bV h0_2)]],[]⟩ (Qd9 o) ⟨[[.p (.sl false (h0_0.map Qab)),.p (iV o.2.1),.p (bV o.2.2)]],[]⟩):=by
 intro h0_0
 refine Qas.mutual_partial_correctness h0_0 _ _ _ ?_ ?_ ?_
 ·intro Qa4' iQa4 p1 p2 h0_1 h0_2 o h
  refine CallOK.ofB mixed tbOk Qj4 Tryz.func21 rfl (by kernel_rfl) (Nat.le_of_ble_eq_true rfl) rfl rfl rfl ?_
  refine Qai h (fun o1 ho hk=>?_)
  refine Exists.intro (JP2 _ _ o1 (.exit 0) (Qhk p1 p2 h0_0) .ret (Qhl p1 p2 h0_0)) (And.intro (T_le (τ := Qb6 p1 p2 h0_0 [] h0_1 h0_2) ?_ (TL.loop (iQa4 p1 p2 [] h0_1 h0_2 o1 ho))) (join2 (fun y2 hy=>?_) (fun y3 hy=>?_)))
  ·exact Le.trans (τ := ⟨[(0,.ptr 0 0),(1,.p (bV p1)),(2,.p (bV p2)),(7,.p (.sl true []))],⟨[[.p (.sl false (h0_0.map Qab)),.p (iV h0_1),.p (bV h0_2)]],[]⟩⟩) (Le.tz 1 0 rfl rfl rfl) ((Le.xnil (.s 7) 37 7 rfl).trans (Le.tz 1 1 rfl rfl rfl))
  ·have h:=(by rw[hy] at hk; exact hk)
   refine Exists.intro _ (And.intro (Le.frzv (.s 7) 0 1 rfl rfl rfl rfl) ?_)
   refine Exists.intro _ (And.intro (Le.refl _ _ _) ?_)
   exact Qa7 (t:=Qe0) (ss:=fun o=>⟨[[.p (.sl false (h0_0.map Qab)),.p (iV o.2.1),.p (bV o.2.2)]],[]⟩) h ⟨[],rfl,.refl _,.refl _,rfl⟩
  ·have h:=(by rw[hy] at hk; exact hk)
   refine Exists.intro _ (And.intro (Le.refl _ _ _) ?_)
   exact Qa7 (t:=Qe0) (ss:=fun o=>⟨[[.p (.sl false (h0_0.map Qab)),.p (iV o.2.1),.p (bV o.2.2)]],[]⟩) h ⟨[],rfl,.refl _,.refl _,rfl⟩
 ·intro Qa4' Qct' iQa4 iQct p1 p2 v7 h0_1_ h0_2_ o1 h
  refine TL.round (Qam mixed tbOk (lv:=Qj4) _ _ _ ?_)
  refine Qai h (fun o4 ho hk=>?_)
  refine Exists.intro (JP1 _ _ o4 .normal (Qnl p1 p2 h0_0 v7 h0_1_ h0_2_)) (And.intro ?_ (join1 ?_))
  ·have h:=ho
   refine And.intro (by decide +kernel) (And.intro rfl ?_)
   refine Qaf h (fun hb h=>?_) (fun hb h=>?_)
   ·refine view (lenMap _ _) rfl ?_
    refine JP1.a h ?_
    exact Le.tz 1 1 rfl rfl rfl
   ·refine JP1.a h ?_
    exact Le.tz 1 1 rfl rfl rfl
  ·have h:=hk
   refine Qaf h (fun hb h=>?_) (fun hb h=>?_)
   ·refine Qag _ _ h (fun x5 hy=>((Qap 1 h0_0 h0_1_ h0_2_ x5 hy).fr [0] [] rfl rfl rfl)) (fun x5 hy h=>?_)
    refine Qaf h (fun hb h=>?_) (fun hb h=>?_)
    ·refine Qag _ _ h (fun x6 hy=>((Qaj true h0_0 h0_1_ h0_2_ x6 hy).fr [0] [] rfl rfl rfl)) (fun x6 hy h=>?_)
     refine And.intro rfl (Exists.intro _ (And.intro (List.length_map _) ?_))
     refine Qai h (fun o7 ho hk=>?_)
     refine Exists.intro (JP1 _ _ o7 .normal (Qnm p1 p2 h0_0 v7 x6)) (And.intro ?_ (join1 ?_))
     ·have h:=ho
      refine Qaf h (fun hb h=>?_) (fun hb h=>?_)
      ·refine Qrm (l:=v7) (c:=Qae) (c' := Qb1) h rfl Qak (fun _=>rfl) (by decide) (fun x8 hi h=>?_)
       refine And.intro rfl ?_
       refine And.intro rfl (And.intro (Nat.le_of_ble_eq_true rfl) ?_)
       refine JP1.a h ?_
       exact Le.tz 1 1 rfl rfl rfl
      ·refine JP1.a h ?_
       exact Le.tz 1 1 rfl rfl rfl
     ·have h:=hk
      refine Qaf h (fun hb h=>?_) (fun hb h=>?_)
      ·refine Qrm (l:=v7) (c:=Qae) (c' := Qb1) h rfl Qak (fun _=>rfl) (by decide) (fun x9 hi h=>?_)
       refine And.intro rfl ?_
       refine And.intro rfl (And.intro (Nat.le_of_ble_eq_true rfl) ?_)
       refine Qkw h (fun h=>?_)
       refine Qrm (l:=v7) (c:=Qae) (c' := Qb1) h rfl Qak (fun _=>rfl) (by decide) (fun x10 hi h=>?_)
       refine And.intro rfl ?_
       refine And.intro rfl (And.intro (Nat.le_of_ble_eq_true rfl) (And.intro rfl (And.intro rfl (Exists.intro ((v7.set ((wr ((v7.length:Int)-1)).toNat) (Qaa.mk x10.Kind x10.Name (x9.Text++x6.1.Text) x10.N x10.L x10.Then x10.Else)).map Qae) (And.intro (setMap (.ceq (Qak _) (.refl _))) ?_)))))
       refine TL.le (τ := Qb6 p1 p2 h0_0 (v7.set ((wr ((v7.length:Int)-1)).toNat) (Qaa.mk x10.Kind x10.Name (x9.Text++x6.1.Text) x10.N x10.L x10.Then x10.Else)) x6.2.1 x6.2.2) ?_ ((iQa4 p1 p2 (v7.set ((wr ((v7.length:Int)-1)).toNat) (Qaa.mk x10.Kind x10.Name (x9.Text++x6.1.Text) x10.N x10.L x10.Then x10.Else)) x6.2.1 x6.2.2 _ h))
       exact Le.trans (τ := ⟨[(0,.ptr 0 0),(1,.p (bV p1)),(2,.p (bV p2)),(7,.x 0 2 (.sl 37 7 ((v7.set ((wr ((v7.length:Int)-1)).toNat) (Qaa.mk x10.Kind x10.Name (x9.Text++x6.1.Text) x10.N x10.L x10.Then x10.Else)).map Qae)))],⟨[[.p (.sl false (h0_0.map Qab)),.p (iV x6.2.1),.p (bV x6.2.2)]],[2]⟩⟩) (Le.tz 1 1 rfl rfl rfl) ((Le.ver (.s 7) 0 2 1 rfl rfl rfl rfl).trans (Le.tz 1 1 rfl rfl rfl))
      ·refine Qw6 (a:=v7) (b:=[(Qaa.mk 8 [] x6.1.Text 0 [] [] [])]) (c:=Qae) h (.cons (.ceq (Qak _) (.cons (.refl _) (.cons (.refl _) (.cons (.refl _) (.cons (.refl _) (.cons (.not) (.cons (.not) (.cons (.not) (.nil))))))))) (.nil)) (fun x=>by rw[Qak]; rfl) rfl (fun x11 hi h=>?_)
       refine TL.le (τ := Qb6 p1 p2 h0_0 x11 x6.2.1 x6.2.2) ?_ ((iQa4 p1 p2 x11 x6.2.1 x6.2.2 _ h))
       exact Le.trans (τ := ⟨[(0,.ptr 0 0),(1,.p (bV p1)),(2,.p (bV p2)),(7,.x 0 2 (.sl 37 7 (x11.map Qae)))],⟨[[.p (.sl false (h0_0.map Qab)),.p (iV x6.2.1),.p (bV x6.2.2)]],[2]⟩⟩) (Le.tz 1 1 rfl rfl rfl) ((Le.ver (.s 7) 0 2 1 rfl rfl rfl rfl).trans (Le.tz 1 1 rfl rfl rfl))
    ·refine Qai h (fun o12 ho hk=>?_)
     refine Exists.intro (JP1 _ _ o12 .normal (Qnn p1 p2 h0_0 v7 h0_1_ h0_2_)) (And.intro ?_ (join1 ?_))
     ·have h:=ho
      refine Qaf h (fun hb h=>?_) (fun hb h=>?_)
      ·refine Qag _ _ h (fun x13 hy=>((Qef [101,110,100] h0_0 h0_1_ h0_2_ x13 hy).fr [0] [] rfl rfl rfl)) (fun x13 hy h=>?_)
       refine Qaf h (fun hb h=>?_) (fun hb h=>?_)
       ·refine JP1.a h ?_
        exact Le.tz 1 1 rfl rfl rfl
       ·refine Qaf h (fun hb h=>?_) (fun hb h=>?_)
        ·refine Qag _ _ h (fun x14 hy=>((Qef [101,108,115,101] h0_0 h0_1_ h0_2_ x14 hy).fr [0] [] rfl rfl rfl)) (fun x14 hy h=>?_)
         refine JP1.a h ?_
         exact Le.tz 1 1 rfl rfl rfl
        ·refine JP1.a h ?_
         exact Le.tz 1 1 rfl rfl rfl
      ·refine bF ?_
       refine Qaf h (fun hb h=>?_) (fun hb h=>?_)
       ·refine Qag _ _ h (fun x15 hy=>((Qef [101,108,115,101] h0_0 h0_1_ h0_2_ x15 hy).fr [0] [] rfl rfl rfl)) (fun x15 hy h=>?_)
        refine JP1.a h ?_
        exact Le.tz 1 1 rfl rfl rfl
       ·refine JP1.a h ?_
        exact Le.tz 1 1 rfl rfl rfl
     ·have h:=hk
      refine Qaf h (fun hb h=>?_) (fun hb h=>?_)
      ·refine Exists.intro _ (And.intro (Le.frzv (.s 7) 0 1 rfl rfl rfl rfl) ?_)
       exact JP2.b h (Le.tz 1 1 rfl rfl rfl)
      ·refine Qag _ _ h (fun x16 hy=>((Qap 2 h0_0 h0_1_ h0_2_ x16 hy).fr [0] [] rfl rfl rfl)) (fun x16 hy h=>?_)
       refine Qag _ _ h (fun x17 hy=>((Qaj x16 h0_0 h0_1_ h0_2_ x17 hy).fr [0] [] rfl rfl rfl)) (fun x17 hy h=>?_)
       refine Qag _ _ h (fun x18 hy=>((Qap 3 h0_0 x17.2.1 x17.2.2 x18 hy).fr [0] [] rfl rfl rfl)) (fun x18 hy h=>?_)
       refine Qaf h (fun hb h=>?_) (fun hb h=>?_)
       ·refine Qag _ _ h (fun x19 hy=>((Qaj true h0_0 x17.2.1 x17.2.2 x19 hy).fr [0] [] rfl rfl rfl)) (fun x19 hy h=>?_)
        refine TL.le (τ := Qb6 p1 p2 h0_0 v7 x19.2.1 x19.2.2) ?_ ((iQa4 p1 p2 v7 x19.2.1 x19.2.2 _ h))
        exact Le.tz 1 1 rfl rfl rfl
       ·refine Qag _ _ h (fun x20 hy=>((iQct x17.2.1 x17.2.2 x20 hy).fr [0] [] rfl rfl rfl)) (fun x20 hy h=>?_)
        refine Qw6 (a:=v7) (b:=[x20.1]) (c:=Qae) h (.cons (.ceq (Qak _) (.refl _)) (.nil)) (fun x=>by rw[Qak]; rfl) rfl (fun x21 hi h=>?_)
        refine TL.le (τ := Qb6 p1 p2 h0_0 x21 x20.2.1 x20.2.2) ?_ ((iQa4 p1 p2 x21 x20.2.1 x20.2.2 _ h))
        exact Le.trans (τ := ⟨[(0,.ptr 0 0),(1,.p (bV p1)),(2,.p (bV p2)),(7,.x 0 2 (.sl 37 7 (x21.map Qae)))],⟨[[.p (.sl false (h0_0.map Qab)),.p (iV x20.2.1),.p (bV x20.2.2)]],[2]⟩⟩) (Le.tz 1 1 rfl rfl rfl) ((Le.ver (.s 7) 0 2 1 rfl rfl rfl rfl).trans (Le.tz 1 1 rfl rfl rfl))
   ·exact JP2.a h (Le.tz 1 1 rfl rfl rfl)
 ·intro Qas' iQas h0_1 h0_2 o h
  refine CallOK.ofB mixed tbOk Qoz Tryz.func45 rfl (by kernel_rfl) (Nat.le_of_ble_eq_true rfl) rfl rfl rfl ?_
  refine Qag _ _ h (fun x1 hy=>((Qbi [105,102] h0_0 h0_1 h0_2 x1 hy).fr [0] [] rfl rfl rfl)) (fun x1 hy h=>?_)
  refine Qaf h (fun hb h=>?_) (fun hb h=>?_)
  ·refine Qag _ _ h (fun x2 hy=>((Qaj true h0_0 h0_1 h0_2 x2 hy).fr [0] [] rfl rfl rfl)) (fun x2 hy h=>?_)
   refine Qag _ _ h (fun x3 hy=>((Qhc h0_0 x2.2.1 x2.2.2 x3 hy).fr [0] [] rfl rfl rfl)) (fun x3 hy h=>?_)
   refine Qag _ _ h (fun x4 hy=>((Qeg h0_0 x3.2.1 x3.2.2 x4 hy).fr [0] [] rfl rfl rfl)) (fun x4 hy h=>?_)
   refine Qag _ _ h (fun x5 hy=>((iQas true true x4.1 x4.2 x5 hy).fr [0] [] rfl rfl rfl)) (fun x5 hy h=>?_)
   refine Qai h (fun o6 ho hk=>?_)
   refine Exists.intro (JP1 _ _ o6 .normal (Qmv h0_0 x3 x5)) (And.intro ?_ (join1 ?_))
   ·have h:=ho
    refine Qag _ _ h (fun x7 hy=>((Qef [101,108,115,101] h0_0 x5.2.1 x5.2.2 x7 hy).fr [0] [] rfl rfl rfl)) (fun x7 hy h=>?_)
    refine Qaf h (fun hb h=>?_) (fun hb h=>?_)
    ·refine Qag _ _ h (fun x8 hy=>((Qh0 [101,108,115,101] h0_0 x5.2.1 x5.2.2 x8 hy).fr [0] [] rfl rfl rfl)) (fun x8 hy h=>?_)
     refine Qag _ _ h (fun x9 hy=>((iQas true false x8.1 x8.2 x9 hy).fr [0] [] rfl rfl rfl)) (fun x9 hy h=>?_)
     refine JP1.a h ?_
     exact Le.tow 3 0 rfl (.cons rfl (.refl _) (.cons rfl (.refl _) (.cons rfl (.refl _) (.nil)))) (.cons (.refl _) (.cons (.refl _) (.cons (.cons (.refl _) (.cons (.refl _) (.cons (.refl _) (.cons (.refl _) (.cons (.p (.sl' (fun h=>h) (.cons (.ceq (Qak _) (.refl _)) (.nil)))) (.cons (.refl _) (.cons (.refl _) (.nil)))))))) (.nil)))) rfl
    ·refine JP1.a h ?_
     exact Le.tow 3 0 rfl (.cons rfl (.refl _) (.cons rfl (.refl _) (.cons rfl (.refl _) (.nil)))) (.cons (.refl _) (.cons (.refl _) (.cons (.cons (.refl _) (.cons (.refl _) (.cons (.refl _) (.cons (.refl _) (.cons (.p (.sl' (fun h=>h) (.cons (.ceq (Qak _) (.refl _)) (.nil)))) (.cons (.refl _) (.cons (.p (.not)) (.nil)))))))) (.nil)))) rfl
   ·have h:=hk
    refine Qag _ _ h (fun x10 hy=>((Qh0 [101,110,100] h0_0 o6.1 o6.2.1 x10 hy).fr [0] [] rfl rfl rfl)) (fun x10 hy h=>?_)
    refine Exists.intro _ (And.intro (Le.refl _ _ _) ?_)
    exact Qa7 (t:=Qd9) (ss:=fun o=>⟨[[.p (.sl false (h0_0.map Qab)),.p (iV o.2.1),.p (bV o.2.2)]],[]⟩) h ⟨[],rfl,.p (.agg' (.cons (.refl _) (.cons (.refl _) (.cons (.refl _) (.cons (.refl _) (.cons (.not) (.cons (.refl _) (.cons (.refl _) (.nil))))))))),.refl _,rfl⟩
  ·refine Qai h (fun o11 ho hk=>?_)
   refine Exists.intro (JP1 _ _ o11 .normal (Qmw h0_0 h0_1 h0_2)) (And.intro ?_ (join1 ?_))
   ·have h:=ho
    refine Qag _ _ h (fun x12 hy=>((Qbi [101,97,99,104] h0_0 h0_1 h0_2 x12 hy).fr [0] [] rfl rfl rfl)) (fun x12 hy h=>?_)
    refine Qaf h (fun hb h=>?_) (fun hb h=>?_)
    ·refine JP1.a h ?_
     exact Le.tz 2 0 rfl rfl rfl
    ·refine Qag _ _ h (fun x13 hy=>((Qbi [108,101,116] h0_0 h0_1 h0_2 x13 hy).fr [0] [] rfl rfl rfl)) (fun x13 hy h=>?_)
     refine JP1.a h ?_
     exact Le.tz 2 0 rfl rfl rfl
   ·have h:=hk
    refine Qaf h (fun hb h=>?_) (fun hb h=>?_)
    ·refine Qai h (fun o14 ho hk=>?_)
     refine Exists.intro (JP1 _ _ o14 .normal (Qmx h0_0 h0_1 h0_2)) (And.intro ?_ (join1 ?_))
     ·have h:=ho
      refine Qag _ _ h (fun x15 hy=>((Qbi [108,101,116] h0_0 h0_1 h0_2 x15 hy).fr [0] [] rfl rfl rfl)) (fun x15 hy h=>?_)
      refine Qaf h (fun hb h=>?_) (fun hb h=>?_)
      ·refine JP1.a h ?_
       exact Le.tz 3 0 rfl rfl rfl
      ·refine JP1.a h ?_
       exact Le.tz 3 0 rfl rfl rfl
     ·have h:=hk
      refine Qag _ _ h (fun x16 hy=>((Qaj true h0_0 h0_1 h0_2 x16 hy).fr [0] [] rfl rfl rfl)) (fun x16 hy h=>?_)
      refine Qag _ _ h (fun x17 hy=>((Qhb h0_0 x16.2.1 x16.2.2 x17 hy).fr [0] [] rfl rfl rfl)) (fun x17 hy h=>?_)
      refine Qai h (fun o18 ho hk=>?_)
      refine Exists.intro (JP1 _ _ o18 .normal (Qmy h0_0 o14 x17)) (And.intro ?_ (join1 ?_))
      ·have h:=ho
       refine Qaf h (fun hb h=>?_) (fun hb h=>?_)
       ·refine Qag _ _ h (fun x19 hy=>((Qbi [105,110] h0_0 x17.2.1 x17.2.2 x19 hy).fr [0] [] rfl rfl rfl)) (fun x19 hy h=>?_)
        refine Qag _ _ h (fun x20 hy=>((Qaj x19 h0_0 x17.2.1 x17.2.2 x20 hy).fr [0] [] rfl rfl rfl)) (fun x20 hy h=>?_)
        refine JP1.a h ?_
        exact Le.tz 3 0 rfl rfl rfl
       ·refine Qag _ _ h (fun x21 hy=>((Qap 11 h0_0 x17.2.1 x17.2.2 x21 hy).fr [0] [] rfl rfl rfl)) (fun x21 hy h=>?_)
        refine Qag _ _ h (fun x22 hy=>((Qaj x21 h0_0 x17.2.1 x17.2.2 x22 hy).fr [0] [] rfl rfl rfl)) (fun x22 hy h=>?_)
        refine JP1.a h ?_
        exact Le.tz 3 0 rfl rfl rfl
      ·have h:=hk
       refine Qag _ _ h (fun x23 hy=>((Qhc h0_0 o18.1 o18.2 x23 hy).fr [0] [] rfl rfl rfl)) (fun x23 hy h=>?_)
       refine Qag _ _ h (fun x24 hy=>((Qeg h0_0 x23.2.1 x23.2.2 x24 hy).fr [0] [] rfl rfl rfl)) (fun x24 hy h=>?_)
       refine Qag _ _ h (fun x25 hy=>((iQas true false x24.1 x24.2 x25 hy).fr [0] [] rfl rfl rfl)) (fun x25 hy h=>?_)
       refine Qag _ _ h (fun x26 hy=>((Qh0 [101,110,100] h0_0 x25.2.1 x25.2.2 x26 hy).fr [0] [] rfl rfl rfl)) (fun x26 hy h=>?_)
       refine Exists.intro _ (And.intro (Le.refl _ _ _) ?_)
       exact Qa7 (t:=Qd9) (ss:=fun o=>⟨[[.p (.sl false (h0_0.map Qab)),.p (iV o.2.1),.p (bV o.2.2)]],[]⟩) h ⟨[],rfl,.p (.agg' (.cons (.refl _) (.cons (.refl _) (.cons (.refl _) (.cons (.refl _) (.cons (.no (.cons (.ceq (Qak _) (.refl _)) (.nil))) (.cons (.refl _) (.cons (.not) (.nil))))))))),.refl _,rfl⟩
    ·refine Qai h (fun o27 ho hk=>?_)
     refine Exists.intro (JP1 _ _ o27 .normal (Qmz h0_0)) (And.intro ?_ (join1 ?_))
     ·have h:=ho
      refine Qag _ _ h (fun x28 hy=>((Qbi [117,115,101] h0_0 h0_1 h0_2 x28 hy).fr [0] [] rfl rfl rfl)) (fun x28 hy h=>?_)
      refine Qaf h (fun hb h=>?_) (fun hb h=>?_)
      ·refine Qag _ _ h (fun x29 hy=>((Qaj true h0_0 h0_1 h0_2 x29 hy).fr [0] [] rfl rfl rfl)) (fun x29 hy h=>?_)
       refine Qag _ _ h (fun x30 hy=>((Qhb h0_0 x29.2.1 x29.2.2 x30 hy).fr [0] [] rfl rfl rfl)) (fun x30 hy h=>?_)
       refine JP1.a h ?_
       exact Le.tz 3 0 rfl rfl rfl
      ·refine JP1.a h ?_
       exact Le.tz 3 0 rfl rfl rfl
     ·have h:=hk
      refine Qag _ _ h (fun x31 hy=>((Qhc h0_0 o27.1 o27.2.1 x31 hy).fr [0] [] rfl rfl rfl)) (fun x31 hy h=>?_)
      refine Qag _ _ h (fun x32 hy=>((Qeg h0_0 x31.2.1 x31.2.2 x32 hy).fr [0] [] rfl rfl rfl)) (fun x32 hy h=>?_)
      refine Exists.intro _ (And.intro (Le.refl _ _ _) ?_)
      exact Qa7 (t:=Qd9) (ss:=fun o=>⟨[[.p (.sl false (h0_0.map Qab)),.p (iV o.2.1),.p (bV o.2.2)]],[]⟩) h ⟨[],rfl,.p (.agg' (.cons (.refl _) (.cons (.refl _) (.cons (.refl _) (.cons (.refl _) (.cons (.no (.cons (.ceq (Qak _) (.refl _)) (.nil))) (.cons (.not) (.cons (.not) (.nil))))))))),.refl _,rfl⟩
theorem Qp2:∀ (p1:Bool) (p2:Bool) (h0_0:(List Qac)) (h0_1:Int) (h0_2:Bool) (o:(List Qaa)×Int×Bool),Qas p1 p2 h0_0 h0_1 h0_2=some o→CallOK Tryz.prog 21 [.ptr 0 0,.p (bV p1),.p (bV p2)] ⟨[[.p (.sl false (h0_0.map Qab)),.p (iV h0_1),.p (bV h0_2)]],[]⟩ (Qe0 o) ⟨[[.p (.sl false (h0_0.map Qab)),.p (iV o.2.1),.p (bV o.2.2)]],[]⟩:=fun p1 p2 h0_0 h0_1 h0_2=>(Qpc h0_0).1 p1 p2 h0_1 h0_2
noncomputable def Qln (p0:(List UInt8)):Option ((List Qaa)×Int×Int) :=
 Qlm p0>>=fun x1 =>
 if(x1.2.2 != 0) then
  some ([],x1.2.1,x1.2.2)
 else
  Qas false false x1.1 0 false>>=fun x2 =>
  if x2.2.2 then
   if(decide (x2.2.1<(x1.1.length:Int))) then
    idx x1.1 x2.2.1>>=fun x3 =>
    some ([],x3.From,7)
   else
    some ([],(p0.length:Int),7)
  else
   Qff x2.1>>=fun x4 =>
   if(decide (x4>1024)) then
    some ([],0,5)
   else
    Qha x2.1>>=fun x5 =>
    if(decide (x5>12)) then
     some ([],0,8)
    else
     some (x2.1,0,0)
theorem Qz5:∀ (p0:(List UInt8)) (o:(List Qaa)×Int×Int),Qln p0=some o→PCall Tryz.prog 8 [sV p0] (Qe9 o):=by
 intro p0 o h
 unfold Qln at h
 refine PCall.ofB mixed tbOk Qzv Tryz.func8 rfl (by kernel_rfl) (Nat.le_of_ble_eq_true rfl) ?_
 refine Qar [sV p0] Qil h (fun x1 hy=>(Qx3 p0 x1 hy)) (fun x1 hy h=>?_)
 refine Qaf h (fun hb h=>?_) (fun hb h=>?_)
 ·refine Qax (t:=Qe9) h ?_
  exact .tup (xs:=[.sl true [],iV x1.2.1,iV x1.2.2]) (ys:=[.sl false [],iV x1.2.1,iV x1.2.2]) (.cons (.not) (.cons (.refl _) (.cons (.refl _) (.nil))))
 ·refine Qag _ _ h (fun x2 hy=>((Qp2 false false x1.1 0 false x2 hy).fr [0] [] rfl rfl rfl)) (fun x2 hy h=>?_)
  refine Qaf h (fun hb h=>?_) (fun hb h=>?_)
  ·refine view (lenMap _ _) rfl ?_
   refine Qaf h (fun hb h=>?_) (fun hb h=>?_)
   ·refine And.intro (by decide +kernel) (And.intro rfl ?_)
    refine Qel (l:=x1.1) (c:=Qab) (c' := Qab) h (fun _=>rfl) (fun _=>rfl) (by decide) (fun x3 hi h=>?_)
    refine Qax (t:=Qe9) h ?_
    exact .tup (xs:=[.sl true [],iV x3.From,iV 7]) (ys:=[.sl false [],iV x3.From,iV 7]) (.cons (.not) (.cons (.refl _) (.cons (.refl _) (.nil))))
   ·refine vrfl ?_
    refine Qax (t:=Qe9) h ?_
    exact .tup (xs:=[.sl true [],iV (p0.length:Int),iV 7]) (ys:=[.sl false [],iV (p0.length:Int),iV 7]) (.cons (.not) (.cons (.refl _) (.cons (.refl _) (.nil))))
  ·refine Qar [.sl false (x2.1.map Qae)] Qgd h (fun x4 hy=>(Qz1 x2.1 x4 hy)) (fun x4 hy h=>?_)
   refine Qaf h (fun hb h=>?_) (fun hb h=>?_)
   ·refine Qax (t:=Qe9) h ?_
    exact .tup (xs:=[.sl true [],iV 0,iV 5]) (ys:=[.sl false [],iV 0,iV 5]) (.cons (.not) (.cons (.refl _) (.cons (.refl _) (.nil))))
   ·refine Qar [.sl false (x2.1.map Qae)] Qhv h (fun x5 hy=>(Q1j x2.1 x5 hy)) (fun x5 hy h=>?_)
    refine Qaf h (fun hb h=>?_) (fun hb h=>?_)
    ·refine Qax (t:=Qe9) h ?_
     exact .tup (xs:=[.sl true [],iV 0,iV 8]) (ys:=[.sl false [],iV 0,iV 8]) (.cons (.not) (.cons (.refl _) (.cons (.refl _) (.nil))))
    ·refine Qax (t:=Qe9) h ?_
     exact .refl _
noncomputable def Qb5 (p0:(List UInt8)) (p1:(List UInt8)):Option (Bool) :=
 ( if(decide ((p0.length:Int) ≥ (p1.length:Int))) then
   cutL p0 0 (p1.length:Int)>>=fun x2 =>
   some (x2==p1)
  else
   some false:Option (Bool))>>=fun o1 =>
 some o1
theorem Qhd:∀ (p0:(List UInt8)) (p1:(List UInt8)) (o:Bool),Qb5 p0 p1=some o→PCall Tryz.prog 83 [sV p0,sV p1] (Qcl o):=by
 intro p0 p1 o h
 unfold Qb5 at h
 refine PCall.ofB mixed tbOk Qg0 Tryz.func83 rfl (by kernel_rfl) (Nat.le_of_ble_eq_true rfl) ?_
 refine Qai h (fun o1 ho hk=>?_)
 refine Exists.intro (JP1 _ _ o1 .normal (Qge )) (And.intro ?_ (join1 ?_))
 ·have h:=ho
  refine vrfl ?_
  refine vrfl ?_
  refine Qaf h (fun hb h=>?_) (fun hb h=>?_)
  ·refine vrfl ?_
   refine Qev none (some (p1.length:Int)) h (fun x2 hi h=>?_)
   refine JP1.a h ?_
   exact Le.tz 0 0 rfl rfl rfl
  ·refine JP1.a h ?_
   exact Le.tz 0 0 rfl rfl rfl
 ·have h:=hk
  refine Qax (t:=Qcl) h ?_
  exact .refl _
noncomputable def Qcn (p0:(List UInt8)) (p1:(List UInt8)):Option (Int) :=
 need (p0.length<4294967281)>>=fun _ =>
 some (Lib.index p0 p1)
theorem Qjc:∀ (p0:(List UInt8)) (p1:(List UInt8)) (o:Int),Qcn p0 p1=some o→PCall Tryz.prog 48 [sV p0,sV p1] (Qe1 o):=by
 intro p0 p1 o h
 unfold Qcn at h
 obtain⟨h1,h⟩:=Qnd h
 cases h
 exact Q6a _ _ h1
noncomputable def Qf7 (p0:(List UInt8)) (p1:(List UInt8)):Option ((List UInt8)) :=
 need (p1.length<4294967281)>>=fun _ =>
 need (p1.all (fun b=>decide (b.toNat<128))=true)>>=fun _ =>
 some (Lib.trimLeftS p0 p1)
theorem Qp3:∀ (p0:(List UInt8)) (p1:(List UInt8)) (o:(List UInt8)),Qf7 p0 p1=some o→PCall Tryz.prog 49 [sV p0,sV p1] (Qkq o):=by
 intro p0 p1 o h
 unfold Qf7 at h
 obtain⟨h1,h⟩:=Qnd h
 obtain⟨h2,h⟩:=Qnd h
 cases h
 exact Q09 _ _ h1 h2
noncomputable def Qcj (h0_0:(List UInt8)) (h0_1:Int) (h0_2:(List Qac)):Option (Int) :=
 cutL h0_0 h0_1 (h0_0.length:Int)>>=fun x1 =>
 Qf7 x1 [32,9,10,13]>>=fun x2 =>
 some (wr ((h0_0.length:Int)-(x2.length:Int)))
theorem Qhe:∀ (h0_0:(List UInt8)) (h0_1:Int) (h0_2:(List Qac)) (o:Int),Qcj h0_0 h0_1 h0_2=some o→CallOK Tryz.prog 28 [.ptr 0 0] ⟨[[.p (sV h0_0),.p (iV h0_1),.own 0 59 5 (h0_2.map Qab)]],[(h0_2.map Qab).length]⟩ (Qhn o) ⟨[[.p (sV h0_0),.p (iV o),.own 0 59 5 (h0_2.map Qab)]],[(h0_2.map Qab).length]⟩:=by
 intro h0_0 h0_1 h0_2 o h
 unfold Qcj at h
 refine CallOK.ofB mixed tbOk Ql8 Tryz.func28 rfl (by kernel_rfl) (Nat.le_of_ble_eq_true rfl) rfl rfl rfl ?_
 refine And.intro (by decide +kernel) (And.intro rfl ?_)
 refine vrfl ?_
 refine Qev (some h0_1) none h (fun x1 hi h=>?_)
 refine Qf1 [sV x1,sV [32,9,10,13]] Qkq h (fun x2 hy=>(Qp3 x1 [32,9,10,13] x2 hy)) (fun x2 hy h=>?_)
 refine vrfl ?_
 refine Exists.intro _ (And.intro (Le.refl _ _ _) ?_)
 exact Qa7 (t:=Qhn) (ss:=fun o=>⟨[[.p (sV h0_0),.p (iV o),.own 0 59 5 (h0_2.map Qab)]],[(h0_2.map Qab).length]⟩) h ⟨[0],rfl,.refl _,.refl _,rfl⟩
noncomputable def Qaz (p1:Int) (p2:(List UInt8)) (p3:Int) (p4:Int) (h0_0:(List UInt8)) (h0_1:Int) (h0_2:(List Qac)):Option (Int×(List Qac)) :=
 appL 48 h0_2 [(Qac.mk p1 p2 p3 h0_1 (wr (h0_1+p4)))]>>=fun x1 =>
 some ((wr (h0_1+p4)),x1)
theorem Qb3:∀ (p1:Int) (p2:(List UInt8)) (p3:Int) (p4:Int) (h0_0:(List UInt8)) (h0_1:Int) (h0_2:(List Qac)) (o:Int×(List Qac)),Qaz p1 p2 p3 p4 h0_0 h0_1 h0_2=some o→CallOK Tryz.prog 27 [.ptr 0 0,.p (iV p1),.p (sV p2),.p (iV p3),.p (iV p4)] ⟨[[.p (sV h0_0),.p (iV h0_1),.own 0 59 5 (h0_2.map Qab)]],[(h0_2.map Qab).length]⟩ (Qj6 o) ⟨[[.p (sV h0_0),.p (iV o.1),.own 0 59 5 (o.2.map Qab)]],[(o.2.map Qab).length]⟩:=by
 intro p1 p2 p3 p4 h0_0 h0_1 h0_2 o h
 unfold Qaz at h
 refine CallOK.ofB mixed tbOk Qo3 Tryz.func27 rfl (by kernel_rfl) (Nat.le_of_ble_eq_true rfl) rfl rfl rfl ?_
 refine And.intro (by decide +kernel) (And.intro rfl ?_)
 refine Qpp (a:=h0_2) (b:=[(Qac.mk p1 p2 p3 h0_1 (wr (h0_1+p4)))]) (c:=Qab) h (.refl _) (fun _=>rfl) rfl (fun x1 hi h=>?_)
 refine Exists.intro _ (And.intro (Le.refl _ _ _) ?_)
 exact Qa7 (t:=Qj6) (ss:=fun o=>⟨[[.p (sV h0_0),.p (iV o.1),.own 0 59 5 (o.2.map Qab)]],[(o.2.map Qab).length]⟩) h ⟨[0],rfl,.refl _,.refl _,rfl⟩
noncomputable def Qit (p0:Int):Option (Bool) :=
 ( if(decide (p0 ≥ 48)) then
   some (decide (p0≤57))
  else
   some false:Option (Bool))>>=fun o1 =>
 some o1
theorem Qkt:∀ (p0:Int) (o:Bool),Qit p0=some o→PCall Tryz.prog 52 [nV .u8 p0] (Qhy o):=by
 intro p0 o h
 unfold Qit at h
 refine PCall.ofB mixed tbOk Qzw Tryz.func52 rfl (by kernel_rfl) (Nat.le_of_ble_eq_true rfl) ?_
 refine Qai h (fun o1 ho hk=>?_)
 refine Exists.intro (JP1 _ _ o1 .normal (Qvh )) (And.intro ?_ (join1 ?_))
 ·have h:=ho
  refine Qaf h (fun hb h=>?_) (fun hb h=>?_)
  ·refine JP1.a h ?_
   exact Le.tz 0 0 rfl rfl rfl
  ·refine JP1.a h ?_
   exact Le.tz 0 0 rfl rfl rfl
 ·have h:=hk
  refine Qax (t:=Qhy) h ?_
  exact .refl _
noncomputable def Qh1 (p0:Int):Option (Bool) :=
 ( if(decide (p0 ≥ 97)) then
   if(decide (p0≤122)) then
    some true
   else
    Qit p0>>=fun x2 =>
    if x2 then
     some true
    else
     some (p0==95)
  else
   Qit p0>>=fun x3 =>
   if x3 then
    some true
   else
    some (p0==95):Option (Bool))>>=fun o1 =>
 some o1
theorem Qmj:∀ (p0:Int) (o:Bool),Qh1 p0=some o→PCall Tryz.prog 54 [nV .u8 p0] (Qin o):=by
 intro p0 o h
 unfold Qh1 at h
 refine PCall.ofB mixed tbOk Qxp Tryz.func54 rfl (by kernel_rfl) (Nat.le_of_ble_eq_true rfl) ?_
 refine Qai h (fun o1 ho hk=>?_)
 refine Exists.intro (JP1 _ _ o1 .normal (Que )) (And.intro ?_ (join1 ?_))
 ·have h:=ho
  refine Qaf h (fun hb h=>?_) (fun hb h=>?_)
  ·refine Qaf h (fun hb h=>?_) (fun hb h=>?_)
   ·refine bT ?_
    refine JP1.a h ?_
    exact Le.tz 0 0 rfl rfl rfl
   ·refine Qar [nV .u8 p0] Qhy h (fun x2 hy=>(Qkt p0 x2 hy)) (fun x2 hy h=>?_)
    refine Qaf h (fun hb h=>?_) (fun hb h=>?_)
    ·refine JP1.a h ?_
     exact Le.tz 0 0 rfl rfl rfl
    ·refine JP1.a h ?_
     exact Le.tz 0 0 rfl rfl rfl
  ·refine bF ?_
   refine Qar [nV .u8 p0] Qhy h (fun x3 hy=>(Qkt p0 x3 hy)) (fun x3 hy h=>?_)
   refine Qaf h (fun hb h=>?_) (fun hb h=>?_)
   ·refine JP1.a h ?_
    exact Le.tz 0 0 rfl rfl rfl
   ·refine JP1.a h ?_
    exact Le.tz 0 0 rfl rfl rfl
 ·have h:=hk
  refine Qax (t:=Qin) h ?_
  exact .refl _
noncomputable def Qay (h0_0:(List UInt8)) (h0_1:Int) (h0_2:(List Qac)) (v7:Int):Option (Int) :=
 ( if(decide (v7<(h0_0.length:Int))) then
   idx h0_0 v7>>=fun x3 =>
   Qit (x3.toNat:Int)>>=fun x4 =>
   some x4
  else
   some false:Option (Bool))>>=fun o2 =>
 if o2 then
  Qay h0_0 h0_1 h0_2 (wr (v7+1))
 else
  some v7
 partial_fixpoint
theorem Qhh:∀ (h0_0:(List UInt8)) (h0_1:Int) (h0_2:(List Qac)),(∀ (v7:Int) (o1:Int),Qay h0_0 h0_1 h0_2 v7=some o1→TL (1,1) Tryz.prog 38 Qd4 (JP1 (1,1) 38 o1 (.exit 0) (Qcr h0_0 h0_1 h0_2)) (Qb2 h0_0 h0_1 h0_2 v7)):=by
 intro h0_0 h0_1 h0_2
 refine Qay.partial_correctness h0_0 h0_1 h0_2 _ ?_
 intro Qay' iQay v7 o1 h
 refine TL.round (Qam mixed tbOk (lv:=Qe3) _ _ _ ?_)
 refine Qai h (fun o2 ho hk=>?_)
 refine Exists.intro (JP1 _ _ o2 .normal (Qio h0_0 h0_1 h0_2 v7)) (And.intro ?_ (join1 ?_))
 ·have h:=ho
  refine vrfl ?_
  refine Qaf h (fun hb h=>?_) (fun hb h=>?_)
  ·refine Qcq h (fun x3 hi h=>?_)
   refine Qar [nV .u8 (x3.toNat:Int)] Qhy h (fun x4 hy=>(Qkt (x3.toNat:Int) x4 hy)) (fun x4 hy h=>?_)
   refine JP1.a h ?_
   exact Le.tz 1 1 rfl rfl rfl
  ·refine JP1.a h ?_
   exact Le.tz 1 1 rfl rfl rfl
 ·have h:=hk
  refine Qaf h (fun hb h=>?_) (fun hb h=>?_)
  ·refine TL.le (τ := Qb2 h0_0 h0_1 h0_2 (wr (v7+1))) ?_ ((iQay (wr (v7+1)) _ h))
   exact Le.tz 1 1 rfl rfl rfl
  ·exact JP1.a h (Le.tz 1 1 rfl rfl rfl)
theorem Qh2:∀ (h0_0:(List UInt8)) (h0_1:Int) (h0_2:(List Qac)) (v7:Int) (o1:Int),Qay h0_0 h0_1 h0_2 v7=some o1→TL (1,1) Tryz.prog 38 Qd4 (JP1 (1,1) 38 o1 (.exit 0) (Qcr h0_0 h0_1 h0_2)) (Qb2 h0_0 h0_1 h0_2 v7):=fun h0_0 h0_1 h0_2 v7=>(Qhh h0_0 h0_1 h0_2) v7
noncomputable def Qcv (p1:Int) (h0_0:(List UInt8)) (h0_1:Int) (h0_2:(List Qac)):Option ((List UInt8)) :=
 (Qay h0_0 h0_1 h0_2 p1)>>=fun o1 =>
 cutL h0_0 h0_1 o1>>=fun x5 =>
 some x5
theorem Qjs:∀ (p1:Int) (h0_0:(List UInt8)) (h0_1:Int) (h0_2:(List Qac)) (o:(List UInt8)),Qcv p1 h0_0 h0_1 h0_2=some o→CallOK Tryz.prog 89 [.ptr 0 0,.p (iV p1),.fn (.func 52) [] []] ⟨[[.p (sV h0_0),.p (iV h0_1),.own 0 59 5 (h0_2.map Qab)]],[(h0_2.map Qab).length]⟩ (Qfb o) ⟨[[.p (sV h0_0),.p (iV h0_1),.own 0 59 5 (h0_2.map Qab)]],[(h0_2.map Qab).length]⟩:=by
 intro p1 h0_0 h0_1 h0_2 o h
 unfold Qcv at h
 refine CallOK.ofB mixed tbOk Qe3 Tryz.func89 rfl (by kernel_rfl) (Nat.le_of_ble_eq_true rfl) rfl rfl rfl ?_
 refine Qai h (fun o1 ho hk=>?_)
 refine Exists.intro (JP1 _ _ o1 (.exit 0) (Qcr h0_0 h0_1 h0_2)) (And.intro (T_le (τ := Qb2 h0_0 h0_1 h0_2 p1) ?_ (TL.loop (Qh2 h0_0 h0_1 h0_2 p1 o1 ho))) (join1 ?_))
 ·exact Le.tz 1 1 rfl rfl rfl
 have h:=hk
 refine And.intro (by decide +kernel) (And.intro rfl ?_)
 refine Qev (some h0_1) (some o1) h (fun x5 hi h=>?_)
 refine Exists.intro _ (And.intro (Le.refl _ _ _) ?_)
 exact Qa7 (t:=Qfb) (ss:=fun o=>⟨[[.p (sV h0_0),.p (iV h0_1),.own 0 59 5 (h0_2.map Qab)]],[(h0_2.map Qab).length]⟩) h ⟨[0],rfl,.refl _,.refl _,rfl⟩
noncomputable def Qku (p0:(List UInt8)):Option (Int×Bool) :=
 need (p0.length≤9223372036854775807)>>=fun _ =>
 some (numP p0)
theorem Qus:∀ (p0:(List UInt8)) (o:Int×Bool),Qku p0=some o→PCall Tryz.prog 90 [sV p0] (Qpj o):=by
 intro p0 o h
 unfold Qku at h
 obtain⟨h1,h⟩:=Qnd h
 cases h
 exact Q46 _ h1
noncomputable def Qdk (h0_0:(List UInt8)) (h0_1:Int) (h0_2:(List Qac)):Option (Bool×Int×(List Qac)) :=
 Qcv (wr (h0_1+1)) h0_0 h0_1 h0_2>>=fun x1 =>
 Qku x1>>=fun x2 =>
 if x2.2 then
  Qaz 6 [] x2.1 (x1.length:Int) h0_0 h0_1 h0_2>>=fun x3 =>
  some (x2.2,x3.1,x3.2)
 else
  some (x2.2,h0_1,h0_2)
theorem Qn3:∀ (h0_0:(List UInt8)) (h0_1:Int) (h0_2:(List Qac)) (o:Bool×Int×(List Qac)),Qdk h0_0 h0_1 h0_2=some o→CallOK Tryz.prog 53 [.ptr 0 0] ⟨[[.p (sV h0_0),.p (iV h0_1),.own 0 59 5 (h0_2.map Qab)]],[(h0_2.map Qab).length]⟩ (Qfr o) ⟨[[.p (sV h0_0),.p (iV o.2.1),.own 0 59 5 (o.2.2.map Qab)]],[(o.2.2.map Qab).length]⟩:=by
 intro h0_0 h0_1 h0_2 o h
 unfold Qdk at h
 refine CallOK.ofB mixed tbOk Qnt Tryz.func53 rfl (by kernel_rfl) (Nat.le_of_ble_eq_true rfl) rfl rfl rfl ?_
 refine Qag _ _ h (fun x1 hy=>((Qjs (wr (h0_1+1)) h0_0 h0_1 h0_2 x1 hy).fr [0] [0] rfl rfl rfl)) (fun x1 hy h=>?_)
 refine Qar [sV x1] Qpj h (fun x2 hy=>(Qus x1 x2 hy)) (fun x2 hy h=>?_)
 refine Qaf h (fun hb h=>?_) (fun hb h=>?_)
 ·refine vrfl ?_
  refine Qag _ _ h (fun x3 hy=>((Qb3 6 [] x2.1 (x1.length:Int) h0_0 h0_1 h0_2 x3 hy).fr [0] [0] rfl rfl rfl)) (fun x3 hy h=>?_)
  refine Exists.intro _ (And.intro (Le.refl _ _ _) ?_)
  exact Qa7 (t:=Qfr) (ss:=fun o=>⟨[[.p (sV h0_0),.p (iV o.2.1),.own 0 59 5 (o.2.2.map Qab)]],[(o.2.2.map Qab).length]⟩) h ⟨[0],rfl,.refl _,.refl _,rfl⟩
 ·refine Exists.intro _ (And.intro (Le.refl _ _ _) ?_)
  exact Qa7 (t:=Qfr) (ss:=fun o=>⟨[[.p (sV h0_0),.p (iV o.2.1),.own 0 59 5 (o.2.2.map Qab)]],[(o.2.2.map Qab).length]⟩) h ⟨[0],rfl,.refl _,.refl _,rfl⟩
noncomputable def Qbe (h0_0:(List UInt8)) (h0_1:Int) (h0_2:(List Qac)) (v13:Int):Option (Unit⊕(Int×(List Qac))) :=
 if(decide (v13<5)) then
  idx ([(Qiz.mk 46 7),(Qiz.mk 40 8),(Qiz.mk 41 9),(Qiz.mk 44 10),(Qiz.mk 61 11)]:List Qiz) v13>>=fun x4 =>
  idx h0_0 h0_1>>=fun x5 =>
  if((x5.toNat:Int)==x4.c_) then
   Qaz x4.k_ [] 0 1 h0_0 h0_1 h0_2>>=fun x6 =>
   some (.inr (x6.1,x6.2))
  else
   Qbe h0_0 h0_1 h0_2 (wr (v13+1))
 else
  some (.inl ())
 partial_fixpoint
theorem Qmk:∀ (h0_0:(List UInt8)) (h0_1:Int) (h0_2:(List Qac)),(∀ (v13:Int) (o1:Unit⊕(Int×(List Qac))),Qbe h0_0 h0_1 h0_2 v13=some o1→TL (1,1) Tryz.prog 33 Qip (JP2 (1,1) 33 o1 (.exit 0) (Qew h0_0 h0_1 h0_2) .ret (Qex h0_0 h0_1 h0_2)) (Qdc h0_0 h0_1 h0_2 v13)):=by
 intro h0_0 h0_1 h0_2
 refine Qbe.partial_correctness h0_0 h0_1 h0_2 _ ?_
 intro Qbe' iQbe v13 o1 h
 refine TL.round (Qam mixed tbOk (lv:=Qj7) _ _ _ ?_)
 refine Qaf h (fun hb h=>?_) (fun hb h=>?_)
 ·refine Q59 (l:=([(Qiz.mk 46 7),(Qiz.mk 40 8),(Qiz.mk 41 9),(Qiz.mk 44 10),(Qiz.mk 61 11)]:List Qiz)) (c:=fun x4=>[nV .u8 x4.c_,iV x4.k_]) h rfl rfl rfl (fun _=>rfl) rfl (fun x4 hi h=>?_)
  refine And.intro (by decide +kernel) (And.intro rfl ?_)
  refine Qcq h (fun x5 hi h=>?_)
  refine Qaf h (fun hb h=>?_) (fun hb h=>?_)
  ·refine Qag _ _ h (fun x6 hy=>((Qb3 x4.k_ [] 0 1 h0_0 h0_1 h0_2 x6 hy).fr [0] [0] rfl rfl rfl)) (fun x6 hy h=>?_)
   exact JP2.b h (Le.tz 2 1 rfl rfl rfl)
  ·refine TL.le (τ := Qdc h0_0 h0_1 h0_2 (wr (v13+1))) ?_ ((iQbe (wr (v13+1)) _ h))
   exact Le.tz 2 1 rfl rfl rfl
 ·exact JP2.a h (Le.tz 2 1 rfl rfl rfl)
theorem Qm7:∀ (h0_0:(List UInt8)) (h0_1:Int) (h0_2:(List Qac)) (v13:Int) (o1:Unit⊕(Int×(List Qac))),Qbe h0_0 h0_1 h0_2 v13=some o1→TL (1,1) Tryz.prog 33 Qip (JP2 (1,1) 33 o1 (.exit 0) (Qew h0_0 h0_1 h0_2) .ret (Qex h0_0 h0_1 h0_2)) (Qdc h0_0 h0_1 h0_2 v13):=fun h0_0 h0_1 h0_2 v13=>(Qmk h0_0 h0_1 h0_2) v13
noncomputable def Qeo (h0_0:(List UInt8)) (h0_1:Int) (h0_2:(List Qac)):Option (Bool×Int×(List Qac)) :=
 (Qbe h0_0 h0_1 h0_2 0)>>=fun o1 =>
 match o1 with
 | .inl y2 =>
  some (false,h0_1,h0_2)
 | .inr y3 =>
  some (true,y3.1,y3.2)
theorem Qp4:∀ (h0_0:(List UInt8)) (h0_1:Int) (h0_2:(List Qac)) (o:Bool×Int×(List Qac)),Qeo h0_0 h0_1 h0_2=some o→CallOK Tryz.prog 56 [.ptr 0 0] ⟨[[.p (sV h0_0),.p (iV h0_1),.own 0 59 5 (h0_2.map Qab)]],[(h0_2.map Qab).length]⟩ (Qg3 o) ⟨[[.p (sV h0_0),.p (iV o.2.1),.own 0 59 5 (o.2.2.map Qab)]],[(o.2.2.map Qab).length]⟩:=by
 intro h0_0 h0_1 h0_2 o h
 unfold Qeo at h
 refine CallOK.ofB mixed tbOk Qj7 Tryz.func56 rfl (by kernel_rfl) (Nat.le_of_ble_eq_true rfl) rfl rfl rfl ?_
 refine Qai h (fun o1 ho hk=>?_)
 refine Exists.intro (JP2 _ _ o1 (.exit 0) (Qew h0_0 h0_1 h0_2) .ret (Qex h0_0 h0_1 h0_2)) (And.intro (T_le (τ := Qdc h0_0 h0_1 h0_2 0) ?_ (TL.loop (Qm7 h0_0 h0_1 h0_2 0 o1 ho))) (join2 (fun y2 hy=>?_) (fun y3 hy=>?_)))
 ·exact Le.tz 2 1 rfl rfl rfl
 ·have h:=(by rw[hy] at hk; exact hk)
  refine Exists.intro _ (And.intro (Le.refl _ _ _) ?_)
  exact Qa7 (t:=Qg3) (ss:=fun o=>⟨[[.p (sV h0_0),.p (iV o.2.1),.own 0 59 5 (o.2.2.map Qab)]],[(o.2.2.map Qab).length]⟩) h ⟨[0],rfl,.refl _,.refl _,rfl⟩
 ·have h:=(by rw[hy] at hk; exact hk)
  refine Exists.intro _ (And.intro (Le.refl _ _ _) ?_)
  exact Qa7 (t:=Qg3) (ss:=fun o=>⟨[[.p (sV h0_0),.p (iV o.2.1),.own 0 59 5 (o.2.2.map Qab)]],[(o.2.2.map Qab).length]⟩) h ⟨[0],rfl,.refl _,.refl _,rfl⟩
noncomputable def Qkc (p0:Int):Option (Int×Bool) :=
 if(p0==110) then
  some (10,true)
 else
  if(p0==116) then
   some (9,true)
  else
   ( if(p0==34) then
     some true
    else
     some (p0==92):Option (Bool))>>=fun o1 =>
   some (p0,o1)
theorem Qvt:∀ (p0:Int) (o:Int×Bool),Qkc p0=some o→PCall Tryz.prog 85 [nV .u8 p0] (Qg2 o):=by
 intro p0 o h
 unfold Qkc at h
 refine PCall.ofB mixed tbOk Qvi Tryz.func85 rfl (by kernel_rfl) (Nat.le_of_ble_eq_true rfl) ?_
 refine Qaf h (fun hb h=>?_) (fun hb h=>?_)
 ·refine Qax (t:=Qg2) h ?_
  exact .refl _
 ·refine Qaf h (fun hb h=>?_) (fun hb h=>?_)
  ·refine Qax (t:=Qg2) h ?_
   exact .refl _
  ·refine Qai h (fun o1 ho hk=>?_)
   refine Exists.intro (JP1 _ _ o1 .normal (Qsp p0)) (And.intro ?_ (join1 ?_))
   ·have h:=ho
    refine Qaf h (fun hb h=>?_) (fun hb h=>?_)
    ·refine JP1.a h ?_
     exact Le.tz 0 0 rfl rfl rfl
    ·refine JP1.a h ?_
     exact Le.tz 0 0 rfl rfl rfl
   ·have h:=hk
    refine Qax (t:=Qg2) h ?_
    exact .refl _
noncomputable def Qbg (h0_0:Bool) (h0_1:(List Int)):Option (Bool) :=
 some true
theorem Qd5:∀ (h0_0:Bool) (h0_1:(List Int)) (o:Bool),Qbg h0_0 h0_1=some o→CallOK Tryz.prog 109 [.ptr 0 0] ⟨[[.sp Tryz.prog 113 h0_0 0 0,.own 0 5 1 (h0_1.map (cNum .u8))]],[(h0_1.map (cNum .u8)).length]⟩ (Qi7 o) ⟨[[.sp Tryz.prog 113 o 0 0,.own 0 5 1 (h0_1.map (cNum .u8))]],[(h0_1.map (cNum .u8)).length]⟩:=by
 intro h0_0 h0_1 o h
 unfold Qbg at h
 cases h
 exact Qzl [[.sp Tryz.prog 113 h0_0 0 0,.own 0 5 1 (h0_1.map (cNum .u8))]] _ 0 [.sp Tryz.prog 113 h0_0 0 0,.own 0 5 1 (h0_1.map (cNum .u8))] rfl rfl
noncomputable def Qbz (p1:Int) (h0_0:Bool) (h0_1:(List Int)):Option (Unit×Bool×(List Int)) :=
 Qbg h0_0 h0_1>>=fun x1 =>
 appL 1 h0_1 [p1]>>=fun x2 =>
 some ((),x1,x2)
theorem Qiu:∀ (p1:Int) (h0_0:Bool) (h0_1:(List Int)) (o:Unit×Bool×(List Int)),Qbz p1 h0_0 h0_1=some o→CallOK Tryz.prog 86 [.ptr 0 0,.p (nV .u8 p1)] ⟨[[.sp Tryz.prog 113 h0_0 0 0,.own 0 5 1 (h0_1.map (cNum .u8))]],[(h0_1.map (cNum .u8)).length]⟩ (Qen o) ⟨[[.sp Tryz.prog 113 o.2.1 0 0,.own 0 5 1 (o.2.2.map (cNum .u8))]],[(o.2.2.map (cNum .u8)).length]⟩:=by
 intro p1 h0_0 h0_1 o h
 unfold Qbz at h
 refine CallOK.ofB mixed tbOk Qis Tryz.func86 rfl (by kernel_rfl) (Nat.le_of_ble_eq_true rfl) rfl rfl rfl ?_
 refine Qag _ _ h (fun x1 hy=>((Qd5 h0_0 h0_1 x1 hy).fr [0] [0] rfl rfl rfl)) (fun x1 hy h=>?_)
 refine Qpp (a:=h0_1) (b:=[p1]) (c:=(cNum .u8)) h (.refl _) (fun _=>rfl) rfl (fun x2 hi h=>?_)
 refine Exists.intro _ (And.intro (Le.refl _ _ _) ?_)
 exact Qa7 (t:=Qen) (ss:=fun o=>⟨[[.sp Tryz.prog 113 o.2.1 0 0,.own 0 5 1 (o.2.2.map (cNum .u8))]],[(o.2.2.map (cNum .u8)).length]⟩) h ⟨[0],rfl,.refl _,.refl _,rfl⟩
noncomputable def Qbn (p1:(List UInt8)) (h0_0:Bool) (h0_1:(List Int)):Option (Int×Unit×Bool×(List Int)) :=
 Qbg h0_0 h0_1>>=fun x1 =>
 appL 1 h0_1 (s2b p1)>>=fun x2 =>
 some ((p1.length:Int),(),x1,x2)
theorem Qhi:∀ (p1:(List UInt8)) (h0_0:Bool) (h0_1:(List Int)) (o:Int×Unit×Bool×(List Int)),Qbn p1 h0_0 h0_1=some o→CallOK Tryz.prog 87 [.ptr 0 0,.p (sV p1)] ⟨[[.sp Tryz.prog 113 h0_0 0 0,.own 0 5 1 (h0_1.map (cNum .u8))]],[(h0_1.map (cNum .u8)).length]⟩ (Qdw o) ⟨[[.sp Tryz.prog 113 o.2.2.1 0 0,.own 0 5 1 (o.2.2.2.map (cNum .u8))]],[(o.2.2.2.map (cNum .u8)).length]⟩:=by
 intro p1 h0_0 h0_1 o h
 unfold Qbn at h
 refine CallOK.ofB mixed tbOk Qhg Tryz.func87 rfl (by kernel_rfl) (Nat.le_of_ble_eq_true rfl) rfl rfl rfl ?_
 refine Qag _ _ h (fun x1 hy=>((Qd5 h0_0 h0_1 x1 hy).fr [0] [0] rfl rfl rfl)) (fun x1 hy h=>?_)
 refine Q2k (a:=h0_1) (b:=p1) h rfl (fun x2 hi h=>?_)
 refine vrfl ?_
 refine Exists.intro _ (And.intro (Le.refl _ _ _) ?_)
 exact Qa7 (t:=Qdw) (ss:=fun o=>⟨[[.sp Tryz.prog 113 o.2.2.1 0 0,.own 0 5 1 (o.2.2.2.map (cNum .u8))]],[(o.2.2.2.map (cNum .u8)).length]⟩) h ⟨[0],rfl,.refl _,.refl _,rfl⟩
noncomputable def Qwg (p0:Int):Option (Bool) :=
 ( if(decide (p0 ≥ 0)) then
   if(decide (p0≤1114111)) then
    if(decide (p0<55296)) then
     some true
    else
     some (decide (p0>57343))
   else
    some false
  else
   some false:Option (Bool))>>=fun o1 =>
 some o1
theorem Q5a:∀ (p0:Int) (o:Bool),Qwg p0=some o→PCall Tryz.prog 108 [nV .i32 p0] (Qxx o):=by
 intro p0 o h
 unfold Qwg at h
 refine PCall.ofB mixed tbOk Q49 Tryz.func108 rfl (by kernel_rfl) (Nat.le_of_ble_eq_true rfl) ?_
 refine Qai h (fun o1 ho hk=>?_)
 refine Exists.intro (JP1 _ _ o1 .normal (Q1h )) (And.intro ?_ (join1 ?_))
 ·have h:=ho
  refine Qaf h (fun hb h=>?_) (fun hb h=>?_)
  ·refine Qaf h (fun hb h=>?_) (fun hb h=>?_)
   ·refine Qaf h (fun hb h=>?_) (fun hb h=>?_)
    ·refine JP1.a h ?_
     exact Le.tz 0 0 rfl rfl rfl
    ·refine JP1.a h ?_
     exact Le.tz 0 0 rfl rfl rfl
   ·refine JP1.a h ?_
    exact Le.tz 0 0 rfl rfl rfl
  ·refine bF ?_
   refine JP1.a h ?_
   exact Le.tz 0 0 rfl rfl rfl
 ·have h:=hk
  refine Qax (t:=Qxx) h ?_
  exact .refl _
noncomputable def Qfh (p0:(List UInt8)) (p2:Int) (v1:Int) (v14:Int):Option (Int⊕Unit) :=
 if(decide (v14<p2)) then
  idx p0 v14>>=fun x4 =>
  if((bits .and .u8 (x4.toNat:Int) 192) != 128) then
   some (.inr ())
  else
   idx p0 v14>>=fun x5 =>
   Qfh p0 p2 (bits .or .i32 (IntKind.i32.wrap (v1*2 ^ (min (6:Int).toNat (IntKind.i32.bits)))) (IntKind.i32.wrap (bits .and .u8 (x5.toNat:Int) 63))) (wr (v14+1))
 else
  some (.inl v1)
 partial_fixpoint
theorem Qut:∀ (p0:(List UInt8)) (p2:Int),(∀ (v1:Int) (v14:Int) (o1:Int⊕Unit),Qfh p0 p2 v1 v14=some o1→TL (0,0) Tryz.prog 32 Qqw (JP2 (0,0) 32 o1 (.exit 0) (Qk9 p0 p2) .ret (Qla p0 p2)) (Qib p0 p2 v1 v14)):=by
 intro p0 p2
 refine Qfh.partial_correctness p0 p2 _ ?_
 intro Qfh' iQfh v1 v14 o1 h
 refine TL.round (Qam mixed tbOk (lv:=Qui) _ _ _ ?_)
 refine Qaf h (fun hb h=>?_) (fun hb h=>?_)
 ·refine Qcq h (fun x4 hi h=>?_)
  refine Qaf h (fun hb h=>?_) (fun hb h=>?_)
  ·exact JP2.b h (Le.tz 0 0 rfl rfl rfl)
  ·refine And.intro (by decide) ?_
   refine Qcq h (fun x5 hi h=>?_)
   refine vrfl ?_
   refine TL.le (τ := Qib p0 p2 (bits .or .i32 (IntKind.i32.wrap (v1*2 ^ (min (6:Int).toNat (IntKind.i32.bits)))) (IntKind.i32.wrap (bits .and .u8 (x5.toNat:Int) 63))) (wr (v14+1))) ?_ ((iQfh (bits .or .i32 (IntKind.i32.wrap (v1*2 ^ (min (6:Int).toNat (IntKind.i32.bits)))) (IntKind.i32.wrap (bits .and .u8 (x5.toNat:Int) 63))) (wr (v14+1)) _ h))
   exact Le.tz 0 0 rfl rfl rfl
 ·exact JP2.a h (Le.tz 0 0 rfl rfl rfl)
theorem Qvu:∀ (p0:(List UInt8)) (p2:Int) (v1:Int) (v14:Int) (o1:Int⊕Unit),Qfh p0 p2 v1 v14=some o1→TL (0,0) Tryz.prog 32 Qqw (JP2 (0,0) 32 o1 (.exit 0) (Qk9 p0 p2) .ret (Qla p0 p2)) (Qib p0 p2 v1 v14):=fun p0 p2 v1 v14=>(Qut p0 p2) v1 v14
noncomputable def Qox (p0:(List UInt8)) (p1:Int) (p2:Int):Option (Int×Bool) :=
 if(decide ((p0.length:Int)<p2)) then
  some (0,false)
 else
  (Qfh p0 p2 p1 0)>>=fun o1 =>
  match o1 with
  | .inl y2 =>
   some (y2,true)
  | .inr y3 =>
   some (0,false)
theorem Q1m:∀ (p0:(List UInt8)) (p1:Int) (p2:Int) (o:Int×Bool),Qox p0 p1 p2=some o→PCall Tryz.prog 107 [sV p0,nV .i32 p1,iV p2] (Qlk o):=by
 intro p0 p1 p2 o h
 unfold Qox at h
 refine PCall.ofB mixed tbOk Qui Tryz.func107 rfl (by kernel_rfl) (Nat.le_of_ble_eq_true rfl) ?_
 refine vrfl ?_
 refine Qaf h (fun hb h=>?_) (fun hb h=>?_)
 ·refine Qax (t:=Qlk) h ?_
  exact .refl _
 ·refine Qai h (fun o1 ho hk=>?_)
  refine Exists.intro (JP2 _ _ o1 (.exit 0) (Qk9 p0 p2) .ret (Qla p0 p2)) (And.intro (T_le (τ := Qib p0 p2 p1 0) ?_ (TL.loop (Qvu p0 p2 p1 0 o1 ho))) (join2 (fun y2 hy=>?_) (fun y3 hy=>?_)))
  ·exact Le.tz 0 0 rfl rfl rfl
  ·have h:=(by rw[hy] at hk; exact hk)
   refine Qax (t:=Qlk) h ?_
   exact .refl _
  ·have h:=(by rw[hy] at hk; exact hk)
   refine Qax (t:=Qlk) h ?_
   exact .refl _
noncomputable def Qq1 (p0:(List UInt8)) (p1:Int):Option (Int×Int) :=
 ( if(decide (p1<0)) then
   some true
  else
   some (decide (p1 ≥ (p0.length:Int))):Option (Bool))>>=fun o1 =>
 if o1 then
  some (0,0)
 else
  idx p0 p1>>=fun x2 =>
  ( if(decide ((x2.toNat:Int)<128)) then
    some (.inr (IntKind.i32.wrap (x2.toNat:Int)))
   else
    ( if(decide ((x2.toNat:Int) ≥ 192)) then
      some (decide ((x2.toNat:Int)<224))
     else
      some false:Option (Bool))>>=fun o6 =>
    if o6 then
     some (.inl ((IntKind.i32.wrap (bits .and .u8 (x2.toNat:Int) 31)),128,1))
    else
     ( if(decide ((x2.toNat:Int) ≥ 224)) then
       some (decide ((x2.toNat:Int)<240))
      else
       some false:Option (Bool))>>=fun o7 =>
     if o7 then
      some (.inl ((IntKind.i32.wrap (bits .and .u8 (x2.toNat:Int) 15)),2048,2))
     else
      ( if(decide ((x2.toNat:Int) ≥ 240)) then
        some (decide ((x2.toNat:Int)<248))
       else
        some false:Option (Bool))>>=fun o8 =>
      if o8 then
       some (.inl ((IntKind.i32.wrap (bits .and .u8 (x2.toNat:Int) 7)),65536,3))
      else
       some (.inr 65533):Option ((Int×Int×Int)⊕Int))>>=fun o3 =>
  match o3 with
  | .inl y4 =>
   cutL p0 (wr (p1+1)) (p0.length:Int)>>=fun x9 =>
   Qox x9 y4.1 y4.2.2>>=fun x10 =>
   ( if(!x10.2) then
     some true
    else
     if(decide (x10.1<y4.2.1)) then
      some true
     else
      Qwg x10.1>>=fun x12 =>
      some (!x12):Option (Bool))>>=fun o11 =>
   if o11 then
    some (65533,1)
   else
    some (x10.1,(wr (y4.2.2+1)))
  | .inr y5 =>
   some (y5,1)
theorem Q1n:∀ (p0:(List UInt8)) (p1:Int) (o:Int×Int),Qq1 p0 p1=some o→PCall Tryz.prog 84 [sV p0,iV p1] (Qjw o):=by
 intro p0 p1 o h
 unfold Qq1 at h
 refine PCall.ofB mixed tbOk Q1g Tryz.func84 rfl (by kernel_rfl) (Nat.le_of_ble_eq_true rfl) ?_
 refine Qai h (fun o1 ho hk=>?_)
 refine Exists.intro (JP1 _ _ o1 .normal (Qxq p0 p1)) (And.intro ?_ (join1 ?_))
 ·have h:=ho
  refine Qaf h (fun hb h=>?_) (fun hb h=>?_)
  ·refine JP1.a h ?_
   exact Le.tz 0 0 rfl rfl rfl
  ·refine vrfl ?_
   refine JP1.a h ?_
   exact Le.tz 0 0 rfl rfl rfl
 ·have h:=hk
  refine Qaf h (fun hb h=>?_) (fun hb h=>?_)
  ·refine Qax (t:=Qjw) h ?_
   exact .refl _
  ·refine Qcq h (fun x2 hi h=>?_)
   refine Qai h (fun o3 ho hk=>?_)
   refine Exists.intro (JP2 _ _ o3 .normal (Qxr p0 p1) .ret (Qxs p0 p1)) (And.intro ?_ (join2 (fun y4 hy=>?_) (fun y5 hy=>?_)))
   ·have h:=ho
    refine Qaf h (fun hb h=>?_) (fun hb h=>?_)
    ·refine vrfl ?_
     refine JP2.b h ?_
     exact Le.tz 0 0 rfl rfl rfl
    ·refine Qai h (fun o6 ho hk=>?_)
     refine Exists.intro (JP1 _ _ o6 .normal (Qxt p0 p1 x2)) (And.intro ?_ (join1 ?_))
     ·have h:=ho
      refine Qaf h (fun hb h=>?_) (fun hb h=>?_)
      ·refine JP1.a h ?_
       exact Le.tz 0 0 rfl rfl rfl
      ·refine JP1.a h ?_
       exact Le.tz 0 0 rfl rfl rfl
     ·have h:=hk
      refine Qaf h (fun hb h=>?_) (fun hb h=>?_)
      ·refine vrfl ?_
       refine JP2.a h ?_
       exact Le.tz 0 0 rfl rfl rfl
      ·refine Qai h (fun o7 ho hk=>?_)
       refine Exists.intro (JP1 _ _ o7 .normal (Qxu p0 p1 x2)) (And.intro ?_ (join1 ?_))
       ·have h:=ho
        refine Qaf h (fun hb h=>?_) (fun hb h=>?_)
        ·refine JP1.a h ?_
         exact Le.tz 0 0 rfl rfl rfl
        ·refine JP1.a h ?_
         exact Le.tz 0 0 rfl rfl rfl
       ·have h:=hk
        refine Qaf h (fun hb h=>?_) (fun hb h=>?_)
        ·refine vrfl ?_
         refine JP2.a h ?_
         exact Le.tz 0 0 rfl rfl rfl
        ·refine Qai h (fun o8 ho hk=>?_)
         refine Exists.intro (JP1 _ _ o8 .normal (Qxv p0 p1 x2)) (And.intro ?_ (join1 ?_))
         ·have h:=ho
          refine Qaf h (fun hb h=>?_) (fun hb h=>?_)
          ·refine JP1.a h ?_
           exact Le.tz 0 0 rfl rfl rfl
          ·refine JP1.a h ?_
           exact Le.tz 0 0 rfl rfl rfl
         ·have h:=hk
          refine Qaf h (fun hb h=>?_) (fun hb h=>?_)
          ·refine vrfl ?_
           refine JP2.a h ?_
           exact Le.tz 0 0 rfl rfl rfl
          ·refine JP2.b h ?_
           exact Le.tz 0 0 rfl rfl rfl
   ·have h:=(by rw[hy] at hk; exact hk)
    refine Qev (some (wr (p1+1))) none h (fun x9 hi h=>?_)
    refine Qar [sV x9,nV .i32 y4.1,iV y4.2.2] Qlk h (fun x10 hy=>(Q1m x9 y4.1 y4.2.2 x10 hy)) (fun x10 hy h=>?_)
    refine Qai h (fun o11 ho hk=>?_)
    refine Exists.intro (JP1 _ _ o11 .normal (Qxw y4 x10)) (And.intro ?_ (join1 ?_))
    ·have h:=ho
     refine Qaf h (fun hb h=>?_) (fun hb h=>?_)
     ·refine bT ?_
      refine JP1.a h ?_
      exact Le.tz 0 0 rfl rfl rfl
     ·refine Qaf h (fun hb h=>?_) (fun hb h=>?_)
      ·refine JP1.a h ?_
       exact Le.tz 0 0 rfl rfl rfl
      ·refine Qar [nV .i32 x10.1] Qxx h (fun x12 hy=>(Q5a x10.1 x12 hy)) (fun x12 hy h=>?_)
       refine JP1.a h ?_
       exact Le.tz 0 0 rfl rfl rfl
    ·have h:=hk
     refine Qaf h (fun hb h=>?_) (fun hb h=>?_)
     ·refine Qax (t:=Qjw) h ?_
      exact .refl _
     ·refine Qax (t:=Qjw) h ?_
      exact .refl _
   ·have h:=(by rw[hy] at hk; exact hk)
    refine Qax (t:=Qjw) h ?_
    exact .refl _
noncomputable def Qbf (h0_0:(List UInt8)) (h0_1:Int) (h0_2:(List Qac)) (v4:Int) (h1_0:Bool) (h1_1:(List Int)):Option ((Int×Bool×(List Int))⊕(Bool×(List Int))) :=
 ( if(decide (v4<(h0_0.length:Int))) then
   idx h0_0 v4>>=fun x5 =>
   some ((x5.toNat:Int) != 34)
  else
   some false:Option (Bool))>>=fun o4 =>
 if o4 then
  Qq1 h0_0 v4>>=fun x6 =>
  if(x6.1==92) then
   if((wr (v4+1))==(h0_0.length:Int)) then
    some (.inr (h1_0,h1_1))
   else
    idx h0_0 (wr (v4+1))>>=fun x7 =>
    Qkc (x7.toNat:Int)>>=fun x8 =>
    if(!x8.2) then
     some (.inr (h1_0,h1_1))
    else
     Qbz x8.1 h1_0 h1_1>>=fun x9 =>
     Qbf h0_0 h0_1 h0_2 (wr (v4+2)) x9.2.1 x9.2.2
  else
   ( if(x6.1==10) then
     some true
    else
     if(x6.1==13) then
      some true
     else
      if(x6.1==65533) then
       some (x6.2==1)
      else
       some false:Option (Bool))>>=fun o10 =>
   if o10 then
    some (.inr (h1_0,h1_1))
   else
    cutL h0_0 v4 (wr (v4+x6.2))>>=fun x11 =>
    Qbn x11 h1_0 h1_1>>=fun x12 =>
    Qbf h0_0 h0_1 h0_2 (wr (v4+x6.2)) x12.2.2.1 x12.2.2.2
 else
  some (.inl (v4,h1_0,h1_1))
 partial_fixpoint
theorem Qml:∀ (h0_0:(List UInt8)) (h0_1:Int) (h0_2:(List Qac)),(∀ (v4:Int) (h1_0:Bool) (h1_1:(List Int)) (o1:(Int×Bool×(List Int))⊕(Bool×(List Int))),Qbf h0_0 h0_1 h0_2 v4 h1_0 h1_1=some o1→TL (1,1) Tryz.prog 112 Qiq (JP2 (1,1) 112 o1 (.exit 0) (Qey h0_0 h0_1 h0_2) .ret (Qez h0_0 h0_1 h0_2)) (Qcp h0_0 h0_1 h0_2 v4 h1_0 h1_1)):=by
 intro h0_0 h0_1 h0_2
 refine Qbf.partial_correctness h0_0 h0_1 h0_2 _ ?_
 intro Qbf' iQbf v4 h1_0 h1_1 o1 h
 refine TL.round (Qam mixed tbOk (lv:=Qj8) _ _ _ ?_)
 refine Qai h (fun o4 ho hk=>?_)
 refine Exists.intro (JP1 _ _ o4 .normal (Qnu h0_0 h0_1 h0_2 v4 h1_0 h1_1)) (And.intro ?_ (join1 ?_))
 ·have h:=ho
  refine vrfl ?_
  refine Qaf h (fun hb h=>?_) (fun hb h=>?_)
  ·refine Qcq h (fun x5 hi h=>?_)
   refine JP1.a h ?_
   exact Le.tz 2 2 rfl rfl rfl
  ·refine JP1.a h ?_
   exact Le.tz 2 2 rfl rfl rfl
 ·have h:=hk
  refine Qaf h (fun hb h=>?_) (fun hb h=>?_)
  ·refine Qar [sV h0_0,iV v4] Qjw h (fun x6 hy=>(Q1n h0_0 v4 x6 hy)) (fun x6 hy h=>?_)
   refine Qaf h (fun hb h=>?_) (fun hb h=>?_)
   ·refine vrfl ?_
    refine Qaf h (fun hb h=>?_) (fun hb h=>?_)
    ·exact JP2.b h (Le.tz 2 2 rfl rfl rfl)
    ·refine Qcq h (fun x7 hi h=>?_)
     refine Qar [nV .u8 (x7.toNat:Int)] Qg2 h (fun x8 hy=>(Qvt (x7.toNat:Int) x8 hy)) (fun x8 hy h=>?_)
     refine Qaf h (fun hb h=>?_) (fun hb h=>?_)
     ·exact JP2.b h (Le.tz 2 2 rfl rfl rfl)
     ·refine Qag _ _ h (fun x9 hy=>((Qiu x8.1 h1_0 h1_1 x9 hy).fr [1] [1] rfl rfl rfl)) (fun x9 hy h=>?_)
      refine TL.le (τ := Qcp h0_0 h0_1 h0_2 (wr (v4+2)) x9.2.1 x9.2.2) ?_ ((iQbf (wr (v4+2)) x9.2.1 x9.2.2 _ h))
      exact Le.tz 2 2 rfl rfl rfl
   ·refine Qai h (fun o10 ho hk=>?_)
    refine Exists.intro (JP1 _ _ o10 .normal (Qnv h0_0 h0_1 h0_2 v4 h1_0 h1_1 x6)) (And.intro ?_ (join1 ?_))
    ·have h:=ho
     refine Qaf h (fun hb h=>?_) (fun hb h=>?_)
     ·refine bT ?_
      refine JP1.a h ?_
      exact Le.tz 2 2 rfl rfl rfl
     ·refine Qaf h (fun hb h=>?_) (fun hb h=>?_)
      ·refine JP1.a h ?_
       exact Le.tz 2 2 rfl rfl rfl
      ·refine Qaf h (fun hb h=>?_) (fun hb h=>?_)
       ·refine JP1.a h ?_
        exact Le.tz 2 2 rfl rfl rfl
       ·refine JP1.a h ?_
        exact Le.tz 2 2 rfl rfl rfl
    ·have h:=hk
     refine Qaf h (fun hb h=>?_) (fun hb h=>?_)
     ·exact JP2.b h (Le.tz 2 2 rfl rfl rfl)
     ·refine Qev (some v4) (some (wr (v4+x6.2))) h (fun x11 hi h=>?_)
      refine Qag _ _ h (fun x12 hy=>((Qhi x11 h1_0 h1_1 x12 hy).fr [1] [1] rfl rfl rfl)) (fun x12 hy h=>?_)
      refine TL.le (τ := Qcp h0_0 h0_1 h0_2 (wr (v4+x6.2)) x12.2.2.1 x12.2.2.2) ?_ ((iQbf (wr (v4+x6.2)) x12.2.2.1 x12.2.2.2 _ h))
      exact Le.tz 2 2 rfl rfl rfl
  ·exact JP2.a h (Le.tz 2 2 rfl rfl rfl)
theorem Qm8:∀ (h0_0:(List UInt8)) (h0_1:Int) (h0_2:(List Qac)) (v4:Int) (h1_0:Bool) (h1_1:(List Int)) (o1:(Int×Bool×(List Int))⊕(Bool×(List Int))),Qbf h0_0 h0_1 h0_2 v4 h1_0 h1_1=some o1→TL (1,1) Tryz.prog 112 Qiq (JP2 (1,1) 112 o1 (.exit 0) (Qey h0_0 h0_1 h0_2) .ret (Qez h0_0 h0_1 h0_2)) (Qcp h0_0 h0_1 h0_2 v4 h1_0 h1_1):=fun h0_0 h0_1 h0_2 v4 h1_0 h1_1=>(Qml h0_0 h0_1 h0_2) v4 h1_0 h1_1
noncomputable def Qcy (h0_0:Bool) (h0_1:(List Int)):Option ((List UInt8)) :=
 b2s h0_1
theorem Qkd:∀ (h0_0:Bool) (h0_1:(List Int)) (o:(List UInt8)),Qcy h0_0 h0_1=some o→CallOK Tryz.prog 88 [.ptr 0 0] ⟨[[.sp Tryz.prog 113 h0_0 0 0,.own 0 5 1 (h0_1.map (cNum .u8))]],[(h0_1.map (cNum .u8)).length]⟩ (Qkf o) ⟨[[.sp Tryz.prog 113 h0_0 0 0,.p (.sl false (h0_1.map (cNum .u8)))]],[((h0_1.map (cNum .u8)).length+1)]⟩:=by
 intro h0_0 h0_1 o h
 unfold Qcy at h
 exact Qsn [[.sp Tryz.prog 113 h0_0 0 0,.own 0 5 1 (h0_1.map (cNum .u8))]] [(h0_1.map (cNum .u8)).length] 0 0 [.sp Tryz.prog 113 h0_0 0 0,.own 0 5 1 (h0_1.map (cNum .u8))] (h0_1.map (cNum .u8)) rfl rfl rfl (Q4v h)
noncomputable def Qep (h0_0:(List UInt8)) (h0_1:Int) (h0_2:(List Qac)):Option (Bool×Int×(List Qac)) :=
 (Qbf h0_0 h0_1 h0_2 (wr (h0_1+1)) false [])>>=fun o1 =>
 match o1 with
 | .inl y2 =>
  if(decide (y2.1 ≥ (h0_0.length:Int))) then
   some (false,h0_1,h0_2)
  else
   Qcy y2.2.1 y2.2.2>>=fun x13 =>
   Qaz 5 x13 0 (wr ((wr (y2.1+1))-h0_1)) h0_0 h0_1 h0_2>>=fun x14 =>
   some (true,x14.1,x14.2)
 | .inr y3 =>
  some (false,h0_1,h0_2)
theorem Qp5:∀ (h0_0:(List UInt8)) (h0_1:Int) (h0_2:(List Qac)) (o:Bool×Int×(List Qac)),Qep h0_0 h0_1 h0_2=some o→CallOK Tryz.prog 51 [.ptr 0 0] ⟨[[.p (sV h0_0),.p (iV h0_1),.own 0 59 5 (h0_2.map Qab)]],[(h0_2.map Qab).length]⟩ (Qe5 o) ⟨[[.p (sV h0_0),.p (iV o.2.1),.own 0 59 5 (o.2.2.map Qab)]],[(o.2.2.map Qab).length]⟩:=by
 intro h0_0 h0_1 h0_2 o h
 unfold Qep at h
 refine CallOK.ofB mixed tbOk Qj8 Tryz.func51 rfl (by kernel_rfl) (Nat.le_of_ble_eq_true rfl) rfl rfl rfl ?_
 refine Qai h (fun o1 ho hk=>?_)
 refine Exists.intro (JP2 _ _ o1 (.exit 0) (Qey h0_0 h0_1 h0_2) .ret (Qez h0_0 h0_1 h0_2)) (And.intro (T_le (τ := Qcp h0_0 h0_1 h0_2 (wr (h0_1+1)) false []) ?_ (TL.loop (Qm8 h0_0 h0_1 h0_2 (wr (h0_1+1)) false [] o1 ho))) (join2 (fun y2 hy=>?_) (fun y3 hy=>?_)))
 ·exact(Le.ownH 1 1 5 1 rfl rfl sizeNil).trans (Le.tz 2 2 rfl rfl rfl)
 ·have h:=(by rw[hy] at hk; exact hk)
  refine vrfl ?_
  refine Qaf h (fun hb h=>?_) (fun hb h=>?_)
  ·refine Exists.intro _ (And.intro (Le.refl _ _ _) ?_)
   exact Qa7 (t:=Qe5) (ss:=fun o=>⟨[[.p (sV h0_0),.p (iV o.2.1),.own 0 59 5 (o.2.2.map Qab)]],[(o.2.2.map Qab).length]⟩) h ⟨[0],rfl,.refl _,.refl _,rfl⟩
  ·refine And.intro (by decide +kernel) (And.intro rfl ?_)
   refine Q56 _ _ h (fun x13 hy=>((Qkd y2.2.1 y2.2.2 x13 hy).ff [1] [1] rfl rfl rfl rfl (Nat.le_of_ble_eq_true rfl))) (fun x13 hy h=>?_)
   refine Qkk _ _ h (fun x14 hy=>((Qb3 5 x13 0 (wr ((wr (y2.1+1))-h0_1)) h0_0 h0_1 h0_2 x14 hy).fg [0] [0] rfl rfl rfl (Nat.le_of_ble_eq_true rfl))) (fun x14 hy h=>?_)
   refine Exists.intro _ (And.intro (Le.refl _ _ _) ?_)
   exact Qa7 (t:=Qe5) (ss:=fun o=>⟨[[.p (sV h0_0),.p (iV o.2.1),.own 0 59 5 (o.2.2.map Qab)]],[(o.2.2.map Qab).length]⟩) h ⟨[0],rfl,.refl _,.refl _,rfl⟩
 ·have h:=(by rw[hy] at hk; exact hk)
  refine Exists.intro _ (And.intro (Le.refl _ _ _) ?_)
  exact Qa7 (t:=Qe5) (ss:=fun o=>⟨[[.p (sV h0_0),.p (iV o.2.1),.own 0 59 5 (o.2.2.map Qab)]],[(o.2.2.map Qab).length]⟩) h ⟨[0],rfl,.refl _,.refl _,rfl⟩
noncomputable def Qfi (p0:(List UInt8)) (v6:Int):Option (Unit⊕Unit) :=
 if(decide (v6<(p0.length:Int))) then
  idx p0 v6>>=fun x4 =>
  Qh1 (x4.toNat:Int)>>=fun x5 =>
  if(!x5) then
   some (.inr ())
  else
   Qfi p0 (wr (v6+1))
 else
  some (.inl ())
 partial_fixpoint
theorem Quu:∀ (p0:(List UInt8)),(∀ (v6:Int) (o1:Unit⊕Unit),Qfi p0 v6=some o1→TL (0,0) Tryz.prog 27 Qqv (JP2 (0,0) 27 o1 (.exit 0) (Qk7 p0) .ret (Qk8 p0)) (Qh9 p0 v6)):=by
 intro p0
 refine Qfi.partial_correctness p0 _ ?_
 intro Qfi' iQfi v6 o1 h
 refine TL.round (Qam mixed tbOk (lv:=Qud) _ _ _ ?_)
 refine Qaf h (fun hb h=>?_) (fun hb h=>?_)
 ·refine Qcq h (fun x4 hi h=>?_)
  refine Qar [nV .u8 (x4.toNat:Int)] Qin h (fun x5 hy=>(Qmj (x4.toNat:Int) x5 hy)) (fun x5 hy h=>?_)
  refine Qaf h (fun hb h=>?_) (fun hb h=>?_)
  ·exact JP2.b h (Le.tz 0 0 rfl rfl rfl)
  ·refine TL.le (τ := Qh9 p0 (wr (v6+1))) ?_ ((iQfi (wr (v6+1)) _ h))
   exact Le.tz 0 0 rfl rfl rfl
 ·exact JP2.a h (Le.tz 0 0 rfl rfl rfl)
theorem Qvv:∀ (p0:(List UInt8)) (v6:Int) (o1:Unit⊕Unit),Qfi p0 v6=some o1→TL (0,0) Tryz.prog 27 Qqv (JP2 (0,0) 27 o1 (.exit 0) (Qk7 p0) .ret (Qk8 p0)) (Qh9 p0 v6):=fun p0 v6=>(Quu p0) v6
noncomputable def Qkv (p0:(List UInt8)):Option (Bool) :=
 (Qfi p0 0)>>=fun o1 =>
 match o1 with
 | .inl y2 =>
  ( if(!(p0==[])) then
    if(decide ((p0.length:Int)≤32)) then
     idx p0 0>>=fun x7 =>
     some (decide ((x7.toNat:Int) ≥ 97))
    else
     some false
   else
    some false:Option (Bool))>>=fun o6 =>
  some o6
 | .inr y3 =>
  some false
theorem Qp6:∀ (p0:(List UInt8)) (o:Bool),Qkv p0=some o→PCall Tryz.prog 91 [sV p0] (Qjv o):=by
 intro p0 o h
 unfold Qkv at h
 refine PCall.ofB mixed tbOk Qud Tryz.func91 rfl (by kernel_rfl) (Nat.le_of_ble_eq_true rfl) ?_
 refine vrfl ?_
 refine Qai h (fun o1 ho hk=>?_)
 refine Exists.intro (JP2 _ _ o1 (.exit 0) (Qk7 p0) .ret (Qk8 p0)) (And.intro (T_le (τ := Qh9 p0 0) ?_ (TL.loop (Qvv p0 0 o1 ho))) (join2 (fun y2 hy=>?_) (fun y3 hy=>?_)))
 ·exact Le.tz 0 0 rfl rfl rfl
 ·have h:=(by rw[hy] at hk; exact hk)
  refine Qai h (fun o6 ho hk=>?_)
  refine Exists.intro (JP1 _ _ o6 .normal (Qxo )) (And.intro ?_ (join1 ?_))
  ·have h:=ho
   refine Qaf h (fun hb h=>?_) (fun hb h=>?_)
   ·refine vrfl ?_
    refine Qaf h (fun hb h=>?_) (fun hb h=>?_)
    ·refine Qcq h (fun x7 hi h=>?_)
     refine JP1.a h ?_
     exact Le.tz 0 0 rfl rfl rfl
    ·refine JP1.a h ?_
     exact Le.tz 0 0 rfl rfl rfl
   ·refine bF ?_
    refine JP1.a h ?_
    exact Le.tz 0 0 rfl rfl rfl
  ·have h:=hk
   refine Qax (t:=Qjv) h ?_
   exact .refl _
 ·have h:=(by rw[hy] at hk; exact hk)
  refine Qax (t:=Qjv) h ?_
  exact .refl _
noncomputable def Qav (h0_0:(List UInt8)) (h0_1:Int) (h0_2:(List Qac)) (v7:Int):Option (Int) :=
 ( if(decide (v7<(h0_0.length:Int))) then
   idx h0_0 v7>>=fun x3 =>
   Qh1 (x3.toNat:Int)>>=fun x4 =>
   some x4
  else
   some false:Option (Bool))>>=fun o2 =>
 if o2 then
  Qav h0_0 h0_1 h0_2 (wr (v7+1))
 else
  some v7
 partial_fixpoint
theorem Qhf:∀ (h0_0:(List UInt8)) (h0_1:Int) (h0_2:(List Qac)),(∀ (v7:Int) (o1:Int),Qav h0_0 h0_1 h0_2 v7=some o1→TL (1,1) Tryz.prog 38 Qdv (JP1 (1,1) 38 o1 (.exit 0) (Qcm h0_0 h0_1 h0_2)) (Qbw h0_0 h0_1 h0_2 v7)):=by
 intro h0_0 h0_1 h0_2
 refine Qav.partial_correctness h0_0 h0_1 h0_2 _ ?_
 intro Qav' iQav v7 o1 h
 refine TL.round (Qam mixed tbOk (lv:=Qem) _ _ _ ?_)
 refine Qai h (fun o2 ho hk=>?_)
 refine Exists.intro (JP1 _ _ o2 .normal (Qhz h0_0 h0_1 h0_2 v7)) (And.intro ?_ (join1 ?_))
 ·have h:=ho
  refine vrfl ?_
  refine Qaf h (fun hb h=>?_) (fun hb h=>?_)
  ·refine Qcq h (fun x3 hi h=>?_)
   refine Qar [nV .u8 (x3.toNat:Int)] Qin h (fun x4 hy=>(Qmj (x3.toNat:Int) x4 hy)) (fun x4 hy h=>?_)
   refine JP1.a h ?_
   exact Le.tz 1 1 rfl rfl rfl
  ·refine JP1.a h ?_
   exact Le.tz 1 1 rfl rfl rfl
 ·have h:=hk
  refine Qaf h (fun hb h=>?_) (fun hb h=>?_)
  ·refine TL.le (τ := Qbw h0_0 h0_1 h0_2 (wr (v7+1))) ?_ ((iQav (wr (v7+1)) _ h))
   exact Le.tz 1 1 rfl rfl rfl
  ·exact JP1.a h (Le.tz 1 1 rfl rfl rfl)
theorem Qhj:∀ (h0_0:(List UInt8)) (h0_1:Int) (h0_2:(List Qac)) (v7:Int) (o1:Int),Qav h0_0 h0_1 h0_2 v7=some o1→TL (1,1) Tryz.prog 38 Qdv (JP1 (1,1) 38 o1 (.exit 0) (Qcm h0_0 h0_1 h0_2)) (Qbw h0_0 h0_1 h0_2 v7):=fun h0_0 h0_1 h0_2 v7=>(Qhf h0_0 h0_1 h0_2) v7
noncomputable def Qco (p1:Int) (h0_0:(List UInt8)) (h0_1:Int) (h0_2:(List Qac)):Option ((List UInt8)) :=
 (Qav h0_0 h0_1 h0_2 p1)>>=fun o1 =>
 cutL h0_0 h0_1 o1>>=fun x5 =>
 some x5
theorem Qjd:∀ (p1:Int) (h0_0:(List UInt8)) (h0_1:Int) (h0_2:(List Qac)) (o:(List UInt8)),Qco p1 h0_0 h0_1 h0_2=some o→CallOK Tryz.prog 89 [.ptr 0 0,.p (iV p1),.fn (.func 54) [] []] ⟨[[.p (sV h0_0),.p (iV h0_1),.own 0 59 5 (h0_2.map Qab)]],[(h0_2.map Qab).length]⟩ (Qe4 o) ⟨[[.p (sV h0_0),.p (iV h0_1),.own 0 59 5 (h0_2.map Qab)]],[(h0_2.map Qab).length]⟩:=by
 intro p1 h0_0 h0_1 h0_2 o h
 unfold Qco at h
 refine CallOK.ofB mixed tbOk Qem Tryz.func89 rfl (by kernel_rfl) (Nat.le_of_ble_eq_true rfl) rfl rfl rfl ?_
 refine Qai h (fun o1 ho hk=>?_)
 refine Exists.intro (JP1 _ _ o1 (.exit 0) (Qcm h0_0 h0_1 h0_2)) (And.intro (T_le (τ := Qbw h0_0 h0_1 h0_2 p1) ?_ (TL.loop (Qhj h0_0 h0_1 h0_2 p1 o1 ho))) (join1 ?_))
 ·exact Le.tz 1 1 rfl rfl rfl
 have h:=hk
 refine And.intro (by decide +kernel) (And.intro rfl ?_)
 refine Qev (some h0_1) (some o1) h (fun x5 hi h=>?_)
 refine Exists.intro _ (And.intro (Le.refl _ _ _) ?_)
 exact Qa7 (t:=Qe4) (ss:=fun o=>⟨[[.p (sV h0_0),.p (iV h0_1),.own 0 59 5 (h0_2.map Qab)]],[(h0_2.map Qab).length]⟩) h ⟨[0],rfl,.refl _,.refl _,rfl⟩
noncomputable def Qeq (h0_0:(List UInt8)) (h0_1:Int) (h0_2:(List Qac)):Option (Bool×Int×(List Qac)) :=
 Qco h0_1 h0_0 h0_1 h0_2>>=fun x1 =>
 Qkv x1>>=fun x2 =>
 if(!x2) then
  some (false,h0_1,h0_2)
 else
  Qaz 4 x1 0 (x1.length:Int) h0_0 h0_1 h0_2>>=fun x3 =>
  some (true,x3.1,x3.2)
theorem Qp7:∀ (h0_0:(List UInt8)) (h0_1:Int) (h0_2:(List Qac)) (o:Bool×Int×(List Qac)),Qeq h0_0 h0_1 h0_2=some o→CallOK Tryz.prog 55 [.ptr 0 0] ⟨[[.p (sV h0_0),.p (iV h0_1),.own 0 59 5 (h0_2.map Qab)]],[(h0_2.map Qab).length]⟩ (Qg4 o) ⟨[[.p (sV h0_0),.p (iV o.2.1),.own 0 59 5 (o.2.2.map Qab)]],[(o.2.2.map Qab).length]⟩:=by
 intro h0_0 h0_1 h0_2 o h
 unfold Qeq at h
 refine CallOK.ofB mixed tbOk Qpx Tryz.func55 rfl (by kernel_rfl) (Nat.le_of_ble_eq_true rfl) rfl rfl rfl ?_
 refine Qag _ _ h (fun x1 hy=>((Qjd h0_1 h0_0 h0_1 h0_2 x1 hy).fr [0] [0] rfl rfl rfl)) (fun x1 hy h=>?_)
 refine Qar [sV x1] Qjv h (fun x2 hy=>(Qp6 x1 x2 hy)) (fun x2 hy h=>?_)
 refine Qaf h (fun hb h=>?_) (fun hb h=>?_)
 ·refine Exists.intro _ (And.intro (Le.refl _ _ _) ?_)
  exact Qa7 (t:=Qg4) (ss:=fun o=>⟨[[.p (sV h0_0),.p (iV o.2.1),.own 0 59 5 (o.2.2.map Qab)]],[(o.2.2.map Qab).length]⟩) h ⟨[0],rfl,.refl _,.refl _,rfl⟩
 ·refine vrfl ?_
  refine Qag _ _ h (fun x3 hy=>((Qb3 4 x1 0 (x1.length:Int) h0_0 h0_1 h0_2 x3 hy).fr [0] [0] rfl rfl rfl)) (fun x3 hy h=>?_)
  refine Exists.intro _ (And.intro (Le.refl _ _ _) ?_)
  exact Qa7 (t:=Qg4) (ss:=fun o=>⟨[[.p (sV h0_0),.p (iV o.2.1),.own 0 59 5 (o.2.2.map Qab)]],[(o.2.2.map Qab).length]⟩) h ⟨[0],rfl,.refl _,.refl _,rfl⟩
noncomputable def Qc8 (h0_0:(List UInt8)) (h0_1:Int) (h0_2:(List Qac)):Option (Bool×Int×(List Qac)) :=
 idx h0_0 h0_1>>=fun x1 =>
 if((x1.toNat:Int)==34) then
  Qep h0_0 h0_1 h0_2>>=fun x2 =>
  some (x2.1,x2.2.1,x2.2.2)
 else
  ( if((x1.toNat:Int)==45) then
    some true
   else
    Qit (x1.toNat:Int)>>=fun x4 =>
    some x4:Option (Bool))>>=fun o3 =>
  if o3 then
   Qdk h0_0 h0_1 h0_2>>=fun x5 =>
   some (x5.1,x5.2.1,x5.2.2)
  else
   Qh1 (x1.toNat:Int)>>=fun x6 =>
   if x6 then
    Qeq h0_0 h0_1 h0_2>>=fun x7 =>
    some (x7.1,x7.2.1,x7.2.2)
   else
    Qeo h0_0 h0_1 h0_2>>=fun x8 =>
    some (x8.1,x8.2.1,x8.2.2)
theorem Qm9:∀ (h0_0:(List UInt8)) (h0_1:Int) (h0_2:(List Qac)) (o:Bool×Int×(List Qac)),Qc8 h0_0 h0_1 h0_2=some o→CallOK Tryz.prog 30 [.ptr 0 0] ⟨[[.p (sV h0_0),.p (iV h0_1),.own 0 59 5 (h0_2.map Qab)]],[(h0_2.map Qab).length]⟩ (Qcw o) ⟨[[.p (sV h0_0),.p (iV o.2.1),.own 0 59 5 (o.2.2.map Qab)]],[(o.2.2.map Qab).length]⟩:=by
 intro h0_0 h0_1 h0_2 o h
 unfold Qc8 at h
 refine CallOK.ofB mixed tbOk Qm0 Tryz.func30 rfl (by kernel_rfl) (Nat.le_of_ble_eq_true rfl) rfl rfl rfl ?_
 refine And.intro (by decide +kernel) (And.intro rfl ?_)
 refine Qcq h (fun x1 hi h=>?_)
 refine Qaf h (fun hb h=>?_) (fun hb h=>?_)
 ·refine Qag _ _ h (fun x2 hy=>((Qp5 h0_0 h0_1 h0_2 x2 hy).fr [0] [0] rfl rfl rfl)) (fun x2 hy h=>?_)
  refine Exists.intro _ (And.intro (Le.refl _ _ _) ?_)
  exact Qa7 (t:=Qcw) (ss:=fun o=>⟨[[.p (sV h0_0),.p (iV o.2.1),.own 0 59 5 (o.2.2.map Qab)]],[(o.2.2.map Qab).length]⟩) h ⟨[0],rfl,.refl _,.refl _,rfl⟩
 ·refine Qai h (fun o3 ho hk=>?_)
  refine Exists.intro (JP1 _ _ o3 .normal (Qli h0_0 h0_1 h0_2 x1)) (And.intro ?_ (join1 ?_))
  ·have h:=ho
   refine Qaf h (fun hb h=>?_) (fun hb h=>?_)
   ·refine JP1.a h ?_
    exact Le.tz 1 1 rfl rfl rfl
   ·refine Qar [nV .u8 (x1.toNat:Int)] Qhy h (fun x4 hy=>(Qkt (x1.toNat:Int) x4 hy)) (fun x4 hy h=>?_)
    refine JP1.a h ?_
    exact Le.tz 1 1 rfl rfl rfl
  ·have h:=hk
   refine Qaf h (fun hb h=>?_) (fun hb h=>?_)
   ·refine Qag _ _ h (fun x5 hy=>((Qn3 h0_0 h0_1 h0_2 x5 hy).fr [0] [0] rfl rfl rfl)) (fun x5 hy h=>?_)
    refine Exists.intro _ (And.intro (Le.refl _ _ _) ?_)
    exact Qa7 (t:=Qcw) (ss:=fun o=>⟨[[.p (sV h0_0),.p (iV o.2.1),.own 0 59 5 (o.2.2.map Qab)]],[(o.2.2.map Qab).length]⟩) h ⟨[0],rfl,.refl _,.refl _,rfl⟩
   ·refine Qar [nV .u8 (x1.toNat:Int)] Qin h (fun x6 hy=>(Qmj (x1.toNat:Int) x6 hy)) (fun x6 hy h=>?_)
    refine Qaf h (fun hb h=>?_) (fun hb h=>?_)
    ·refine Qag _ _ h (fun x7 hy=>((Qp7 h0_0 h0_1 h0_2 x7 hy).fr [0] [0] rfl rfl rfl)) (fun x7 hy h=>?_)
     refine Exists.intro _ (And.intro (Le.refl _ _ _) ?_)
     exact Qa7 (t:=Qcw) (ss:=fun o=>⟨[[.p (sV h0_0),.p (iV o.2.1),.own 0 59 5 (o.2.2.map Qab)]],[(o.2.2.map Qab).length]⟩) h ⟨[0],rfl,.refl _,.refl _,rfl⟩
    ·refine Qag _ _ h (fun x8 hy=>((Qp4 h0_0 h0_1 h0_2 x8 hy).fr [0] [0] rfl rfl rfl)) (fun x8 hy h=>?_)
     refine Exists.intro _ (And.intro (Le.refl _ _ _) ?_)
     exact Qa7 (t:=Qcw) (ss:=fun o=>⟨[[.p (sV h0_0),.p (iV o.2.1),.own 0 59 5 (o.2.2.map Qab)]],[(o.2.2.map Qab).length]⟩) h ⟨[0],rfl,.refl _,.refl _,rfl⟩
noncomputable def strings_HasPrefix (p0:(List UInt8)) (p1:(List UInt8)):Option (Bool) :=
 Qb5 p0 p1>>=fun x1 =>
 some x1
theorem Qpd:∀ (p0:(List UInt8)) (p1:(List UInt8)) (o:Bool),strings_HasPrefix p0 p1=some o→PCall Tryz.prog 50 [sV p0,sV p1] (Qgl o):=by
 intro p0 p1 o h
 unfold strings_HasPrefix at h
 refine PCall.ofB mixed tbOk Qpb Tryz.func50 rfl (by kernel_rfl) (Nat.le_of_ble_eq_true rfl) ?_
 refine Qar [sV p0,sV p1] Qcl h (fun x1 hy=>(Qhd p0 p1 x1 hy)) (fun x1 hy h=>?_)
 refine Qax (t:=Qgl) h ?_
 exact .refl _
noncomputable def Qd6 (p0:(List UInt8)) (p1:(List UInt8)) (p2:Int):Option (Bool) :=
 ( if(decide (p2 ≥ 0)) then
   if(decide (p2≤(p0.length:Int))) then
    cutL p0 p2 (p0.length:Int)>>=fun x2 =>
    strings_HasPrefix x2 p1>>=fun x3 =>
    some x3
   else
    some false
  else
   some false:Option (Bool))>>=fun o1 =>
 some o1
theorem Qn4:∀ (p0:(List UInt8)) (p1:(List UInt8)) (p2:Int) (o:Bool),Qd6 p0 p1 p2=some o→PCall Tryz.prog 29 [sV p0,sV p1,iV p2] (Qia o):=by
 intro p0 p1 p2 o h
 unfold Qd6 at h
 refine PCall.ofB mixed tbOk Quf Tryz.func29 rfl (by kernel_rfl) (Nat.le_of_ble_eq_true rfl) ?_
 refine Qai h (fun o1 ho hk=>?_)
 refine Exists.intro (JP1 _ _ o1 .normal (Qrr )) (And.intro ?_ (join1 ?_))
 ·have h:=ho
  refine Qaf h (fun hb h=>?_) (fun hb h=>?_)
  ·refine vrfl ?_
   refine Qaf h (fun hb h=>?_) (fun hb h=>?_)
   ·refine Qev (some p2) none h (fun x2 hi h=>?_)
    refine Qar [sV x2,sV p1] Qgl h (fun x3 hy=>(Qpd x2 p1 x3 hy)) (fun x3 hy h=>?_)
    refine JP1.a h ?_
    exact Le.tz 0 0 rfl rfl rfl
   ·refine JP1.a h ?_
    exact Le.tz 0 0 rfl rfl rfl
  ·refine bF ?_
   refine JP1.a h ?_
   exact Le.tz 0 0 rfl rfl rfl
 ·have h:=hk
  refine Qax (t:=Qia) h ?_
  exact .refl _
noncomputable def strings_Index (p0:(List UInt8)) (p1:(List UInt8)):Option (Int) :=
 Qcn p0 p1>>=fun x1 =>
 some x1
theorem Qmu:∀ (p0:(List UInt8)) (p1:(List UInt8)) (o:Int),strings_Index p0 p1=some o→PCall Tryz.prog 26 [sV p0,sV p1] (Qg8 o):=by
 intro p0 p1 o h
 unfold strings_Index at h
 refine PCall.ofB mixed tbOk Qsq Tryz.func26 rfl (by kernel_rfl) (Nat.le_of_ble_eq_true rfl) ?_
 refine Qar [sV p0,sV p1] Qe1 h (fun x1 hy=>(Qjc p0 p1 x1 hy)) (fun x1 hy h=>?_)
 refine Qax (t:=Qg8) h ?_
 exact .refl _
mutual
noncomputable def Qcx (p0:(List UInt8)) (w0:Int×(List Qac)):Option (((List Qac)×Int×Int)) :=
 cutL p0 w0.1 (p0.length:Int)>>=fun x2 =>
 strings_Index x2 [123,123]>>=fun x3 =>
 ( if(decide (x3<0)) then
   some (wr ((p0.length:Int)-w0.1))
  else
   some x3:Option (Int))>>=fun o4 =>
 ( if(decide (o4>0)) then
   cutL p0 w0.1 (wr (w0.1+o4))>>=fun x6 =>
   Qaz 1 x6 0 o4 p0 w0.1 w0.2>>=fun x7 =>
   some (x7.1,x7.2)
  else
   some (w0.1,w0.2):Option ((Int×(List Qac))))>>=fun o5 =>
 if(o5.1==(p0.length:Int)) then
  some (o5.2,0,0)
 else
  Qaz 2 [] 0 2 p0 o5.1 o5.2>>=fun x8 =>
  Qcj p0 x8.1 x8.2>>=fun x9 =>
  ( Qd6 p0 [35] x9>>=fun x13 =>
   if x13 then
    cutL p0 x9 (p0.length:Int)>>=fun x14 =>
    strings_Index x14 [125,125]>>=fun x15 =>
    if(decide (x15<0)) then
     some (.inr ())
    else
     some (.inl (wr (x9+x15)))
   else
    some (.inl x9):Option (Int⊕Unit))>>=fun o10 =>
  match o10 with
  | .inl y11 =>
   Qfj p0 (y11,x8.2)
  | .inr y12 =>
   some ([],(p0.length:Int),7)
 partial_fixpoint
noncomputable def Qfj (p0:(List UInt8)) (w1:Int×(List Qac)):Option (((List Qac)×Int×Int)) :=
 Qcj p0 w1.1 w1.2>>=fun x16 =>
 Qd6 p0 [125,125] x16>>=fun x17 =>
 if x17 then
  Qaz 3 [] 0 2 p0 x16 w1.2>>=fun x18 =>
  Qcx p0 (x18.1,x18.2)
 else
  ( if(x16==(p0.length:Int)) then
    some (true,x16,w1.2)
   else
    Qc8 p0 x16 w1.2>>=fun x20 =>
    some ((!x20.1),x20.2.1,x20.2.2):Option ((Bool×Int×(List Qac))))>>=fun o19 =>
  if o19.1 then
   some ([],o19.2.1,7)
  else
   Qfj p0 (o19.2.1,o19.2.2)
 partial_fixpoint
end
theorem Qp8:∀ (p0:(List UInt8)),(∀ (w0:Int×(List Qac)) (o1:((List Qac)×Int×Int)),Qcx p0 w0=some o1→TG (0,0) Tryz.prog 112 Qdu (behind Qdu 0) (JP1 (0,0) 112 o1 .ret (Qf5 p0)) (Qe2 p0 w0))∧(∀ (w1:Int×(List Qac)) (o1:((List Qac)×Int×Int)),Qfj p0 w1=some o1→TG (0,0) Tryz.prog 112 Qdu (behind Qdu 1) (JP1 (0,0) 112 o1 .ret (Qf5 p0)) (Qg1 p0 w1)):=by
 intro p0
 refine Qcx.mutual_partial_correctness p0 _ _ ?_ ?_
 ·intro Qfj' iQfj w0 o1 h
  refine TG.seqb mixed tbOk (lv:=Qbk) ?_
  refine Qev (some w0.1) none h (fun x2 hi h=>?_)
  refine Qar [sV x2,sV [123,123]] Qg8 h (fun x3 hy=>(Qmu x2 [123,123] x3 hy)) (fun x3 hy h=>?_)
  refine TG.seqj mixed tbOk (lv:=Qbk) ?_
  refine Qai h (fun o4 ho hk=>?_)
  refine Exists.intro (JP1 _ _ o4 .normal (Qt8 p0 w0)) (And.intro ?_ (join1 ?_))
  ·have h:=ho
   refine Qaf h (fun hb h=>?_) (fun hb h=>?_)
   ·refine vrfl ?_
    refine JP1.a h ?_
    exact Le.tz 1 1 rfl rfl rfl
   ·refine JP1.a h ?_
    exact Le.tz 1 1 rfl rfl rfl
  ·have h:=hk
   refine TG.seqj mixed tbOk (lv:=Qbk) ?_
   refine Qai h (fun o5 ho hk=>?_)
   refine Exists.intro (JP1 _ _ o5 .normal (Qt9 p0)) (And.intro ?_ (join1 ?_))
   ·have h:=ho
    refine Qaf h (fun hb h=>?_) (fun hb h=>?_)
    ·refine And.intro (by decide +kernel) (And.intro rfl ?_)
     refine Qev (some w0.1) (some (wr (w0.1+o4))) h (fun x6 hi h=>?_)
     refine Qkk _ _ h (fun x7 hy=>((Qb3 1 x6 0 o4 p0 w0.1 w0.2 x7 hy).fg [0] [0] rfl rfl rfl (Nat.le_of_ble_eq_true rfl))) (fun x7 hy h=>?_)
     refine JP1.a h ?_
     exact Le.tz 1 1 rfl rfl rfl
    ·refine JP1.a h ?_
     exact Le.tz 1 1 rfl rfl rfl
   ·have h:=hk
    refine TG.seqb mixed tbOk (lv:=Qbk) ?_
    refine vrfl ?_
    refine Qaf h (fun hb h=>?_) (fun hb h=>?_)
    ·refine JP1.a h ?_
     exact Le.tz 0 0 rfl rfl rfl
    ·refine TG.seqb mixed tbOk (lv:=Qbk) ?_
     refine Qag _ _ h (fun x8 hy=>((Qb3 2 [] 0 2 p0 o5.1 o5.2 x8 hy).fr [0] [0] rfl rfl rfl)) (fun x8 hy h=>?_)
     refine TG.seqb mixed tbOk (lv:=Qbk) ?_
     refine Qag _ _ h (fun x9 hy=>((Qhe p0 x8.1 x8.2 x9 hy).fr [0] [0] rfl rfl rfl)) (fun x9 hy h=>?_)
     refine TG.seqj mixed tbOk (lv:=Qbk) ?_
     refine Qai h (fun o10 ho hk=>?_)
     refine Exists.intro (JP2 _ _ o10 .normal (Qua p0 x8 x9) .ret (Qub p0 x8 x9)) (And.intro ?_ (join2 (fun y11 hy=>?_) (fun y12 hy=>?_)))
     ·have h:=ho
      refine Qar [sV p0,sV [35],iV x9] Qia h (fun x13 hy=>(Qn4 p0 [35] x9 x13 hy)) (fun x13 hy h=>?_)
      refine Qaf h (fun hb h=>?_) (fun hb h=>?_)
      ·refine Qev (some x9) none h (fun x14 hi h=>?_)
       refine Qar [sV x14,sV [125,125]] Qg8 h (fun x15 hy=>(Qmu x14 [125,125] x15 hy)) (fun x15 hy h=>?_)
       refine Qaf h (fun hb h=>?_) (fun hb h=>?_)
       ·refine vrfl ?_
        refine JP2.b h ?_
        exact Le.tz 1 1 rfl rfl rfl
       ·refine JP2.a h ?_
        exact Le.tz 1 1 rfl rfl rfl
      ·refine JP2.a h ?_
       exact Le.tz 1 1 rfl rfl rfl
     ·have h:=(by rw[hy] at hk; exact hk)
      refine TG.label (TG.le (τ := Qg1 p0 (y11,x8.2)) ?_ ((iQfj (y11,x8.2) _ h)))
      exact Le.tz 1 1 rfl rfl rfl
     ·have h:=(by rw[hy] at hk; exact hk)
      refine JP1.a h ?_
      exact Le.tow 0 0 rfl (.cons rfl (.p (.not)) (.cons rfl (.refl _) (.cons rfl (.refl _) (.nil)))) (.refl _) rfl
 ·intro Qcx' Qfj' iQcx iQfj w1 o1 h
  refine TG.seqb mixed tbOk (lv:=Qbk) ?_
  refine Qag _ _ h (fun x16 hy=>((Qhe p0 w1.1 w1.2 x16 hy).fr [0] [0] rfl rfl rfl)) (fun x16 hy h=>?_)
  refine TG.seqb mixed tbOk (lv:=Qbk) ?_
  refine Qar [sV p0,sV [125,125],iV x16] Qia h (fun x17 hy=>(Qn4 p0 [125,125] x16 x17 hy)) (fun x17 hy h=>?_)
  refine Qaf h (fun hb h=>?_) (fun hb h=>?_)
  ·refine Qag _ _ h (fun x18 hy=>((Qb3 3 [] 0 2 p0 x16 w1.2 x18 hy).fr [0] [0] rfl rfl rfl)) (fun x18 hy h=>?_)
   refine Exists.intro _ (And.intro rfl (TG.skip (TG.le (τ := Qe2 p0 (x18.1,x18.2)) ?_ ((iQcx (x18.1,x18.2) _ h)))))
   exact Le.tz 1 1 rfl rfl rfl
  ·refine TG.seqb mixed tbOk (lv:=Qbk) ?_
   refine Qai h (fun o19 ho hk=>?_)
   refine Exists.intro (JP1 _ _ o19 .normal (Quc p0)) (And.intro ?_ (join1 ?_))
   ·have h:=ho
    refine vrfl ?_
    refine Qaf h (fun hb h=>?_) (fun hb h=>?_)
    ·refine JP1.a h ?_
     exact Le.tz 1 1 rfl rfl rfl
    ·refine Qag _ _ h (fun x20 hy=>((Qm9 p0 x16 w1.2 x20 hy).fr [0] [0] rfl rfl rfl)) (fun x20 hy h=>?_)
     refine JP1.a h ?_
     exact Le.tz 1 1 rfl rfl rfl
   ·have h:=hk
    refine Qaf h (fun hb h=>?_) (fun hb h=>?_)
    ·refine And.intro (by decide +kernel) (And.intro rfl ?_)
     refine JP1.a h ?_
     exact Le.tow 0 0 rfl (.cons rfl (.p (.not)) (.cons rfl (.refl _) (.cons rfl (.refl _) (.nil)))) (.refl _) rfl
    ·refine TG.lastb mixed tbOk (lv:=Qbk) ?_
     refine Exists.intro _ (And.intro rfl (TG.skip (TG.le (τ := Qg1 p0 (o19.2.1,o19.2.2)) ?_ ((iQfj (o19.2.1,o19.2.2) _ h)))))
     exact Le.tz 1 1 rfl rfl rfl
theorem Qq2:∀ (p0:(List UInt8)) (w0:Int×(List Qac)) (o1:((List Qac)×Int×Int)),Qcx p0 w0=some o1→TG (0,0) Tryz.prog 112 Qdu (behind Qdu 0) (JP1 (0,0) 112 o1 .ret (Qf5 p0)) (Qe2 p0 w0):=fun p0 w0=>(Qp8 p0).1 w0
noncomputable def Qlo (p0:(List UInt8)):Option ((List Qac)×Int×Int) :=
 ( if(decide ((p0.length:Int)>65536)) then
   some ([],0,6)
  else
   Qcx p0 (0,[]):Option (((List Qac)×Int×Int)))>>=fun o1 =>
 some (o1.1,o1.2.1,o1.2.2)
theorem Qx5:∀ (p0:(List UInt8)) (o:(List Qac)×Int×Int),Qlo p0=some o→PCall Tryz.prog 14 [sV p0] (Qns o):=by
 intro p0 o h
 unfold Qlo at h
 refine PCall.ofB mixed tbOk Qbk Tryz.func14 rfl (by kernel_rfl) (Nat.le_of_ble_eq_true rfl) ?_
 refine Qai h (fun o1 ho hk=>?_)
 refine Exists.intro (JP1 _ _ o1 .ret (Qf5 p0)) (And.intro (TG.scope ?_) (join1 ?_))
 ·have h:=ho
  refine TG.seqb mixed tbOk (lv:=Qbk) ?_
  refine vrfl ?_
  refine Qaf h (fun hb h=>?_) (fun hb h=>?_)
  ·refine JP1.a h ?_
   exact Le.tow 0 0 rfl (.cons rfl (.p (.not)) (.cons rfl (.refl _) (.cons rfl (.refl _) (.nil)))) (.refl _) rfl
  ·refine TG.seqb mixed tbOk (lv:=Qbk) ?_
   refine TG.seqb mixed tbOk (lv:=Qbk) ?_
   refine TG.label (TG.le (τ := Qe2 p0 (0,[])) ?_ ((Qq2 p0 (0,[]) _ h)))
   exact(Le.ownH 0 2 59 5 rfl rfl sizeNil).trans (Le.tz 1 1 rfl rfl rfl)
 ·have h:=hk
  refine Qax (t:=Qns) h ?_
  exact .refl _
noncomputable def Qa5 (p0:Int) (p1:Int) (p2:Bool) (v7:(List UInt8)) (v8:(List UInt8)) (v9:Int):Option (((List UInt8)×(List UInt8))) :=
 if(decide (v9<((wr p0).tmod 16))) then
  need (v7.length+[123,123,32,105,102,32,97,32,125,125].length≤9223372036854775807)>>=fun _ =>
  need (v8.length+[123,123,32,101,110,100,32,125,125].length≤9223372036854775807)>>=fun _ =>
  Qa5 p0 p1 p2 (v7++[123,123,32,105,102,32,97,32,125,125]) (v8++[123,123,32,101,110,100,32,125,125]) (wr (v9+1))
 else
  some (v7,v8)
 partial_fixpoint
theorem Qiv:∀ (p0:Int) (p1:Int) (p2:Bool),(∀ (v7:(List UInt8)) (v8:(List UInt8)) (v9:Int) (o1:((List UInt8)×(List UInt8))),Qa5 p0 p1 p2 v7 v8 v9=some o1→TL (0,0) Tryz.prog 76 Qe6 (JP1 (0,0) 76 o1 (.exit 0) (Qc1 p0 p1 p2)) (Qb9 p0 p1 p2 v7 v8 v9)):=by
 intro p0 p1 p2
 refine Qa5.partial_correctness p0 p1 p2 _ ?_
 intro Qa5' iQa5 v7 v8 v9 o1 h
 refine TL.round (Qam mixed tbOk (lv:=Qdd) _ _ _ ?_)
 refine vrfl ?_
 refine And.intro (by decide) ?_
 refine Qaf h (fun hb h=>?_) (fun hb h=>?_)
 ·refine Qkw h (fun h=>?_)
  refine Qkw h (fun h=>?_)
  refine TL.le (τ := Qb9 p0 p1 p2 (v7++[123,123,32,105,102,32,97,32,125,125]) (v8++[123,123,32,101,110,100,32,125,125]) (wr (v9+1))) ?_ ((iQa5 (v7++[123,123,32,105,102,32,97,32,125,125]) (v8++[123,123,32,101,110,100,32,125,125]) (wr (v9+1)) _ h))
  exact Le.tz 0 0 rfl rfl rfl
 ·exact JP1.a h (Le.tz 0 0 rfl rfl rfl)
theorem Qje:∀ (p0:Int) (p1:Int) (p2:Bool) (v7:(List UInt8)) (v8:(List UInt8)) (v9:Int) (o1:((List UInt8)×(List UInt8))),Qa5 p0 p1 p2 v7 v8 v9=some o1→TL (0,0) Tryz.prog 76 Qe6 (JP1 (0,0) 76 o1 (.exit 0) (Qc1 p0 p1 p2)) (Qb9 p0 p1 p2 v7 v8 v9):=fun p0 p1 p2 v7 v8 v9=>(Qiv p0 p1 p2) v7 v8 v9
noncomputable def Qa6 (p1:Int) (p2:Bool) (v10:(List Int)) (v11:Int):Option ((List Int)) :=
 if(decide (v11<((wr p1).tmod 600))) then
  appL 1 v10 (s2b [123,123,32,97,32,125,125])>>=fun x4 =>
  Qa6 p1 p2 x4 (wr (v11+1))
 else
  some v10
 partial_fixpoint
theorem Qiw:∀ (p1:Int) (p2:Bool),(∀ (v10:(List Int)) (v11:Int) (o3:(List Int)),Qa6 p1 p2 v10 v11=some o3→TL (0,0) Tryz.prog 76 Qe7 (JP1 (0,0) 76 o3 (.exit 2) (Qc2 p1 p2)) (Qca p1 p2 v10 v11)):=by
 intro p1 p2
 refine Qa6.partial_correctness p1 p2 _ ?_
 intro Qa6' iQa6 v10 v11 o3 h
 refine TL.round (Qam mixed tbOk (lv:=Qdd) _ _ _ ?_)
 refine vrfl ?_
 refine And.intro (by decide) ?_
 refine Qaf h (fun hb h=>?_) (fun hb h=>?_)
 ·refine Q2k (a:=v10) (b:=[123,123,32,97,32,125,125]) h rfl (fun x4 hi h=>?_)
  refine TL.le (τ := Qca p1 p2 x4 (wr (v11+1))) ?_ ((iQa6 x4 (wr (v11+1)) _ h))
  exact Le.tz 0 1 rfl rfl rfl
 ·exact JP1.a h (Le.tz 0 1 rfl rfl rfl)
theorem Qjf:∀ (p1:Int) (p2:Bool) (v10:(List Int)) (v11:Int) (o3:(List Int)),Qa6 p1 p2 v10 v11=some o3→TL (0,0) Tryz.prog 76 Qe7 (JP1 (0,0) 76 o3 (.exit 2) (Qc2 p1 p2)) (Qca p1 p2 v10 v11):=fun p1 p2 v10 v11=>(Qiw p1 p2) v10 v11
noncomputable def Qbb (h0_0:(List Qac)) (h0_1:Int):Option (Qac) :=
 if(h0_1==(h0_0.length:Int)) then
  some (Qac.mk 0 [] 0 0 0)
 else
  idx h0_0 h0_1>>=fun x1 =>
  some x1
theorem Qb4:∀ (h0_0:(List Qac)) (h0_1:Int) (o:Qac),Qbb h0_0 h0_1=some o→CallOK Tryz.prog 31 [.ptr 0 0] ⟨[[.p (.sl false (h0_0.map Qab)),.p (iV h0_1)]],[]⟩ (Qgi o) ⟨[[.p (.sl false (h0_0.map Qab)),.p (iV h0_1)]],[]⟩:=by
 intro h0_0 h0_1 o h
 unfold Qbb at h
 refine CallOK.ofB mixed tbOk Qo6 Tryz.func31 rfl (by kernel_rfl) (Nat.le_of_ble_eq_true rfl) rfl rfl rfl ?_
 refine And.intro (by decide +kernel) (And.intro rfl ?_)
 refine view (lenMap _ _) rfl ?_
 refine Qaf h (fun hb h=>?_) (fun hb h=>?_)
 ·refine Exists.intro _ (And.intro (Le.refl _ _ _) ?_)
  exact Qa7 (t:=Qgi) (ss:=fun o=>⟨[[.p (.sl false (h0_0.map Qab)),.p (iV h0_1)]],[]⟩) h ⟨[],rfl,.refl _,.refl _,rfl⟩
 ·refine And.intro (by decide +kernel) (And.intro rfl ?_)
  refine Qel (l:=h0_0) (c:=Qab) (c' := Qab) h (fun _=>rfl) (fun _=>rfl) (by decide) (fun x1 hi h=>?_)
  refine Exists.intro _ (And.intro (Le.refl _ _ _) ?_)
  exact Qa7 (t:=Qgi) (ss:=fun o=>⟨[[.p (.sl false (h0_0.map Qab)),.p (iV h0_1)]],[]⟩) h ⟨[],rfl,.refl _,.refl _,rfl⟩
noncomputable def Qbo (p1:Int) (h0_0:(List Qac)) (h0_1:Int):Option (Bool×Int) :=
 Qbb h0_0 h0_1>>=fun x1 =>
 if(x1.Kind != p1) then
  some (false,h0_1)
 else
  some (true,(wr (h0_1+1)))
theorem Qck:∀ (p1:Int) (h0_0:(List Qac)) (h0_1:Int) (o:Bool×Int),Qbo p1 h0_0 h0_1=some o→CallOK Tryz.prog 32 [.ptr 0 0,.p (iV p1)] ⟨[[.p (.sl false (h0_0.map Qab)),.p (iV h0_1)]],[]⟩ (Qgj o) ⟨[[.p (.sl false (h0_0.map Qab)),.p (iV o.2)]],[]⟩:=by
 intro p1 h0_0 h0_1 o h
 unfold Qbo at h
 refine CallOK.ofB mixed tbOk Qo7 Tryz.func32 rfl (by kernel_rfl) (Nat.le_of_ble_eq_true rfl) rfl rfl rfl ?_
 refine Qag _ _ h (fun x1 hy=>((Qb4 h0_0 h0_1 x1 hy).fr [0] [] rfl rfl rfl)) (fun x1 hy h=>?_)
 refine Qaf h (fun hb h=>?_) (fun hb h=>?_)
 ·refine Exists.intro _ (And.intro (Le.refl _ _ _) ?_)
  exact Qa7 (t:=Qgj) (ss:=fun o=>⟨[[.p (.sl false (h0_0.map Qab)),.p (iV o.2)]],[]⟩) h ⟨[],rfl,.refl _,.refl _,rfl⟩
 ·refine Exists.intro _ (And.intro (Le.refl _ _ _) ?_)
  exact Qa7 (t:=Qgj) (ss:=fun o=>⟨[[.p (.sl false (h0_0.map Qab)),.p (iV o.2)]],[]⟩) h ⟨[],rfl,.refl _,.refl _,rfl⟩
noncomputable def Qa0 (p1:Bool) (h0_0:(List Qac)) (h0_1:Int):Option ((Unit)⊕(Unit)) :=
 some (mustO p1)
theorem Qa9:∀ (p1:Bool) (h0_0:(List Qac)) (h0_1:Int) (o:(Unit)⊕(Unit)),Qa0 p1 h0_0 h0_1=some o→CallS Tryz.prog 36 [.ptr 0 0,.p (bV p1)] ⟨[[.p (.sl false (h0_0.map Qab)),.p (iV h0_1)]],[]⟩ Qpy (fun(o:Unit)=>⟨[[.p (.sl false (h0_0.map Qab)),.p (iV h0_1)]],[]⟩) (fun(o:Unit)=>⟨[[.p (.sl false (h0_0.map Qab)),.p (iV h0_1)]],[]⟩) o:=by
 intro p1 h0_0 h0_1 o h
 unfold Qa0 at h
 cases h
 exact Q7a _ _ _ _ rfl _ rfl
noncomputable def Qaq (p1:Int) (h0_0:(List Qac)) (h0_1:Int):Option ((Qac×Int)⊕(Unit)) :=
 Qbb h0_0 h0_1>>=fun x1 =>
 Qa0 (x1.Kind==p1) h0_0 h0_1>>=fun o3 =>
 match o3 with
 | .inl x2 =>
  some (.inl (x1,(wr (h0_1+1))))
 | .inr z4 =>
  some (.inr ())
theorem Qal:∀ (p1:Int) (h0_0:(List Qac)) (h0_1:Int) (o:(Qac×Int)⊕(Unit)),Qaq p1 h0_0 h0_1=some o→CallS Tryz.prog 33 [.ptr 0 0,.p (iV p1)] ⟨[[.p (.sl false (h0_0.map Qab)),.p (iV h0_1)]],[]⟩ Qka (fun(o:Qac×Int)=>⟨[[.p (.sl false (h0_0.map Qab)),.p (iV o.2)]],[]⟩) (fun(o:Unit)=>⟨[[.p (.sl false (h0_0.map Qab)),.p (iV h0_1)]],[]⟩) o:=by
 intro p1 h0_0 h0_1 o h
 unfold Qaq at h
 refine CallS.ofB mixed tbOk Qo9 Tryz.func33 rfl (by kernel_rfl) (Nat.le_of_ble_eq_true rfl) (fun _=>rfl) (fun _=>rfl) (fun _=>rfl) (fun _=>rfl) (fun _=>rfl) ?_
 refine Qag _ _ h (fun x1 hy=>((Qb4 h0_0 h0_1 x1 hy).fr [0] [] rfl rfl rfl)) (fun x1 hy h=>?_)
 refine xle ?_
 refine Qbc _ _ _ h (fun x2 hy=>(Qa9 (x1.Kind==p1) h0_0 h0_1 (.inl x2) hy).a.fr [0] [] rfl rfl rfl) (fun z4 hy=>(Qa9 (x1.Kind==p1) h0_0 h0_1 (.inr z4) hy).b.fr [0] [] rfl rfl rfl) (fun x2 hy h=>?_) (fun z4 hy h=>?_)
 ·refine Exists.intro _ (And.intro (Le.refl _ _ _) ?_)
  exact Qdt (t:=Qka) (ss:=fun(o:Qac×Int)=>⟨[[.p (.sl false (h0_0.map Qab)),.p (iV o.2)]],[]⟩) h ⟨[],rfl,.refl _,.refl _,rfl⟩
 ·refine xle ?_
  exact Qcd (sp:=fun(o:Unit)=>⟨[[.p (.sl false (h0_0.map Qab)),.p (iV h0_1)]],[]⟩) h ⟨[],rfl,.refl _,.refl _,rfl⟩
noncomputable instance Qwh:Lean.Order.CCPO ((List Qaa)→(List Qaa)→(List Qaa)→Option ((Int×Int×(List UInt8)×(List UInt8)×Int×(List Qaa)×(List Qaa)×(List Qaa))⊕(Int×Int×(List UInt8)×(List UInt8)×Int×(List Qaa)×(List Qaa)×(List Qaa)))):=inferInstance
noncomputable instance Qwi:Lean.Order.CCPO ((List UInt8)→(List UInt8)→Int→(List Qaa)→(List Qaa)→(List Qaa)→Option ((Int×Int×(List UInt8)×(List UInt8)×Int×(List Qaa)×(List Qaa)×(List Qaa))⊕(Int×Int×(List UInt8)×(List UInt8)×Int×(List Qaa)×(List Qaa)×(List Qaa)))):=inferInstance
noncomputable def Qbq (h0_0:(List Qac)) (h0_1_:Int) (h2_0:Int) (h2_1:(List UInt8)) (h2_2:(List UInt8)) (h2_3:Int) (h2_4:(List Qaa)) (h2_5:(List Qaa)) (h2_6:(List Qaa)):Option ((Int×Int×(List UInt8)×(List UInt8)×Int×(List Qaa)×(List Qaa)×(List Qaa))⊕(Int×Int×(List UInt8)×(List UInt8)×Int×(List Qaa)×(List Qaa)×(List Qaa))) :=
 Qbo 7 h0_0 h0_1_>>=fun x7 =>
 if x7.1 then
  Qaq 4 h0_0 x7.2>>=fun o9 =>
  match o9 with
  | .inl x8 =>
   Qbq h0_0 x8.2 5 x8.1.Text [] 0 [(Qaa.mk h2_0 h2_1 h2_2 h2_3 h2_4 h2_5 h2_6)] [] []
  | .inr z10 =>
   some (.inr (x7.2,h2_0,h2_1,h2_2,h2_3,h2_4,h2_5,h2_6))
 else
  some (.inl (x7.2,h2_0,h2_1,h2_2,h2_3,h2_4,h2_5,h2_6))
 partial_fixpoint
theorem Qlp:∀ (h0_0:(List Qac)),(∀ (h0_1_:Int) (h2_0:Int) (h2_1:(List UInt8)) (h2_2:(List UInt8)) (h2_3:Int) (h2_4:(List Qaa)) (h2_5:(List Qaa)) (h2_6:(List Qaa)) (o4:(Int×Int×(List UInt8)×(List UInt8)×Int×(List Qaa)×(List Qaa)×(List Qaa))⊕(Int×Int×(List UInt8)×(List UInt8)×Int×(List Qaa)×(List Qaa)×(List Qaa))),Qbq h0_0 h0_1_ h2_0 h2_1 h2_2 h2_3 h2_4 h2_5 h2_6=some o4→TL (1,0) Tryz.prog 15 Qho (JP2 (1,0) 15 o4 (.exit 0) (Qeb h0_0) (.panic panCH) (Qec h0_0)) (Qc4 h0_0 h0_1_ h2_0 h2_1 h2_2 h2_3 h2_4 h2_5 h2_6)):=by
 intro h0_0
 refine Qbq.partial_correctness h0_0 _ ?_
 intro Qbq' iQbq h0_1_ h2_0 h2_1 h2_2 h2_3 h2_4 h2_5 h2_6 o4 h
 refine TL.round (Qam mixed tbOk (lv:=Qji) _ _ _ ?_)
 refine Qag _ _ h (fun x7 hy=>((Qck 7 h0_0 h0_1_ x7 hy).fr [0] [] rfl rfl rfl)) (fun x7 hy h=>?_)
 refine Qaf h (fun hb h=>?_) (fun hb h=>?_)
 ·refine xle ?_
  refine Q6b h (fun x8 hy h=>?_) (fun z10 hy h=>?_)
  ·refine And.intro (by decide +kernel) (And.intro rfl ?_)
   refine Exists.intro _ (Exists.intro _ (And.intro ((Qal 4 h0_0 x7.2 (.inl x8) hy).a.fg [0] [] rfl rfl rfl (Nat.le_of_ble_eq_true rfl)) ?_))
   refine TL.le (τ := Qc4 h0_0 x8.2 5 x8.1.Text [] 0 [(Qaa.mk h2_0 h2_1 h2_2 h2_3 h2_4 h2_5 h2_6)] [] []) ?_ ((iQbq x8.2 5 x8.1.Text [] 0 [(Qaa.mk h2_0 h2_1 h2_2 h2_3 h2_4 h2_5 h2_6)] [] [] _ h))
   exact Le.tow 3 0 rfl (.cons rfl (.refl _) (.cons rfl (.refl _) (.cons rfl (.refl _) (.nil)))) (.cons (.refl _) (.cons (.refl _) (.cons (.cons (.refl _) (.cons (.refl _) (.cons (.refl _) (.cons (.refl _) (.cons (.p (.no (.cons (.ceq (Qak _) (.refl _)) (.nil)))) (.cons (.p (.not)) (.cons (.p (.not)) (.nil)))))))) (.nil)))) rfl
  ·refine Exists.intro ((.op 0 (.pan 1 (.op 3 (.pan 1 (.op 4 (.pan 1 (.nil)) (.nil))) (.nil))) (.op 3 (.op 0 (.pan 1 (.op 4 (.pan 1 (.nil)) (.nil))) (.op 4 (.op 0 (.pan 1 (.nil)) (.nil)) (.nil))) (.nil)):PT)) (And.intro (by decide +kernel) ?_)
   refine And.intro (And.intro ?_ (And.intro (And.intro ?_ (And.intro (And.intro ?_ (trivial)) (trivial))) (trivial))) (And.intro (And.intro (And.intro ?_ (And.intro (And.intro ?_ (trivial)) (trivial))) (And.intro (And.intro (And.intro ?_ (trivial)) (trivial)) (trivial))) (trivial))
   all_goals
    refine Or.inr (Exists.intro _ (And.intro ((Qal 4 h0_0 x7.2 (.inr z10) hy).b.fr [0] [] rfl rfl rfl) ?_))
    exact JP2.b h (Le.tz 3 0 rfl rfl rfl)
 ·exact JP2.a h (Le.tz 3 0 rfl rfl rfl)
theorem Qmm:∀ (h0_0:(List Qac)) (h0_1_:Int) (h2_0:Int) (h2_1:(List UInt8)) (h2_2:(List UInt8)) (h2_3:Int) (h2_4:(List Qaa)) (h2_5:(List Qaa)) (h2_6:(List Qaa)) (o4:(Int×Int×(List UInt8)×(List UInt8)×Int×(List Qaa)×(List Qaa)×(List Qaa))⊕(Int×Int×(List UInt8)×(List UInt8)×Int×(List Qaa)×(List Qaa)×(List Qaa))),Qbq h0_0 h0_1_ h2_0 h2_1 h2_2 h2_3 h2_4 h2_5 h2_6=some o4→TL (1,0) Tryz.prog 15 Qho (JP2 (1,0) 15 o4 (.exit 0) (Qeb h0_0) (.panic panCH) (Qec h0_0)) (Qc4 h0_0 h0_1_ h2_0 h2_1 h2_2 h2_3 h2_4 h2_5 h2_6):=fun h0_0 h0_1_ h2_0 h2_1 h2_2 h2_3 h2_4 h2_5 h2_6=>(Qlp h0_0) h0_1_ h2_0 h2_1 h2_2 h2_3 h2_4 h2_5 h2_6
noncomputable def Qn5 (p0:(List UInt8)):Option (Bool) :=
 ( if(p0==[105,102]) then
   some (p0==[105,102])
  else
   if(p0==[101,108,115,101]) then
    some (p0==[101,108,115,101])
   else
    if(p0==[101,110,100]) then
     some (p0==[101,110,100])
    else
     if(p0==[101,97,99,104]) then
      some (p0==[101,97,99,104])
     else
      if(p0==[105,110]) then
       some (p0==[105,110])
      else
       if(p0==[108,101,116]) then
        some (p0==[108,101,116])
       else
        if(p0==[117,115,101]) then
         some (p0==[117,115,101])
        else
         if(p0==[116,114,117,101]) then
          some (p0==[116,114,117,101])
         else
          if(p0==[102,97,108,115,101]) then
           some (p0==[102,97,108,115,101])
          else
           some (p0==[115,101,99,114,101,116]):Option (Bool))>>=fun o1 =>
 if o1 then
  some false
 else
  Qkv p0>>=fun x2 =>
  some x2
theorem Qz6:∀ (p0:(List UInt8)) (o:Bool),Qn5 p0=some o→PCall Tryz.prog 93 [sV p0] (Qme o):=by
 intro p0 o h
 unfold Qn5 at h
 refine PCall.ofB mixed tbOk Qzx Tryz.func93 rfl (by kernel_rfl) (Nat.le_of_ble_eq_true rfl) ?_
 refine Qai h (fun o1 ho hk=>?_)
 refine Exists.intro (JP1 _ _ o1 .normal (Qvk p0)) (And.intro ?_ (join1 ?_))
 ·have h:=ho
  refine Qaf h (fun hb h=>?_) (fun hb h=>?_)
  ·refine JP1.a h ?_
   exact Le.tz 0 0 rfl rfl rfl
  ·refine Qaf h (fun hb h=>?_) (fun hb h=>?_)
   ·refine JP1.a h ?_
    exact Le.tz 0 0 rfl rfl rfl
   ·refine Qaf h (fun hb h=>?_) (fun hb h=>?_)
    ·refine JP1.a h ?_
     exact Le.tz 0 0 rfl rfl rfl
    ·refine Qaf h (fun hb h=>?_) (fun hb h=>?_)
     ·refine JP1.a h ?_
      exact Le.tz 0 0 rfl rfl rfl
     ·refine Qaf h (fun hb h=>?_) (fun hb h=>?_)
      ·refine JP1.a h ?_
       exact Le.tz 0 0 rfl rfl rfl
      ·refine Qaf h (fun hb h=>?_) (fun hb h=>?_)
       ·refine JP1.a h ?_
        exact Le.tz 0 0 rfl rfl rfl
       ·refine Qaf h (fun hb h=>?_) (fun hb h=>?_)
        ·refine JP1.a h ?_
         exact Le.tz 0 0 rfl rfl rfl
        ·refine Qaf h (fun hb h=>?_) (fun hb h=>?_)
         ·refine JP1.a h ?_
          exact Le.tz 0 0 rfl rfl rfl
         ·refine Qaf h (fun hb h=>?_) (fun hb h=>?_)
          ·refine JP1.a h ?_
           exact Le.tz 0 0 rfl rfl rfl
          ·refine JP1.a h ?_
           exact Le.tz 0 0 rfl rfl rfl
 ·have h:=hk
  refine Qaf h (fun hb h=>?_) (fun hb h=>?_)
  ·refine Qax (t:=Qme) h ?_
   exact .refl _
  ·refine Qar [sV p0] Qjv h (fun x2 hy=>(Qp6 p0 x2 hy)) (fun x2 hy h=>?_)
   refine Qax (t:=Qme) h ?_
   exact .refl _
noncomputable def Qcf (h0_0:(List Qac)) (h0_1:Int):Option (((List UInt8)×Int)⊕(Unit)) :=
 Qbb h0_0 h0_1>>=fun x1 =>
 Qn5 x1.Text>>=fun x2 =>
 Qa0 x2 h0_0 h0_1>>=fun o4 =>
 match o4 with
 | .inl x3 =>
  Qaq 4 h0_0 h0_1>>=fun o7 =>
  match o7 with
  | .inl x6 =>
   some (.inl (x6.1.Text,x6.2))
  | .inr z8 =>
   some (.inr ())
 | .inr z5 =>
  some (.inr ())
theorem Qbr:∀ (h0_0:(List Qac)) (h0_1:Int) (o:((List UInt8)×Int)⊕(Unit)),Qcf h0_0 h0_1=some o→CallS Tryz.prog 58 [.ptr 0 0] ⟨[[.p (.sl false (h0_0.map Qab)),.p (iV h0_1)]],[]⟩ Qj9 (fun(o:(List UInt8)×Int)=>⟨[[.p (.sl false (h0_0.map Qab)),.p (iV o.2)]],[]⟩) (fun(o:Unit)=>⟨[[.p (.sl false (h0_0.map Qab)),.p (iV h0_1)]],[]⟩) o:=by
 intro h0_0 h0_1 o h
 unfold Qcf at h
 refine CallS.ofB mixed tbOk Qo5 Tryz.func58 rfl (by kernel_rfl) (Nat.le_of_ble_eq_true rfl) (fun _=>rfl) (fun _=>rfl) (fun _=>rfl) (fun _=>rfl) (fun _=>rfl) ?_
 refine xle ?_
 refine Qag _ _ h (fun x1 hy=>((Qb4 h0_0 h0_1 x1 hy).fr [0] [] rfl rfl rfl)) (fun x1 hy h=>?_)
 refine Qar [sV x1.Text] Qme h (fun x2 hy=>(Qz6 x1.Text x2 hy)) (fun x2 hy h=>?_)
 refine Qbc _ _ _ h (fun x3 hy=>(Qa9 x2 h0_0 h0_1 (.inl x3) hy).a.fr [0] [] rfl rfl rfl) (fun z5 hy=>(Qa9 x2 h0_0 h0_1 (.inr z5) hy).b.fr [0] [] rfl rfl rfl) (fun x3 hy h=>?_) (fun z5 hy h=>?_)
 ·refine xle ?_
  refine Qbc _ _ _ h (fun x6 hy=>(Qal 4 h0_0 h0_1 (.inl x6) hy).a.fr [0] [] rfl rfl rfl) (fun z8 hy=>(Qal 4 h0_0 h0_1 (.inr z8) hy).b.fr [0] [] rfl rfl rfl) (fun x6 hy h=>?_) (fun z8 hy h=>?_)
  ·refine Exists.intro _ (And.intro (Le.refl _ _ _) ?_)
   exact Qdt (t:=Qj9) (ss:=fun(o:(List UInt8)×Int)=>⟨[[.p (.sl false (h0_0.map Qab)),.p (iV o.2)]],[]⟩) h ⟨[],rfl,.refl _,.refl _,rfl⟩
  ·refine xle ?_
   exact Qcd (sp:=fun(o:Unit)=>⟨[[.p (.sl false (h0_0.map Qab)),.p (iV h0_1)]],[]⟩) h ⟨[],rfl,.refl _,.refl _,rfl⟩
 ·refine xle ?_
  exact Qcd (sp:=fun(o:Unit)=>⟨[[.p (.sl false (h0_0.map Qab)),.p (iV h0_1)]],[]⟩) h ⟨[],rfl,.refl _,.refl _,rfl⟩
noncomputable def Qau (p1:(List UInt8)) (h0_0:(List Qac)) (h0_1:Int):Option (Bool×Int) :=
 Qbb h0_0 h0_1>>=fun x1 =>
 ( if(x1.Kind != 4) then
   some true
  else
   some (!(x1.Text==p1)):Option (Bool))>>=fun o2 =>
 if o2 then
  some (false,h0_1)
 else
  some (true,(wr (h0_1+1)))
theorem Qba:∀ (p1:(List UInt8)) (h0_0:(List Qac)) (h0_1:Int) (o:Bool×Int),Qau p1 h0_0 h0_1=some o→CallOK Tryz.prog 34 [.ptr 0 0,.p (sV p1)] ⟨[[.p (.sl false (h0_0.map Qab)),.p (iV h0_1)]],[]⟩ (Qgk o) ⟨[[.p (.sl false (h0_0.map Qab)),.p (iV o.2)]],[]⟩:=by
 intro p1 h0_0 h0_1 o h
 unfold Qau at h
 refine CallOK.ofB mixed tbOk Qpa Tryz.func34 rfl (by kernel_rfl) (Nat.le_of_ble_eq_true rfl) rfl rfl rfl ?_
 refine Qag _ _ h (fun x1 hy=>((Qb4 h0_0 h0_1 x1 hy).fr [0] [] rfl rfl rfl)) (fun x1 hy h=>?_)
 refine Qai h (fun o2 ho hk=>?_)
 refine Exists.intro (JP1 _ _ o2 .normal (Qm5 h0_0 h0_1 x1)) (And.intro ?_ (join1 ?_))
 ·have h:=ho
  refine Qaf h (fun hb h=>?_) (fun hb h=>?_)
  ·refine JP1.a h ?_
   exact Le.tz 2 0 rfl rfl rfl
  ·refine JP1.a h ?_
   exact Le.tz 2 0 rfl rfl rfl
 ·have h:=hk
  refine Qaf h (fun hb h=>?_) (fun hb h=>?_)
  ·refine Exists.intro _ (And.intro (Le.refl _ _ _) ?_)
   exact Qa7 (t:=Qgk) (ss:=fun o=>⟨[[.p (.sl false (h0_0.map Qab)),.p (iV o.2)]],[]⟩) h ⟨[],rfl,.refl _,.refl _,rfl⟩
  ·refine Exists.intro _ (And.intro (Le.refl _ _ _) ?_)
   exact Qa7 (t:=Qgk) (ss:=fun o=>⟨[[.p (.sl false (h0_0.map Qab)),.p (iV o.2)]],[]⟩) h ⟨[],rfl,.refl _,.refl _,rfl⟩
mutual
noncomputable def Qd1 (h0_0:(List Qac)) (h0_1:Int):Option (((List Qaa)×Int)⊕(Int)) :=
 Qbo 9 h0_0 h0_1>>=fun x1 =>
 if x1.1 then
  some (.inl ([],x1.2))
 else
  Qcg h0_0 x1.2>>=fun o3 =>
  match o3 with
  | .inl x2 =>
   (Qbs h0_0 [x2.1] x2.2)>>=fun o5 =>
   match o5 with
   | .inl y6 =>
    Qaq 9 h0_0 y6.2>>=fun o15 =>
    match o15 with
    | .inl x14 =>
     some (.inl (y6.1,x14.2))
    | .inr z16 =>
     some (.inr y6.2)
   | .inr y7 =>
    some (.inr y7)
  | .inr z4 =>
   some (.inr z4)
 partial_fixpoint
noncomputable def Qbs (h0_0:(List Qac)) (v3:(List Qaa)) (h0_1_:Int):Option (((List Qaa)×Int)⊕Int) :=
 ( if(decide ((v3.length:Int)<3)) then
   Qbo 10 h0_0 h0_1_>>=fun x9 =>
   some (x9.1,x9.2)
  else
   some (false,h0_1_):Option ((Bool×Int)))>>=fun o8 =>
 if o8.1 then
  Qcg h0_0 o8.2>>=fun o11 =>
  match o11 with
  | .inl x10 =>
   appL 120 v3 [x10.1]>>=fun x13 =>
   Qbs h0_0 x13 x10.2
  | .inr z12 =>
   some (.inr z12)
 else
  some (.inl (v3,o8.2))
 partial_fixpoint
noncomputable def Qcg (h0_0:(List Qac)) (h0_1:Int):Option ((Qaa×Int)⊕(Int)) :=
 Qe8 h0_0 h0_1>>=fun o2 =>
 match o2 with
 | .inl x1 =>
  (Qbq h0_0 x1.2 x1.1.Kind x1.1.Name x1.1.Text x1.1.N x1.1.L x1.1.Then x1.1.Else)>>=fun o4 =>
  match o4 with
  | .inl y5 =>
   some (.inl ((Qaa.mk y5.2.1 y5.2.2.1 y5.2.2.2.1 y5.2.2.2.2.1 y5.2.2.2.2.2.1 y5.2.2.2.2.2.2.1 y5.2.2.2.2.2.2.2),y5.1))
  | .inr y6 =>
   some (.inr y6.1)
 | .inr z3 =>
  some (.inr z3)
 partial_fixpoint
noncomputable def Qe8 (h0_0:(List Qac)) (h0_1:Int):Option ((Qaa×Int)⊕(Int)) :=
 Qbb h0_0 h0_1>>=fun x1 =>
 if(x1.Kind==5) then
  some (.inl ((Qaa.mk 1 [] x1.Text 0 [] [] []),(wr (h0_1+1))))
 else
  if(x1.Kind==6) then
   some (.inl ((Qaa.mk 2 [] [] x1.N [] [] []),(wr (h0_1+1))))
  else
   Qau [116,114,117,101] h0_0 h0_1>>=fun x2 =>
   if x2.1 then
    some (.inl ((Qaa.mk 3 [] [] 1 [] [] []),x2.2))
   else
    Qau [102,97,108,115,101] h0_0 x2.2>>=fun x3 =>
    if x3.1 then
     some (.inl ((Qaa.mk 3 [] [] 0 [] [] []),x3.2))
    else
     Qau [115,101,99,114,101,116] h0_0 x3.2>>=fun x4 =>
     if x4.1 then
      Qaq 8 h0_0 x4.2>>=fun o6 =>
      match o6 with
      | .inl x5 =>
       Qbb h0_0 x5.2>>=fun x8 =>
       Qkv x8.Text>>=fun x9 =>
       Qa0 x9 h0_0 x5.2>>=fun o11 =>
       match o11 with
       | .inl x10 =>
        Qaq 5 h0_0 x5.2>>=fun o14 =>
        match o14 with
        | .inl x13 =>
         Qaq 9 h0_0 x13.2>>=fun o17 =>
         match o17 with
         | .inl x16 =>
          some (.inl ((Qaa.mk 7 x13.1.Text [] 0 [] [] []),x16.2))
         | .inr z18 =>
          some (.inr x13.2)
        | .inr z15 =>
         some (.inr x5.2)
       | .inr z12 =>
        some (.inr x5.2)
      | .inr z7 =>
       some (.inr x4.2)
     else
      Qcf h0_0 x4.2>>=fun o20 =>
      match o20 with
      | .inl x19 =>
       Qbo 8 h0_0 x19.2>>=fun x22 =>
       if x22.1 then
        Qd1 h0_0 x22.2>>=fun o24 =>
        match o24 with
        | .inl x23 =>
         some (.inl ((Qaa.mk 6 x19.1 [] 0 x23.1 [] []),x23.2))
        | .inr z25 =>
         some (.inr z25)
       else
        some (.inl ((Qaa.mk 4 x19.1 [] 0 [] [] []),x22.2))
      | .inr z21 =>
       some (.inr x4.2)
 partial_fixpoint
end
theorem Qn6:∀ (h0_0:(List Qac)),(∀ (h0_1:Int) (o:((List Qaa)×Int)⊕(Int)),Qd1 h0_0 h0_1=some o→CallS Tryz.prog 120 [.ptr 0 0] ⟨[[.p (.sl false (h0_0.map Qab)),.p (iV h0_1)]],[]⟩ Qgg (fun(o:(List Qaa)×Int)=>⟨[[.p (.sl false (h0_0.map Qab)),.p (iV o.2)]],[]⟩) (fun(o:Int)=>⟨[[.p (.sl false (h0_0.map Qab)),.p (iV o)]],[]⟩) o)∧(∀ (v3:(List Qaa)) (h0_1_:Int) (o5:((List Qaa)×Int)⊕Int),Qbs h0_0 v3 h0_1_=some o5→TL (1,0) Tryz.prog 24 Qm3 (JP2 (1,0) 24 o5 (.exit 0) (Qg5 h0_0) (.panic panCH) (Qg6 h0_0)) (Qea h0_0 v3 h0_1_))∧(∀ (h0_1:Int) (o:(Qaa×Int)⊕(Int)),Qcg h0_0 h0_1=some o→CallS Tryz.prog 92 [.ptr 0 0] ⟨[[.p (.sl false (h0_0.map Qab)),.p (iV h0_1)]],[]⟩ Qgh (fun(o:Qaa×Int)=>⟨[[.p (.sl false (h0_0.map Qab)),.p (iV o.2)]],[]⟩) (fun(o:Int)=>⟨[[.p (.sl false (h0_0.map Qab)),.p (iV o)]],[]⟩) o)∧(∀ (h0_1:Int) (o:(Qaa×Int)⊕(Int)),Qe8 h0_0 h0_1=some o→CallS Tryz.prog 111 [.ptr 0 0] ⟨[[.p (.sl false (h0_0.map Qab)),.p (iV h0_1)]],[]⟩ Qbp (fun(o:Qaa×Int)=>⟨[[.p (.sl false (h0_0.map Qab)),.p (iV o.2)]],[]⟩) (fun(o:Int)=>⟨[[.p (.sl false (h0_0.map Qab)),.p (iV o)]],[]⟩) o):=by
 intro h0_0
 refine Qd1.mutual_partial_correctness h0_0 _ _ _ _ ?_ ?_ ?_ ?_
 ·intro Qbs' Qcg' iQbs iQcg h0_1 o h
  refine CallS.ofB mixed tbOk Qjh Tryz.func120 rfl (by kernel_rfl) (Nat.le_of_ble_eq_true rfl) (fun _=>rfl) (fun _=>rfl) (fun _=>rfl) (fun _=>rfl) (fun _=>rfl) ?_
  refine Qag _ _ h (fun x1 hy=>((Qck 9 h0_0 h0_1 x1 hy).fr [0] [] rfl rfl rfl)) (fun x1 hy h=>?_)
  refine Qaf h (fun hb h=>?_) (fun hb h=>?_)
  ·refine Exists.intro _ (And.intro (Le.refl _ _ _) ?_)
   exact Qdt (t:=Qgg) (ss:=fun(o:(List Qaa)×Int)=>⟨[[.p (.sl false (h0_0.map Qab)),.p (iV o.2)]],[]⟩) h ⟨[],rfl,.p (.not),.refl _,rfl⟩
  ·refine xle ?_
   refine Qbc _ _ _ h (fun x2 hy=>(iQcg x1.2 (.inl x2) hy).a.fr [0] [] rfl rfl rfl) (fun z4 hy=>(iQcg x1.2 (.inr z4) hy).b.fr [0] [] rfl rfl rfl) (fun x2 hy h=>?_) (fun z4 hy h=>?_)
   ·refine Qai h (fun o5 ho hk=>?_)
    refine Exists.intro (JP2 _ _ o5 (.exit 0) (Qg5 h0_0) (.panic panCH) (Qg6 h0_0)) (And.intro (T_le (τ := Qea h0_0 [x2.1] x2.2) ?_ (TL.loop (iQbs [x2.1] x2.2 o5 ho))) (join2 (fun y6 hy=>?_) (fun y7 hy=>?_)))
    ·exact Le.trans (τ := ⟨[(0,.ptr 0 0),(3,.p (.sl true ([x2.1].map Qae)))],⟨[[.p (.sl false (h0_0.map Qab)),.p (iV x2.2)]],[]⟩⟩) (Le.tow 1 0 rfl (.cons rfl (.refl _) (.cons rfl (.p (.sl' (fun h=>h) (.cons (.ceq (Qak _) (.refl _)) (.nil)))) (.nil))) (.refl _) rfl) ((Le.ownW 3 37 7 rfl (mapSize fun x=>by rw[Qak]; rfl)).trans (Le.tz 1 1 rfl rfl rfl))
    ·have h:=(by rw[hy] at hk; exact hk)
     refine xle ?_
     refine Qbc _ _ _ h (fun x14 hy=>(Qal 9 h0_0 y6.2 (.inl x14) hy).a.fr [0] [] rfl rfl rfl) (fun z16 hy=>(Qal 9 h0_0 y6.2 (.inr z16) hy).b.fr [0] [] rfl rfl rfl) (fun x14 hy h=>?_) (fun z16 hy h=>?_)
     ·refine Exists.intro _ (And.intro (Le.refl _ _ _) ?_)
      exact Qdt (t:=Qgg) (ss:=fun(o:(List Qaa)×Int)=>⟨[[.p (.sl false (h0_0.map Qab)),.p (iV o.2)]],[]⟩) h ⟨[],rfl,.refl _,.refl _,rfl⟩
     ·refine xle ?_
      exact Qcd (sp:=fun(o:Int)=>⟨[[.p (.sl false (h0_0.map Qab)),.p (iV o)]],[]⟩) h ⟨[],rfl,.refl _,.refl _,rfl⟩
    ·have h:=(by rw[hy] at hk; exact hk)
     refine xle ?_
     exact Qcd (sp:=fun(o:Int)=>⟨[[.p (.sl false (h0_0.map Qab)),.p (iV o)]],[]⟩) h ⟨[],rfl,.refl _,.refl _,rfl⟩
   ·refine xle ?_
    exact Qcd (sp:=fun(o:Int)=>⟨[[.p (.sl false (h0_0.map Qab)),.p (iV o)]],[]⟩) h ⟨[],rfl,.refl _,.refl _,rfl⟩
 ·intro Qbs' Qcg' iQbs iQcg v3 h0_1_ o5 h
  refine TL.round (Qam mixed tbOk (lv:=Qjh) _ _ _ ?_)
  refine Qai h (fun o8 ho hk=>?_)
  refine Exists.intro (JP1 _ _ o8 .normal (Qm2 h0_0 v3)) (And.intro ?_ (join1 ?_))
  ·have h:=ho
   refine view (lenMap _ _) rfl ?_
   refine Qaf h (fun hb h=>?_) (fun hb h=>?_)
   ·refine Qag _ _ h (fun x9 hy=>((Qck 10 h0_0 h0_1_ x9 hy).fr [0] [] rfl rfl rfl)) (fun x9 hy h=>?_)
    refine JP1.a h ?_
    exact Le.tz 1 1 rfl rfl rfl
   ·refine JP1.a h ?_
    exact Le.tz 1 1 rfl rfl rfl
  ·have h:=hk
   refine Qaf h (fun hb h=>?_) (fun hb h=>?_)
   ·refine xle ?_
    refine Qbc _ _ _ h (fun x10 hy=>(iQcg o8.2 (.inl x10) hy).a.fr [0] [] rfl rfl rfl) (fun z12 hy=>(iQcg o8.2 (.inr z12) hy).b.fr [0] [] rfl rfl rfl) (fun x10 hy h=>?_) (fun z12 hy h=>?_)
    ·refine Qpp (a:=v3) (b:=[x10.1]) (c:=Qae) h (.cons (.ceq (Qak _) (.refl _)) (.nil)) (fun x=>by rw[Qak]; rfl) rfl (fun x13 hi h=>?_)
     refine TL.le (τ := Qea h0_0 x13 x10.2) ?_ ((iQbs x13 x10.2 _ h))
     exact Le.tz 1 1 rfl rfl rfl
    ·exact JP2.b h (Le.tz 1 0 rfl rfl rfl)
   ·exact JP2.a h (Le.tz 1 1 rfl rfl rfl)
 ·intro Qe8' iQe8 h0_1 o h
  refine CallS.ofB mixed tbOk Qji Tryz.func92 rfl (by kernel_rfl) (Nat.le_of_ble_eq_true rfl) (fun _=>rfl) (fun _=>rfl) (fun _=>rfl) (fun _=>rfl) (fun _=>rfl) ?_
  refine xle ?_
  refine Qbc _ _ _ h (fun x1 hy=>(iQe8 h0_1 (.inl x1) hy).a.fr [0] [] rfl rfl rfl) (fun z3 hy=>(iQe8 h0_1 (.inr z3) hy).b.fr [0] [] rfl rfl rfl) (fun x1 hy h=>?_) (fun z3 hy h=>?_)
  ·refine Qai h (fun o4 ho hk=>?_)
   refine Exists.intro (JP2 _ _ o4 (.exit 0) (Qeb h0_0) (.panic panCH) (Qec h0_0)) (And.intro (T_le (τ := Qc4 h0_0 x1.2 x1.1.Kind x1.1.Name x1.1.Text x1.1.N x1.1.L x1.1.Then x1.1.Else) ?_ (TL.loop (Qmm h0_0 x1.2 x1.1.Kind x1.1.Name x1.1.Text x1.1.N x1.1.L x1.1.Then x1.1.Else o4 ho))) (join2 (fun y5 hy=>?_) (fun y6 hy=>?_)))
   ·exact Le.tz 3 0 rfl rfl rfl
   ·have h:=(by rw[hy] at hk; exact hk)
    refine Exists.intro _ (And.intro (Le.refl _ _ _) ?_)
    exact Qdt (t:=Qgh) (ss:=fun(o:Qaa×Int)=>⟨[[.p (.sl false (h0_0.map Qab)),.p (iV o.2)]],[]⟩) h ⟨[],rfl,.refl _,.refl _,rfl⟩
   ·have h:=(by rw[hy] at hk; exact hk)
    refine xle ?_
    exact Qcd (sp:=fun(o:Int)=>⟨[[.p (.sl false (h0_0.map Qab)),.p (iV o)]],[]⟩) h ⟨[],rfl,.refl _,.refl _,rfl⟩
  ·refine xle ?_
   exact Qcd (sp:=fun(o:Int)=>⟨[[.p (.sl false (h0_0.map Qab)),.p (iV o)]],[]⟩) h ⟨[],rfl,.refl _,.refl _,rfl⟩
 ·intro Qd1' iQd1 h0_1 o h
  refine CallS.ofB mixed tbOk Qnw Tryz.func111 rfl (by kernel_rfl) (Nat.le_of_ble_eq_true rfl) (fun _=>rfl) (fun _=>rfl) (fun _=>rfl) (fun _=>rfl) (fun _=>rfl) ?_
  refine Qag _ _ h (fun x1 hy=>((Qb4 h0_0 h0_1 x1 hy).fr [0] [] rfl rfl rfl)) (fun x1 hy h=>?_)
  refine Qaf h (fun hb h=>?_) (fun hb h=>?_)
  ·refine Exists.intro _ (And.intro (Le.refl _ _ _) ?_)
   exact Qdt (t:=Qbp) (ss:=fun(o:Qaa×Int)=>⟨[[.p (.sl false (h0_0.map Qab)),.p (iV o.2)]],[]⟩) h ⟨[],rfl,.p (.agg' (.cons (.refl _) (.cons (.refl _) (.cons (.refl _) (.cons (.refl _) (.cons (.not) (.cons (.not) (.cons (.not) (.nil))))))))),.refl _,rfl⟩
  ·refine Qaf h (fun hb h=>?_) (fun hb h=>?_)
   ·refine Exists.intro _ (And.intro (Le.refl _ _ _) ?_)
    exact Qdt (t:=Qbp) (ss:=fun(o:Qaa×Int)=>⟨[[.p (.sl false (h0_0.map Qab)),.p (iV o.2)]],[]⟩) h ⟨[],rfl,.p (.agg' (.cons (.refl _) (.cons (.refl _) (.cons (.refl _) (.cons (.refl _) (.cons (.not) (.cons (.not) (.cons (.not) (.nil))))))))),.refl _,rfl⟩
   ·refine Qag _ _ h (fun x2 hy=>((Qba [116,114,117,101] h0_0 h0_1 x2 hy).fr [0] [] rfl rfl rfl)) (fun x2 hy h=>?_)
    refine Qaf h (fun hb h=>?_) (fun hb h=>?_)
    ·refine Exists.intro _ (And.intro (Le.refl _ _ _) ?_)
     exact Qdt (t:=Qbp) (ss:=fun(o:Qaa×Int)=>⟨[[.p (.sl false (h0_0.map Qab)),.p (iV o.2)]],[]⟩) h ⟨[],rfl,.p (.agg' (.cons (.refl _) (.cons (.refl _) (.cons (.refl _) (.cons (.refl _) (.cons (.not) (.cons (.not) (.cons (.not) (.nil))))))))),.refl _,rfl⟩
    ·refine Qag _ _ h (fun x3 hy=>((Qba [102,97,108,115,101] h0_0 x2.2 x3 hy).fr [0] [] rfl rfl rfl)) (fun x3 hy h=>?_)
     refine Qaf h (fun hb h=>?_) (fun hb h=>?_)
     ·refine Exists.intro _ (And.intro (Le.refl _ _ _) ?_)
      exact Qdt (t:=Qbp) (ss:=fun(o:Qaa×Int)=>⟨[[.p (.sl false (h0_0.map Qab)),.p (iV o.2)]],[]⟩) h ⟨[],rfl,.p (.agg' (.cons (.refl _) (.cons (.refl _) (.cons (.refl _) (.cons (.refl _) (.cons (.not) (.cons (.not) (.cons (.not) (.nil))))))))),.refl _,rfl⟩
     ·refine Qag _ _ h (fun x4 hy=>((Qba [115,101,99,114,101,116] h0_0 x3.2 x4 hy).fr [0] [] rfl rfl rfl)) (fun x4 hy h=>?_)
      refine Qaf h (fun hb h=>?_) (fun hb h=>?_)
      ·refine xle ?_
       refine Qbc _ _ _ h (fun x5 hy=>(Qal 8 h0_0 x4.2 (.inl x5) hy).a.fr [0] [] rfl rfl rfl) (fun z7 hy=>(Qal 8 h0_0 x4.2 (.inr z7) hy).b.fr [0] [] rfl rfl rfl) (fun x5 hy h=>?_) (fun z7 hy h=>?_)
       ·refine xle ?_
        refine Qag _ _ h (fun x8 hy=>((Qb4 h0_0 x5.2 x8 hy).fr [0] [] rfl rfl rfl)) (fun x8 hy h=>?_)
        refine Qar [sV x8.Text] Qjv h (fun x9 hy=>(Qp6 x8.Text x9 hy)) (fun x9 hy h=>?_)
        refine Qbc _ _ _ h (fun x10 hy=>(Qa9 x9 h0_0 x5.2 (.inl x10) hy).a.fr [0] [] rfl rfl rfl) (fun z12 hy=>(Qa9 x9 h0_0 x5.2 (.inr z12) hy).b.fr [0] [] rfl rfl rfl) (fun x10 hy h=>?_) (fun z12 hy h=>?_)
        ·refine xle ?_
         refine Qbc _ _ _ h (fun x13 hy=>(Qal 5 h0_0 x5.2 (.inl x13) hy).a.fr [0] [] rfl rfl rfl) (fun z15 hy=>(Qal 5 h0_0 x5.2 (.inr z15) hy).b.fr [0] [] rfl rfl rfl) (fun x13 hy h=>?_) (fun z15 hy h=>?_)
         ·refine xle ?_
          refine Qbc _ _ _ h (fun x16 hy=>(Qal 9 h0_0 x13.2 (.inl x16) hy).a.fr [0] [] rfl rfl rfl) (fun z18 hy=>(Qal 9 h0_0 x13.2 (.inr z18) hy).b.fr [0] [] rfl rfl rfl) (fun x16 hy h=>?_) (fun z18 hy h=>?_)
          ·refine Exists.intro _ (And.intro (Le.refl _ _ _) ?_)
           exact Qdt (t:=Qbp) (ss:=fun(o:Qaa×Int)=>⟨[[.p (.sl false (h0_0.map Qab)),.p (iV o.2)]],[]⟩) h ⟨[],rfl,.p (.agg' (.cons (.refl _) (.cons (.refl _) (.cons (.refl _) (.cons (.refl _) (.cons (.not) (.cons (.not) (.cons (.not) (.nil))))))))),.refl _,rfl⟩
          ·refine xle ?_
           exact Qcd (sp:=fun(o:Int)=>⟨[[.p (.sl false (h0_0.map Qab)),.p (iV o)]],[]⟩) h ⟨[],rfl,.refl _,.refl _,rfl⟩
         ·refine xle ?_
          exact Qcd (sp:=fun(o:Int)=>⟨[[.p (.sl false (h0_0.map Qab)),.p (iV o)]],[]⟩) h ⟨[],rfl,.refl _,.refl _,rfl⟩
        ·refine xle ?_
         exact Qcd (sp:=fun(o:Int)=>⟨[[.p (.sl false (h0_0.map Qab)),.p (iV o)]],[]⟩) h ⟨[],rfl,.refl _,.refl _,rfl⟩
       ·refine xle ?_
        exact Qcd (sp:=fun(o:Int)=>⟨[[.p (.sl false (h0_0.map Qab)),.p (iV o)]],[]⟩) h ⟨[],rfl,.refl _,.refl _,rfl⟩
      ·refine xle ?_
       refine Qbc _ _ _ h (fun x19 hy=>(Qbr h0_0 x4.2 (.inl x19) hy).a.fr [0] [] rfl rfl rfl) (fun z21 hy=>(Qbr h0_0 x4.2 (.inr z21) hy).b.fr [0] [] rfl rfl rfl) (fun x19 hy h=>?_) (fun z21 hy h=>?_)
       ·refine Qag _ _ h (fun x22 hy=>((Qck 8 h0_0 x19.2 x22 hy).fr [0] [] rfl rfl rfl)) (fun x22 hy h=>?_)
        refine Qaf h (fun hb h=>?_) (fun hb h=>?_)
        ·refine xle ?_
         refine Qbc _ _ _ h (fun x23 hy=>(iQd1 x22.2 (.inl x23) hy).a.fr [0] [] rfl rfl rfl) (fun z25 hy=>(iQd1 x22.2 (.inr z25) hy).b.fr [0] [] rfl rfl rfl) (fun x23 hy h=>?_) (fun z25 hy h=>?_)
         ·refine Exists.intro _ (And.intro (Le.refl _ _ _) ?_)
          exact Qdt (t:=Qbp) (ss:=fun(o:Qaa×Int)=>⟨[[.p (.sl false (h0_0.map Qab)),.p (iV o.2)]],[]⟩) h ⟨[],rfl,.p (.agg' (.cons (.refl _) (.cons (.refl _) (.cons (.refl _) (.cons (.refl _) (.cons (.refl _) (.cons (.not) (.cons (.not) (.nil))))))))),.refl _,rfl⟩
         ·refine xle ?_
          exact Qcd (sp:=fun(o:Int)=>⟨[[.p (.sl false (h0_0.map Qab)),.p (iV o)]],[]⟩) h ⟨[],rfl,.refl _,.refl _,rfl⟩
        ·refine Exists.intro _ (And.intro (Le.refl _ _ _) ?_)
         exact Qdt (t:=Qbp) (ss:=fun(o:Qaa×Int)=>⟨[[.p (.sl false (h0_0.map Qab)),.p (iV o.2)]],[]⟩) h ⟨[],rfl,.p (.agg' (.cons (.refl _) (.cons (.refl _) (.cons (.refl _) (.cons (.refl _) (.cons (.not) (.cons (.not) (.cons (.not) (.nil))))))))),.refl _,rfl⟩
       ·refine xle ?_
        exact Qcd (sp:=fun(o:Int)=>⟨[[.p (.sl false (h0_0.map Qab)),.p (iV o)]],[]⟩) h ⟨[],rfl,.refl _,.refl _,rfl⟩
theorem Qjj:∀ (h0_0:(List Qac)) (h0_1:Int) (o:(Qaa×Int)⊕(Int)),Qcg h0_0 h0_1=some o→CallS Tryz.prog 92 [.ptr 0 0] ⟨[[.p (.sl false (h0_0.map Qab)),.p (iV h0_1)]],[]⟩ Qgh (fun(o:Qaa×Int)=>⟨[[.p (.sl false (h0_0.map Qab)),.p (iV o.2)]],[]⟩) (fun(o:Int)=>⟨[[.p (.sl false (h0_0.map Qab)),.p (iV o)]],[]⟩) o:=fun h0_0 h0_1=>(Qn6 h0_0).2.2.1 h0_1
noncomputable def Qbl (h0_0:(List Qac)) (h0_1:Int):Option (((List Qaa)×Int)⊕(Int)) :=
 Qcg h0_0 h0_1>>=fun o2 =>
 match o2 with
 | .inl x1 =>
  Qaq 3 h0_0 x1.2>>=fun o5 =>
  match o5 with
  | .inl x4 =>
   some (.inl ([x1.1],x4.2))
  | .inr z6 =>
   some (.inr x1.2)
 | .inr z3 =>
  some (.inr z3)
theorem Qa2:∀ (h0_0:(List Qac)) (h0_1:Int) (o:((List Qaa)×Int)⊕(Int)),Qbl h0_0 h0_1=some o→CallS Tryz.prog 57 [.ptr 0 0] ⟨[[.p (.sl false (h0_0.map Qab)),.p (iV h0_1)]],[]⟩ Qir (fun(o:(List Qaa)×Int)=>⟨[[.p (.sl false (h0_0.map Qab)),.p (iV o.2)]],[]⟩) (fun(o:Int)=>⟨[[.p (.sl false (h0_0.map Qab)),.p (iV o)]],[]⟩) o:=by
 intro h0_0 h0_1 o h
 unfold Qbl at h
 refine CallS.ofB mixed tbOk Qm4 Tryz.func57 rfl (by kernel_rfl) (Nat.le_of_ble_eq_true rfl) (fun _=>rfl) (fun _=>rfl) (fun _=>rfl) (fun _=>rfl) (fun _=>rfl) ?_
 refine xle ?_
 refine Qbc _ _ _ h (fun x1 hy=>(Qjj h0_0 h0_1 (.inl x1) hy).a.fr [0] [] rfl rfl rfl) (fun z3 hy=>(Qjj h0_0 h0_1 (.inr z3) hy).b.fr [0] [] rfl rfl rfl) (fun x1 hy h=>?_) (fun z3 hy h=>?_)
 ·refine xle ?_
  refine Qbc _ _ _ h (fun x4 hy=>(Qal 3 h0_0 x1.2 (.inl x4) hy).a.fr [0] [] rfl rfl rfl) (fun z6 hy=>(Qal 3 h0_0 x1.2 (.inr z6) hy).b.fr [0] [] rfl rfl rfl) (fun x4 hy h=>?_) (fun z6 hy h=>?_)
  ·refine Exists.intro _ (And.intro (Le.refl _ _ _) ?_)
   exact Qdt (t:=Qir) (ss:=fun(o:(List Qaa)×Int)=>⟨[[.p (.sl false (h0_0.map Qab)),.p (iV o.2)]],[]⟩) h ⟨[],rfl,.p (.no (.cons (.ceq (Qak _) (.refl _)) (.nil))),.refl _,rfl⟩
  ·refine xle ?_
   exact Qcd (sp:=fun(o:Int)=>⟨[[.p (.sl false (h0_0.map Qab)),.p (iV o)]],[]⟩) h ⟨[],rfl,.refl _,.refl _,rfl⟩
 ·refine xle ?_
  exact Qcd (sp:=fun(o:Int)=>⟨[[.p (.sl false (h0_0.map Qab)),.p (iV o)]],[]⟩) h ⟨[],rfl,.refl _,.refl _,rfl⟩
mutual
noncomputable def Qa1 (p1:Bool) (p2:Bool) (h0_0:(List Qac)) (h0_1:Int):Option (((List Qaa)×Int×Int)⊕(Int)) :=
 (Qeh p1 p2 h0_0 h0_1 ())>>=fun o1 =>
 match o1 with
 | .inl y2 =>
  some (.inl (y2.1,y2.2.1,y2.2.2))
 | .inr y3 =>
  some (.inr y3)
 partial_fixpoint
noncomputable def Qeh (p1:Bool) (p2:Bool) (h0_0:(List Qac)) (h0_1:Int) (w0:Unit):Option (((List Qaa)×Int×Int)⊕Int) :=
 (Qaw p1 p2 h0_0 [] h0_1)>>=fun o4 =>
 match o4 with
 | .inl y5 =>
  Qa0 (!p1) h0_0 y5.2>>=fun o34 =>
  match o34 with
  | .inl x33 =>
   some (.inl (y5.1,2,y5.2))
  | .inr z35 =>
   some (.inr y5.2)
 | .inr (.inl y6) =>
  some (.inl (y6.1,y6.2.1,y6.2.2))
 | .inr (.inr y7) =>
  some (.inr y7)
 partial_fixpoint
noncomputable def Qaw (p1:Bool) (p2:Bool) (h0_0:(List Qac)) (v8:(List Qaa)) (h0_1_:Int):Option (((List Qaa)×Int)⊕((List Qaa)×Int×Int)⊕Int) :=
 if(decide (h0_1_<(h0_0.length:Int))) then
  Qbb h0_0 h0_1_>>=fun x8 =>
  Qbo 1 h0_0 h0_1_>>=fun x9 =>
  if x9.1 then
   ( if(decide ((wr ((v8.length:Int)-1)) ≥ 0)) then
     idx v8 (wr ((v8.length:Int)-1))>>=fun x11 =>
     some (x11.Kind==8)
    else
     some false:Option (Bool))>>=fun o10 =>
   if o10 then
    idx v8 (wr ((v8.length:Int)-1))>>=fun x12 =>
    need (x12.Text.length+x8.Text.length≤9223372036854775807)>>=fun _ =>
    idx v8 (wr ((v8.length:Int)-1))>>=fun x13 =>
    Qaw p1 p2 h0_0 (v8.set ((wr ((v8.length:Int)-1)).toNat) (Qaa.mk x13.Kind x13.Name (x12.Text++x8.Text) x13.N x13.L x13.Then x13.Else)) x9.2
   else
    appL 120 v8 ([(Qaa.mk 8 [] x8.Text 0 [] [] [])])>>=fun x14 =>
    Qaw p1 p2 h0_0 x14 x9.2
  else
   Qaq 2 h0_0 x9.2>>=fun o16 =>
   match o16 with
   | .inl x15 =>
    Qbo 3 h0_0 x15.2>>=fun x18 =>
    if x18.1 then
     Qaw p1 p2 h0_0 v8 x18.2
    else
     ( if p1 then
       Qau [101,110,100] h0_0 x18.2>>=fun x20 =>
       some (x20.1,x20.2)
      else
       some (false,x18.2):Option ((Bool×Int)))>>=fun o19 =>
     if o19.1 then
      Qaq 3 h0_0 o19.2>>=fun o22 =>
      match o22 with
      | .inl x21 =>
       some (.inr (.inl (v8,0,x21.2)))
      | .inr z23 =>
       some (.inr (.inr o19.2))
     else
      ( if p2 then
        Qau [101,108,115,101] h0_0 o19.2>>=fun x25 =>
        some (x25.1,x25.2)
       else
        some (false,o19.2):Option ((Bool×Int)))>>=fun o24 =>
      if o24.1 then
       Qaq 3 h0_0 o24.2>>=fun o27 =>
       match o27 with
       | .inl x26 =>
        some (.inr (.inl (v8,1,x26.2)))
       | .inr z28 =>
        some (.inr (.inr o24.2))
      else
       Qfp h0_0 o24.2>>=fun o30 =>
       match o30 with
       | .inl x29 =>
        appL 120 v8 [x29.1]>>=fun x32 =>
        Qaw p1 p2 h0_0 x32 x29.2
       | .inr z31 =>
        some (.inr (.inr z31))
   | .inr z17 =>
    some (.inr (.inr x9.2))
 else
  some (.inl (v8,h0_1_))
 partial_fixpoint
noncomputable def Qfp (h0_0:(List Qac)) (h0_1:Int):Option ((Qaa×Int)⊕(Int)) :=
 Qau [105,102] h0_0 h0_1>>=fun x1 =>
 if x1.1 then
  Qbl h0_0 x1.2>>=fun o3 =>
  match o3 with
  | .inl x2 =>
   Qa1 true true h0_0 x2.2>>=fun o6 =>
   match o6 with
   | .inl x5 =>
    if(x5.2.1==1) then
     Qa1 true false h0_0 x5.2.2>>=fun o9 =>
     match o9 with
     | .inl x8 =>
      some (.inl ((Qaa.mk 10 [] [] 0 x2.1 x5.1 x8.1),x8.2.2))
     | .inr z10 =>
      some (.inr z10)
    else
     some (.inl ((Qaa.mk 10 [] [] 0 x2.1 x5.1 []),x5.2.2))
   | .inr z7 =>
    some (.inr z7)
  | .inr z4 =>
   some (.inr z4)
 else
  Qau [101,97,99,104] h0_0 x1.2>>=fun x11 =>
  if x11.1 then
   Qcf h0_0 x11.2>>=fun o13 =>
   match o13 with
   | .inl x12 =>
    Qau [105,110] h0_0 x12.2>>=fun x15 =>
    Qa0 x15.1 h0_0 x15.2>>=fun o17 =>
    match o17 with
    | .inl x16 =>
     Qbl h0_0 x15.2>>=fun o20 =>
     match o20 with
     | .inl x19 =>
      Qa1 true false h0_0 x19.2>>=fun o23 =>
      match o23 with
      | .inl x22 =>
       some (.inl ((Qaa.mk 11 x12.1 [] 0 x19.1 x22.1 []),x22.2.2))
      | .inr z24 =>
       some (.inr z24)
     | .inr z21 =>
      some (.inr z21)
    | .inr z18 =>
     some (.inr x15.2)
   | .inr z14 =>
    some (.inr x11.2)
  else
   Qau [108,101,116] h0_0 x11.2>>=fun x25 =>
   if x25.1 then
    Qcf h0_0 x25.2>>=fun o27 =>
    match o27 with
    | .inl x26 =>
     Qaq 11 h0_0 x26.2>>=fun o30 =>
     match o30 with
     | .inl x29 =>
      Qbl h0_0 x29.2>>=fun o33 =>
      match o33 with
      | .inl x32 =>
       Qa1 true false h0_0 x32.2>>=fun o36 =>
       match o36 with
       | .inl x35 =>
        some (.inl ((Qaa.mk 12 x26.1 [] 0 x32.1 x35.1 []),x35.2.2))
       | .inr z37 =>
        some (.inr z37)
      | .inr z34 =>
       some (.inr z34)
     | .inr z31 =>
      some (.inr x26.2)
    | .inr z28 =>
     some (.inr x25.2)
   else
    Qau [117,115,101] h0_0 x25.2>>=fun x38 =>
    if x38.1 then
     Qcf h0_0 x38.2>>=fun o40 =>
     match o40 with
     | .inl x39 =>
      Qbl h0_0 x39.2>>=fun o43 =>
      match o43 with
      | .inl x42 =>
       some (.inl ((Qaa.mk 13 x39.1 [] 0 x42.1 [] []),x42.2))
      | .inr z44 =>
       some (.inr z44)
     | .inr z41 =>
      some (.inr x38.2)
    else
     Qbl h0_0 x38.2>>=fun o46 =>
     match o46 with
     | .inl x45 =>
      some (.inl ((Qaa.mk 9 [] [] 0 x45.1 [] []),x45.2))
     | .inr z47 =>
      some (.inr z47)
 partial_fixpoint
end
end Go.Proofs.YtagokkpnfceidaaGreatDoor
end
