/- The proof's texts, part 9 of 12: the walks by a logic in which data are by value, the plain laws, and at the end the law, for every input. -/
import Derived.Test.YtagokkpnfceidaaGreatDoorMgParseExprs8

section
set_option linter.unusedVariables false
set_option linter.unusedSimpArgs false
set_option maxRecDepth 100000
set_option maxHeartbeats 4000000
namespace Go.Proofs.YtagokkpnfceidaaGreatDoor
open Go.RowKit
theorem Qg1:∀ (h0_0:(List Qab)) (h0_1:Int) (h0_2:Bool) (o:(List UInt8)×Int×Bool),Qcd h0_0 h0_1 h0_2=some o→CallOK Tryz.prog 70 [.ptr 0 0] ⟨[[.p (.sl false (h0_0.map Qac)),.p (iV h0_1),.p (bV h0_2)]],[]⟩ (Qk7 o) ⟨[[.p (.sl false (h0_0.map Qac)),.p (iV o.2.1),.p (bV o.2.2)]],[]⟩:=by
 intro h0_0 h0_1 h0_2 o h
 unfold Qcd at h
 refine CallOK.ofB mixed tbOk Qqj Tryz.func70 rfl (by kernel_rfl) (Nat.le_of_ble_eq_true rfl) rfl rfl rfl ?_
 refine Qaj h (fun o1 ho hk=>?_)
 refine Exists.intro (JP1 _ _ o1 .normal (Qoq h0_0)) (And.intro ?_ (join1 ?_))
 ·have h:=ho
  refine And.intro (by decide +kernel) (And.intro rfl ?_)
  refine Qp8 (fun x2=>(Qc0 x2).ren [0] []) h (fun x2 hy=>(Qap 4 h0_0 h0_1 h0_2 x2 hy).fd rfl rfl [0] rfl rfl) (fun x2 hy h=>?_)
  refine Qaf h (fun hb h=>?_) (fun hb h=>?_)
  ·refine Qcz (l:=h0_0) (c:=Qac) (c' := Qac) h (fun _=>rfl) (fun _=>rfl) (by decide) (fun x3 hi h=>?_)
   refine Qfs [sV x3.Text] Qoj h (fun x4 hy=>(Q1i x3.Text x4 hy)) (fun x4 hy h=>?_)
   refine Qj8 _ _ h (fun x5 hy=>((Qak x4 h0_0 h0_1 h0_2 x5 hy).fg [0] [] rfl rfl rfl (Nat.le_of_ble_eq_true rfl))) (fun x5 hy h=>?_)
   refine JP1.a h ?_
   exact Le.tz 1 0 rfl rfl rfl
  ·refine Qj8 _ _ h (fun x6 hy=>((Qak false h0_0 h0_1 h0_2 x6 hy).fg [0] [] rfl rfl rfl (Nat.le_of_ble_eq_true rfl))) (fun x6 hy h=>?_)
   refine JP1.a h ?_
   exact Le.tz 1 0 rfl rfl rfl
 ·have h:=hk
  refine Exists.intro _ (And.intro (Le.refl _ _ _) ?_)
  exact Qa6 (t:=Qk7) (ss:=fun o=>⟨[[.p (.sl false (h0_0.map Qac)),.p (iV o.2.1),.p (bV o.2.2)]],[]⟩) h ⟨[],rfl,.refl _,.refl _,rfl⟩
noncomputable def Qbd (p1:(List UInt8)) (h0_0:(List Qab)) (h0_1:Int) (h0_2:Bool):Option (Bool) :=
 ( Qan 4 h0_0 h0_1 h0_2>>=fun x2 =>
  if x2 then
   idx h0_0 h0_1>>=fun x3 =>
   some (x3.Text==p1)
  else
   some false:Option (Bool))>>=fun o1 =>
 some o1
theorem Qbi:∀ (p1:(List UInt8)) (h0_0:(List Qab)) (h0_1:Int) (h0_2:Bool) (o:Bool),Qbd p1 h0_0 h0_1 h0_2=some o→CallOK Tryz.prog 66 [.ptr 0 0,.p (sV p1)] ⟨[[.p (.sl false (h0_0.map Qac)),.p (iV h0_1),.p (bV h0_2)]],[]⟩ (Qk8 o) ⟨[[.p (.sl false (h0_0.map Qac)),.p (iV h0_1),.p (bV h0_2)]],[]⟩:=by
 intro p1 h0_0 h0_1 h0_2 o h
 unfold Qbd at h
 refine CallOK.ofB mixed tbOk Qql Tryz.func66 rfl (by kernel_rfl) (Nat.le_of_ble_eq_true rfl) rfl rfl rfl ?_
 refine Qaj h (fun o1 ho hk=>?_)
 refine Exists.intro (JP1 _ _ o1 .normal (Qos h0_0 h0_1 h0_2)) (And.intro ?_ (join1 ?_))
 ·have h:=ho
  refine And.intro (by decide +kernel) (And.intro rfl ?_)
  refine Qp8 (fun x2=>(Qc0 x2).ren [0] []) h (fun x2 hy=>(Qap 4 h0_0 h0_1 h0_2 x2 hy).fd rfl rfl [0] rfl rfl) (fun x2 hy h=>?_)
  refine Qaf h (fun hb h=>?_) (fun hb h=>?_)
  ·refine Qcz (l:=h0_0) (c:=Qac) (c' := Qac) h (fun _=>rfl) (fun _=>rfl) (by decide) (fun x3 hi h=>?_)
   refine JP1.a h ?_
   exact Le.tz 1 0 rfl rfl rfl
  ·refine JP1.a h ?_
   exact Le.tz 1 0 rfl rfl rfl
 ·have h:=hk
  refine Exists.intro _ (And.intro (Le.refl _ _ _) ?_)
  exact Qa6 (t:=Qk8) (ss:=fun o=>⟨[[.p (.sl false (h0_0.map Qac)),.p (iV h0_1),.p (bV h0_2)]],[]⟩) h ⟨[],rfl,.refl _,.refl _,rfl⟩
mutual
noncomputable def Qau (h0_0:(List Qab)) (h0_1:Int) (h0_2:Bool):Option (Qaa×Int×Bool) :=
 Qcx h0_0 h0_1 h0_2>>=fun x1 =>
 (Qbh h0_0 x1.2.1 x1.2.2 x1.1.Kind x1.1.Name x1.1.Text x1.1.N x1.1.L x1.1.Then x1.1.Else)>>=fun o2 =>
 some ((Qaa.mk o2.2.2.1 o2.2.2.2.1 o2.2.2.2.2.1 o2.2.2.2.2.2.1 o2.2.2.2.2.2.2.1 o2.2.2.2.2.2.2.2.1 o2.2.2.2.2.2.2.2.2),o2.1,o2.2.1)
 partial_fixpoint
noncomputable def Qcx (h0_0:(List Qab)) (h0_1:Int) (h0_2:Bool):Option (Qaa×Int×Bool) :=
 Qan 5 h0_0 h0_1 h0_2>>=fun x1 =>
 if x1 then
  Qah true h0_0 h0_1 h0_2>>=fun x2 =>
  some ((Qaa.mk 1 [] x2.1.Text 0 [] [] []),x2.2.1,x2.2.2)
 else
  Qan 6 h0_0 h0_1 h0_2>>=fun x3 =>
  if x3 then
   Qah true h0_0 h0_1 h0_2>>=fun x4 =>
   some ((Qaa.mk 2 [] [] x4.1.N [] [] []),x4.2.1,x4.2.2)
  else
   Qbd [116,114,117,101] h0_0 h0_1 h0_2>>=fun x5 =>
   if x5 then
    Qah true h0_0 h0_1 h0_2>>=fun x6 =>
    some ((Qaa.mk 3 [] [] 1 [] [] []),x6.2.1,x6.2.2)
   else
    Qbd [102,97,108,115,101] h0_0 h0_1 h0_2>>=fun x7 =>
    if x7 then
     Qah true h0_0 h0_1 h0_2>>=fun x8 =>
     some ((Qaa.mk 3 [] [] 0 [] [] []),x8.2.1,x8.2.2)
    else
     Qbd [115,101,99,114,101,116] h0_0 h0_1 h0_2>>=fun x9 =>
     if x9 then
      Qah true h0_0 h0_1 h0_2>>=fun x10 =>
      Qan 8 h0_0 x10.2.1 x10.2.2>>=fun x11 =>
      Qah x11 h0_0 x10.2.1 x10.2.2>>=fun x12 =>
      ( Qan 5 h0_0 x12.2.1 x12.2.2>>=fun x14 =>
       if x14 then
        idx h0_0 x12.2.1>>=fun x15 =>
        Qh4 x15.Text>>=fun x16 =>
        Qah x16 h0_0 x12.2.1 x12.2.2>>=fun x17 =>
        some (x17.2.1,x17.2.2,x17.1.Kind,x17.1.Text,x17.1.N,x17.1.From,x17.1.To)
       else
        Qah false h0_0 x12.2.1 x12.2.2>>=fun x18 =>
        some (x18.2.1,x18.2.2,x18.1.Kind,x18.1.Text,x18.1.N,x18.1.From,x18.1.To):Option ((Int×Bool×Int×(List UInt8)×Int×Int×Int)))>>=fun o13 =>
      Qan 9 h0_0 o13.1 o13.2.1>>=fun x19 =>
      Qah x19 h0_0 o13.1 o13.2.1>>=fun x20 =>
      some ((Qaa.mk 7 o13.2.2.2.1 [] 0 [] [] []),x20.2.1,x20.2.2)
     else
      Qcd h0_0 h0_1 h0_2>>=fun x21 =>
      Qan 8 h0_0 x21.2.1 x21.2.2>>=fun x22 =>
      if(!x22) then
       some ((Qaa.mk 4 x21.1 [] 0 [] [] []),x21.2.1,x21.2.2)
      else
       Qah true h0_0 x21.2.1 x21.2.2>>=fun x23 =>
       Qan 9 h0_0 x23.2.1 x23.2.2>>=fun x24 =>
       if x24 then
        Qah true h0_0 x23.2.1 x23.2.2>>=fun x25 =>
        some ((Qaa.mk 6 x21.1 [] 0 [] [] []),x25.2.1,x25.2.2)
       else
        (Qao h0_0 x21 0 x23.2.1 x23.2.2 [])>>=fun o26 =>
        Qan 9 h0_0 o26.1 o26.2.1>>=fun x33 =>
        Qah x33 h0_0 o26.1 o26.2.1>>=fun x34 =>
        some ((Qaa.mk 6 x21.1 [] 0 o26.2.2 [] []),x34.2.1,x34.2.2)
 partial_fixpoint
noncomputable def Qao (h0_0:(List Qab)) (x21:(List UInt8)×Int×Bool) (v5:Int) (h0_1_:Int) (h0_2_:Bool) (h2_4:(List Qaa)):Option ((Int×Bool×(List Qaa))) :=
 ( if(decide (v5<3)) then
   some (!h0_2_)
  else
   some false:Option (Bool))>>=fun o27 =>
 if o27 then
  Qau h0_0 h0_1_ h0_2_>>=fun x28 =>
  appL 120 h2_4 [x28.1]>>=fun x29 =>
  Qan 9 h0_0 x28.2.1 x28.2.2>>=fun x30 =>
  if x30 then
   some (x28.2.1,x28.2.2,x29)
  else
   if(decide (v5<2)) then
    Qan 10 h0_0 x28.2.1 x28.2.2>>=fun x31 =>
    Qah x31 h0_0 x28.2.1 x28.2.2>>=fun x32 =>
    Qao h0_0 x21 (wr (v5+1)) x32.2.1 x32.2.2 x29
   else
    Qao h0_0 x21 (wr (v5+1)) x28.2.1 x28.2.2 x29
 else
  some (h0_1_,h0_2_,h2_4)
 partial_fixpoint
end
theorem Qpr:∀ (h0_0:(List Qab)),(∀ (h0_1:Int) (h0_2:Bool) (o:Qaa×Int×Bool),Qau h0_0 h0_1 h0_2=some o→CallOK Tryz.prog 67 [.ptr 0 0] ⟨[[.p (.sl false (h0_0.map Qac)),.p (iV h0_1),.p (bV h0_2)]],[]⟩ (Qhn o) ⟨[[.p (.sl false (h0_0.map Qac)),.p (iV o.2.1),.p (bV o.2.2)]],[]⟩)∧(∀ (h0_1:Int) (h0_2:Bool) (o:Qaa×Int×Bool),Qcx h0_0 h0_1 h0_2=some o→CallOK Tryz.prog 95 [.ptr 0 0] ⟨[[.p (.sl false (h0_0.map Qac)),.p (iV h0_1),.p (bV h0_2)]],[]⟩ (Qbt o) ⟨[[.p (.sl false (h0_0.map Qac)),.p (iV o.2.1),.p (bV o.2.2)]],[]⟩)∧(∀ (x21:(List UInt8)×Int×Bool) (v5:Int) (h0_1_:Int) (h0_2_:Bool) (h2_4:(List Qaa)) (o26:(Int×Bool×(List Qaa))),Qao h0_0 x21 v5 h0_1_ h0_2_ h2_4=some o26→TL (1,0) Tryz.prog 107 Qnh (JP1 (1,0) 107 o26 (.exit 0) (Qhc h0_0 x21)) (Qc5 h0_0 x21 v5 h0_1_ h0_2_ h2_4)):=by
 intro h0_0
 refine Qau.mutual_partial_correctness h0_0 _ _ _ ?_ ?_ ?_
 ·intro Qcx' iQcx h0_1 h0_2 o h
  refine CallOK.ofB mixed tbOk Qkc Tryz.func67 rfl (by kernel_rfl) (Nat.le_of_ble_eq_true rfl) rfl rfl rfl ?_
  refine Qag _ _ h (fun x1 hy=>((iQcx h0_1 h0_2 x1 hy).fr [0] [] rfl rfl rfl)) (fun x1 hy h=>?_)
  refine Qaj h (fun o2 ho hk=>?_)
  refine Exists.intro (JP1 _ _ o2 (.exit 0) (Qe0 h0_0)) (And.intro (T_le (τ := Qda h0_0 x1.2.1 x1.2.2 x1.1.Kind x1.1.Name x1.1.Text x1.1.N x1.1.L x1.1.Then x1.1.Else) ?_ (TL.loop (Qns h0_0 x1.2.1 x1.2.2 x1.1.Kind x1.1.Name x1.1.Text x1.1.N x1.1.L x1.1.Then x1.1.Else o2 ho))) (join1 ?_))
  ·exact Le.tz 3 0 rfl rfl rfl
  have h:=hk
  refine Exists.intro _ (And.intro (Le.refl _ _ _) ?_)
  exact Qa6 (t:=Qhn) (ss:=fun o=>⟨[[.p (.sl false (h0_0.map Qac)),.p (iV o.2.1),.p (bV o.2.2)]],[]⟩) h ⟨[],rfl,.refl _,.refl _,rfl⟩
 ·intro Qao' iQao h0_1 h0_2 o h
  refine CallOK.ofB mixed tbOk Qjt Tryz.func95 rfl (by kernel_rfl) (Nat.le_of_ble_eq_true rfl) rfl rfl rfl ?_
  refine Qag _ _ h (fun x1 hy=>((Qap 5 h0_0 h0_1 h0_2 x1 hy).fr [0] [] rfl rfl rfl)) (fun x1 hy h=>?_)
  refine Qaf h (fun hb h=>?_) (fun hb h=>?_)
  ·refine Qag _ _ h (fun x2 hy=>((Qak true h0_0 h0_1 h0_2 x2 hy).fr [0] [] rfl rfl rfl)) (fun x2 hy h=>?_)
   refine Exists.intro _ (And.intro (Le.refl _ _ _) ?_)
   exact Qa6 (t:=Qbt) (ss:=fun o=>⟨[[.p (.sl false (h0_0.map Qac)),.p (iV o.2.1),.p (bV o.2.2)]],[]⟩) h ⟨[],rfl,.p (.agg' (.cons (.refl _) (.cons (.refl _) (.cons (.refl _) (.cons (.refl _) (.cons (.not) (.cons (.not) (.cons (.not) (.nil))))))))),.refl _,rfl⟩
  ·refine Qag _ _ h (fun x3 hy=>((Qap 6 h0_0 h0_1 h0_2 x3 hy).fr [0] [] rfl rfl rfl)) (fun x3 hy h=>?_)
   refine Qaf h (fun hb h=>?_) (fun hb h=>?_)
   ·refine Qag _ _ h (fun x4 hy=>((Qak true h0_0 h0_1 h0_2 x4 hy).fr [0] [] rfl rfl rfl)) (fun x4 hy h=>?_)
    refine Exists.intro _ (And.intro (Le.refl _ _ _) ?_)
    exact Qa6 (t:=Qbt) (ss:=fun o=>⟨[[.p (.sl false (h0_0.map Qac)),.p (iV o.2.1),.p (bV o.2.2)]],[]⟩) h ⟨[],rfl,.p (.agg' (.cons (.refl _) (.cons (.refl _) (.cons (.refl _) (.cons (.refl _) (.cons (.not) (.cons (.not) (.cons (.not) (.nil))))))))),.refl _,rfl⟩
   ·refine Qag _ _ h (fun x5 hy=>((Qbi [116,114,117,101] h0_0 h0_1 h0_2 x5 hy).fr [0] [] rfl rfl rfl)) (fun x5 hy h=>?_)
    refine Qaf h (fun hb h=>?_) (fun hb h=>?_)
    ·refine Qag _ _ h (fun x6 hy=>((Qak true h0_0 h0_1 h0_2 x6 hy).fr [0] [] rfl rfl rfl)) (fun x6 hy h=>?_)
     refine Exists.intro _ (And.intro (Le.refl _ _ _) ?_)
     exact Qa6 (t:=Qbt) (ss:=fun o=>⟨[[.p (.sl false (h0_0.map Qac)),.p (iV o.2.1),.p (bV o.2.2)]],[]⟩) h ⟨[],rfl,.p (.agg' (.cons (.refl _) (.cons (.refl _) (.cons (.refl _) (.cons (.refl _) (.cons (.not) (.cons (.not) (.cons (.not) (.nil))))))))),.refl _,rfl⟩
    ·refine Qag _ _ h (fun x7 hy=>((Qbi [102,97,108,115,101] h0_0 h0_1 h0_2 x7 hy).fr [0] [] rfl rfl rfl)) (fun x7 hy h=>?_)
     refine Qaf h (fun hb h=>?_) (fun hb h=>?_)
     ·refine Qag _ _ h (fun x8 hy=>((Qak true h0_0 h0_1 h0_2 x8 hy).fr [0] [] rfl rfl rfl)) (fun x8 hy h=>?_)
      refine Exists.intro _ (And.intro (Le.refl _ _ _) ?_)
      exact Qa6 (t:=Qbt) (ss:=fun o=>⟨[[.p (.sl false (h0_0.map Qac)),.p (iV o.2.1),.p (bV o.2.2)]],[]⟩) h ⟨[],rfl,.p (.agg' (.cons (.refl _) (.cons (.refl _) (.cons (.refl _) (.cons (.refl _) (.cons (.not) (.cons (.not) (.cons (.not) (.nil))))))))),.refl _,rfl⟩
     ·refine Qag _ _ h (fun x9 hy=>((Qbi [115,101,99,114,101,116] h0_0 h0_1 h0_2 x9 hy).fr [0] [] rfl rfl rfl)) (fun x9 hy h=>?_)
      refine Qaf h (fun hb h=>?_) (fun hb h=>?_)
      ·refine Qag _ _ h (fun x10 hy=>((Qak true h0_0 h0_1 h0_2 x10 hy).fr [0] [] rfl rfl rfl)) (fun x10 hy h=>?_)
       refine Qag _ _ h (fun x11 hy=>((Qap 8 h0_0 x10.2.1 x10.2.2 x11 hy).fr [0] [] rfl rfl rfl)) (fun x11 hy h=>?_)
       refine Qag _ _ h (fun x12 hy=>((Qak x11 h0_0 x10.2.1 x10.2.2 x12 hy).fr [0] [] rfl rfl rfl)) (fun x12 hy h=>?_)
       refine Qaj h (fun o13 ho hk=>?_)
       refine Exists.intro (JP1 _ _ o13 .normal (Qnf h0_0)) (And.intro ?_ (join1 ?_))
       ·have h:=ho
        refine And.intro (by decide +kernel) (And.intro rfl ?_)
        refine Qp8 (fun x14=>(Qc0 x14).ren [0] []) h (fun x14 hy=>(Qap 5 h0_0 x12.2.1 x12.2.2 x14 hy).fd rfl rfl [0] rfl rfl) (fun x14 hy h=>?_)
        refine Qaf h (fun hb h=>?_) (fun hb h=>?_)
        ·refine Qcz (l:=h0_0) (c:=Qac) (c' := Qac) h (fun _=>rfl) (fun _=>rfl) (by decide) (fun x15 hi h=>?_)
         refine Qfs [sV x15.Text] Qhj h (fun x16 hy=>(Qpq x15.Text x16 hy)) (fun x16 hy h=>?_)
         refine Qj8 _ _ h (fun x17 hy=>((Qak x16 h0_0 x12.2.1 x12.2.2 x17 hy).fg [0] [] rfl rfl rfl (Nat.le_of_ble_eq_true rfl))) (fun x17 hy h=>?_)
         refine JP1.a h ?_
         exact Le.tz 3 0 rfl rfl rfl
        ·refine Qj8 _ _ h (fun x18 hy=>((Qak false h0_0 x12.2.1 x12.2.2 x18 hy).fg [0] [] rfl rfl rfl (Nat.le_of_ble_eq_true rfl))) (fun x18 hy h=>?_)
         refine JP1.a h ?_
         exact Le.tz 3 0 rfl rfl rfl
       ·have h:=hk
        refine Qag _ _ h (fun x19 hy=>((Qap 9 h0_0 o13.1 o13.2.1 x19 hy).fr [0] [] rfl rfl rfl)) (fun x19 hy h=>?_)
        refine Qag _ _ h (fun x20 hy=>((Qak x19 h0_0 o13.1 o13.2.1 x20 hy).fr [0] [] rfl rfl rfl)) (fun x20 hy h=>?_)
        refine Exists.intro _ (And.intro (Le.refl _ _ _) ?_)
        exact Qa6 (t:=Qbt) (ss:=fun o=>⟨[[.p (.sl false (h0_0.map Qac)),.p (iV o.2.1),.p (bV o.2.2)]],[]⟩) h ⟨[],rfl,.p (.agg' (.cons (.refl _) (.cons (.refl _) (.cons (.refl _) (.cons (.refl _) (.cons (.not) (.cons (.not) (.cons (.not) (.nil))))))))),.refl _,rfl⟩
      ·refine Qag _ _ h (fun x21 hy=>((Qg1 h0_0 h0_1 h0_2 x21 hy).fr [0] [] rfl rfl rfl)) (fun x21 hy h=>?_)
       refine Qag _ _ h (fun x22 hy=>((Qap 8 h0_0 x21.2.1 x21.2.2 x22 hy).fr [0] [] rfl rfl rfl)) (fun x22 hy h=>?_)
       refine Qaf h (fun hb h=>?_) (fun hb h=>?_)
       ·refine Exists.intro _ (And.intro (Le.refl _ _ _) ?_)
        exact Qa6 (t:=Qbt) (ss:=fun o=>⟨[[.p (.sl false (h0_0.map Qac)),.p (iV o.2.1),.p (bV o.2.2)]],[]⟩) h ⟨[],rfl,.p (.agg' (.cons (.refl _) (.cons (.refl _) (.cons (.refl _) (.cons (.refl _) (.cons (.not) (.cons (.not) (.cons (.not) (.nil))))))))),.refl _,rfl⟩
       ·refine Qag _ _ h (fun x23 hy=>((Qak true h0_0 x21.2.1 x21.2.2 x23 hy).fr [0] [] rfl rfl rfl)) (fun x23 hy h=>?_)
        refine Qag _ _ h (fun x24 hy=>((Qap 9 h0_0 x23.2.1 x23.2.2 x24 hy).fr [0] [] rfl rfl rfl)) (fun x24 hy h=>?_)
        refine Qaf h (fun hb h=>?_) (fun hb h=>?_)
        ·refine Qag _ _ h (fun x25 hy=>((Qak true h0_0 x23.2.1 x23.2.2 x25 hy).fr [0] [] rfl rfl rfl)) (fun x25 hy h=>?_)
         refine Exists.intro _ (And.intro (Le.refl _ _ _) ?_)
         exact Qa6 (t:=Qbt) (ss:=fun o=>⟨[[.p (.sl false (h0_0.map Qac)),.p (iV o.2.1),.p (bV o.2.2)]],[]⟩) h ⟨[],rfl,.p (.agg' (.cons (.refl _) (.cons (.refl _) (.cons (.refl _) (.cons (.refl _) (.cons (.not) (.cons (.not) (.cons (.not) (.nil))))))))),.refl _,rfl⟩
        ·refine Qaj h (fun o26 ho hk=>?_)
         refine Exists.intro (JP1 _ _ o26 (.exit 0) (Qhc h0_0 x21)) (And.intro (T_le (τ := Qc5 h0_0 x21 0 x23.2.1 x23.2.2 []) ?_ (TL.loop (iQao x21 0 x23.2.1 x23.2.2 [] o26 ho))) (join1 ?_))
         ·exact(Le.ownH 2 4 37 7 rfl rfl sizeNil).trans (Le.tz 3 1 rfl rfl rfl)
         have h:=hk
         refine Qag _ _ h (fun x33 hy=>((Qap 9 h0_0 o26.1 o26.2.1 x33 hy).fr [0] [] rfl rfl rfl)) (fun x33 hy h=>?_)
         refine Qag _ _ h (fun x34 hy=>((Qak x33 h0_0 o26.1 o26.2.1 x34 hy).fr [0] [] rfl rfl rfl)) (fun x34 hy h=>?_)
         refine Exists.intro _ (And.intro (Le.refl _ _ _) ?_)
         exact Qa6 (t:=Qbt) (ss:=fun o=>⟨[[.p (.sl false (h0_0.map Qac)),.p (iV o.2.1),.p (bV o.2.2)]],[]⟩) h ⟨[],rfl,.p (.agg' (.cons (.refl _) (.cons (.refl _) (.cons (.refl _) (.cons (.refl _) (.cons (.refl _) (.cons (.not) (.cons (.not) (.nil))))))))),.refl _,rfl⟩
 ·intro Qau' Qao' iQau iQao x21 v5 h0_1_ h0_2_ h2_4 o26 h
  refine TL.round (Qam mixed tbOk (lv:=Qjt) _ _ _ ?_)
  refine Qaj h (fun o27 ho hk=>?_)
  refine Exists.intro (JP1 _ _ o27 .normal (Qng h0_0 x21 v5 h0_1_ h0_2_ h2_4)) (And.intro ?_ (join1 ?_))
  ·have h:=ho
   refine Qaf h (fun hb h=>?_) (fun hb h=>?_)
   ·refine JP1.a h ?_
    exact Le.tz 3 1 rfl rfl rfl
   ·refine JP1.a h ?_
    exact Le.tz 3 1 rfl rfl rfl
  ·have h:=hk
   refine Qaf h (fun hb h=>?_) (fun hb h=>?_)
   ·refine And.intro (by decide +kernel) (And.intro rfl ?_)
    refine Qj8 _ _ h (fun x28 hy=>((iQau h0_1_ h0_2_ x28 hy).fg [0] [] rfl rfl rfl (Nat.le_of_ble_eq_true rfl))) (fun x28 hy h=>?_)
    refine Qpf (a:=h2_4) (b:=[x28.1]) (c:=Qae) h (.cons (.ceq (Qai _) (.refl _)) (.nil)) (fun x=>by rw[Qai]; rfl) rfl (fun x29 hi h=>?_)
    refine Qag _ _ h (fun x30 hy=>((Qap 9 h0_0 x28.2.1 x28.2.2 x30 hy).fr [0] [] rfl rfl rfl)) (fun x30 hy h=>?_)
    refine Qaf h (fun hb h=>?_) (fun hb h=>?_)
    ·exact JP1.a h (Le.tz 3 1 rfl rfl rfl)
    ·refine Qaf h (fun hb h=>?_) (fun hb h=>?_)
     ·refine Qag _ _ h (fun x31 hy=>((Qap 10 h0_0 x28.2.1 x28.2.2 x31 hy).fr [0] [] rfl rfl rfl)) (fun x31 hy h=>?_)
      refine Qag _ _ h (fun x32 hy=>((Qak x31 h0_0 x28.2.1 x28.2.2 x32 hy).fr [0] [] rfl rfl rfl)) (fun x32 hy h=>?_)
      refine TL.le (τ := Qc5 h0_0 x21 (wr (v5+1)) x32.2.1 x32.2.2 x29) ?_ ((iQao x21 (wr (v5+1)) x32.2.1 x32.2.2 x29 _ h))
      exact Le.tz 3 1 rfl rfl rfl
     ·refine TL.le (τ := Qc5 h0_0 x21 (wr (v5+1)) x28.2.1 x28.2.2 x29) ?_ ((iQao x21 (wr (v5+1)) x28.2.1 x28.2.2 x29 _ h))
      exact Le.tz 3 1 rfl rfl rfl
   ·exact JP1.a h (Le.tz 3 1 rfl rfl rfl)
theorem Qg2:∀ (h0_0:(List Qab)) (h0_1:Int) (h0_2:Bool) (o:Qaa×Int×Bool),Qau h0_0 h0_1 h0_2=some o→CallOK Tryz.prog 67 [.ptr 0 0] ⟨[[.p (.sl false (h0_0.map Qac)),.p (iV h0_1),.p (bV h0_2)]],[]⟩ (Qhn o) ⟨[[.p (.sl false (h0_0.map Qac)),.p (iV o.2.1),.p (bV o.2.2)]],[]⟩:=fun h0_0 h0_1 h0_2=>(Qpr h0_0).1 h0_1 h0_2
noncomputable def Qa4 (h0_0:(List Qab)) (h0_1:Int) (h0_2:Bool):Option (Int×Bool) :=
 Qan 3 h0_0 h0_1 h0_2>>=fun x1 =>
 Qah x1 h0_0 h0_1 h0_2>>=fun x2 =>
 some (x2.2.1,x2.2.2)
theorem Qeb:∀ (h0_0:(List Qab)) (h0_1:Int) (h0_2:Bool) (o:Int×Bool),Qa4 h0_0 h0_1 h0_2=some o→CallOK Tryz.prog 68 [.ptr 0 0] ⟨[[.p (.sl false (h0_0.map Qac)),.p (iV h0_1),.p (bV h0_2)]],[]⟩ (Qkd o) ⟨[[.p (.sl false (h0_0.map Qac)),.p (iV o.1),.p (bV o.2)]],[]⟩:=by
 intro h0_0 h0_1 h0_2 o h
 unfold Qa4 at h
 refine CallOK.ofB mixed tbOk Qpm Tryz.func68 rfl (by kernel_rfl) (Nat.le_of_ble_eq_true rfl) rfl rfl rfl ?_
 refine Qag _ _ h (fun x1 hy=>((Qap 3 h0_0 h0_1 h0_2 x1 hy).fr [0] [] rfl rfl rfl)) (fun x1 hy h=>?_)
 refine Qag _ _ h (fun x2 hy=>((Qak x1 h0_0 h0_1 h0_2 x2 hy).fr [0] [] rfl rfl rfl)) (fun x2 hy h=>?_)
 refine Exists.intro _ (And.intro (Le.refl _ _ _) ?_)
 exact Qa6 (t:=Qkd) (ss:=fun o=>⟨[[.p (.sl false (h0_0.map Qac)),.p (iV o.1),.p (bV o.2)]],[]⟩) h ⟨[],rfl,.refl _,.refl _,rfl⟩
noncomputable def Qb5 (p1:(List UInt8)) (h0_0:(List Qab)) (h0_1:Int) (h0_2:Bool):Option (Int×Bool) :=
 Qan 2 h0_0 h0_1 h0_2>>=fun x1 =>
 Qah x1 h0_0 h0_1 h0_2>>=fun x2 =>
 Qbd p1 h0_0 x2.2.1 x2.2.2>>=fun x3 =>
 Qah x3 h0_0 x2.2.1 x2.2.2>>=fun x4 =>
 Qa4 h0_0 x4.2.1 x4.2.2>>=fun x5 =>
 some (x5.1,x5.2)
theorem Qhs:∀ (p1:(List UInt8)) (h0_0:(List Qab)) (h0_1:Int) (h0_2:Bool) (o:Int×Bool),Qb5 p1 h0_0 h0_1 h0_2=some o→CallOK Tryz.prog 69 [.ptr 0 0,.p (sV p1)] ⟨[[.p (.sl false (h0_0.map Qac)),.p (iV h0_1),.p (bV h0_2)]],[]⟩ (Qmh o) ⟨[[.p (.sl false (h0_0.map Qac)),.p (iV o.1),.p (bV o.2)]],[]⟩:=by
 intro p1 h0_0 h0_1 h0_2 o h
 unfold Qb5 at h
 refine CallOK.ofB mixed tbOk Qrj Tryz.func69 rfl (by kernel_rfl) (Nat.le_of_ble_eq_true rfl) rfl rfl rfl ?_
 refine Qag _ _ h (fun x1 hy=>((Qap 2 h0_0 h0_1 h0_2 x1 hy).fr [0] [] rfl rfl rfl)) (fun x1 hy h=>?_)
 refine Qag _ _ h (fun x2 hy=>((Qak x1 h0_0 h0_1 h0_2 x2 hy).fr [0] [] rfl rfl rfl)) (fun x2 hy h=>?_)
 refine Qag _ _ h (fun x3 hy=>((Qbi p1 h0_0 x2.2.1 x2.2.2 x3 hy).fr [0] [] rfl rfl rfl)) (fun x3 hy h=>?_)
 refine Qag _ _ h (fun x4 hy=>((Qak x3 h0_0 x2.2.1 x2.2.2 x4 hy).fr [0] [] rfl rfl rfl)) (fun x4 hy h=>?_)
 refine Qag _ _ h (fun x5 hy=>((Qeb h0_0 x4.2.1 x4.2.2 x5 hy).fr [0] [] rfl rfl rfl)) (fun x5 hy h=>?_)
 refine Exists.intro _ (And.intro (Le.refl _ _ _) ?_)
 exact Qa6 (t:=Qmh) (ss:=fun o=>⟨[[.p (.sl false (h0_0.map Qac)),.p (iV o.1),.p (bV o.2)]],[]⟩) h ⟨[],rfl,.refl _,.refl _,rfl⟩
mutual
noncomputable def Qas (p1:Bool) (p2:Bool) (h0_0:(List Qab)) (h0_1:Int) (h0_2:Bool):Option ((List Qaa)×Int×Bool) :=
 (Qa5 p1 p2 h0_0 [] h0_1 h0_2)>>=fun o1 =>
 match o1 with
 | .inl y2 =>
  some (y2.1,y2.2.1,y2.2.2)
 | .inr y3 =>
  some (y3.1,y3.2.1,y3.2.2)
 partial_fixpoint
noncomputable def Qa5 (p1:Bool) (p2:Bool) (h0_0:(List Qab)) (v7:(List Qaa)) (h0_1_:Int) (h0_2_:Bool):Option (((List Qaa)×Int×Bool)⊕((List Qaa)×Int×Bool)) :=
 ( if(!h0_2_) then
   some (decide (h0_1_<(h0_0.length:Int)))
  else
   some false:Option (Bool))>>=fun o4 =>
 if o4 then
  Qan 1 h0_0 h0_1_ h0_2_>>=fun x5 =>
  if x5 then
   Qah true h0_0 h0_1_ h0_2_>>=fun x6 =>
   ( if(decide ((wr ((v7.length:Int)-1)) ≥ 0)) then
     idx v7 (wr ((v7.length:Int)-1))>>=fun x8 =>
     some (x8.Kind==8)
    else
     some false:Option (Bool))>>=fun o7 =>
   if o7 then
    idx v7 (wr ((v7.length:Int)-1))>>=fun x9 =>
    need (x9.Text.length+x6.1.Text.length≤9223372036854775807)>>=fun _ =>
    idx v7 (wr ((v7.length:Int)-1))>>=fun x10 =>
    Qa5 p1 p2 h0_0 (v7.set ((wr ((v7.length:Int)-1)).toNat) (Qaa.mk x10.Kind x10.Name (x9.Text++x6.1.Text) x10.N x10.L x10.Then x10.Else)) x6.2.1 x6.2.2
   else
    appL 120 v7 ([(Qaa.mk 8 [] x6.1.Text 0 [] [] [])])>>=fun x11 =>
    Qa5 p1 p2 h0_0 x11 x6.2.1 x6.2.2
  else
   ( if p1 then
     Qbm [101,110,100] h0_0 h0_1_ h0_2_>>=fun x13 =>
     if x13 then
      some true
     else
      if p2 then
       Qbm [101,108,115,101] h0_0 h0_1_ h0_2_>>=fun x14 =>
       some x14
      else
       some false
    else
     if p2 then
      Qbm [101,108,115,101] h0_0 h0_1_ h0_2_>>=fun x15 =>
      some x15
     else
      some false:Option (Bool))>>=fun o12 =>
   if o12 then
    some (.inr (v7,h0_1_,h0_2_))
   else
    Qan 2 h0_0 h0_1_ h0_2_>>=fun x16 =>
    Qah x16 h0_0 h0_1_ h0_2_>>=fun x17 =>
    Qan 3 h0_0 x17.2.1 x17.2.2>>=fun x18 =>
    if x18 then
     Qah true h0_0 x17.2.1 x17.2.2>>=fun x19 =>
     Qa5 p1 p2 h0_0 v7 x19.2.1 x19.2.2
    else
     Qcp h0_0 x17.2.1 x17.2.2>>=fun x20 =>
     appL 120 v7 [x20.1]>>=fun x21 =>
     Qa5 p1 p2 h0_0 x21 x20.2.1 x20.2.2
 else
  some (.inl (v7,h0_1_,h0_2_))
 partial_fixpoint
noncomputable def Qcp (h0_0:(List Qab)) (h0_1:Int) (h0_2:Bool):Option (Qaa×Int×Bool) :=
 Qbd [105,102] h0_0 h0_1 h0_2>>=fun x1 =>
 if x1 then
  Qah true h0_0 h0_1 h0_2>>=fun x2 =>
  Qau h0_0 x2.2.1 x2.2.2>>=fun x3 =>
  Qa4 h0_0 x3.2.1 x3.2.2>>=fun x4 =>
  Qas true true h0_0 x4.1 x4.2>>=fun x5 =>
  ( Qbm [101,108,115,101] h0_0 x5.2.1 x5.2.2>>=fun x7 =>
   if x7 then
    Qb5 [101,108,115,101] h0_0 x5.2.1 x5.2.2>>=fun x8 =>
    Qas true false h0_0 x8.1 x8.2>>=fun x9 =>
    some (x9.2.1,x9.2.2,x9.1)
   else
    some (x5.2.1,x5.2.2,[]):Option ((Int×Bool×(List Qaa))))>>=fun o6 =>
  Qb5 [101,110,100] h0_0 o6.1 o6.2.1>>=fun x10 =>
  some ((Qaa.mk 10 [] [] 0 [x3.1] x5.1 o6.2.2),x10.1,x10.2)
 else
  ( Qbd [101,97,99,104] h0_0 h0_1 h0_2>>=fun x12 =>
   if x12 then
    some true
   else
    Qbd [108,101,116] h0_0 h0_1 h0_2>>=fun x13 =>
    some x13:Option (Bool))>>=fun o11 =>
  if o11 then
   ( Qbd [108,101,116] h0_0 h0_1 h0_2>>=fun x15 =>
    if x15 then
     some 12
    else
     some 11:Option (Int))>>=fun o14 =>
   Qah true h0_0 h0_1 h0_2>>=fun x16 =>
   Qcd h0_0 x16.2.1 x16.2.2>>=fun x17 =>
   ( if(o14==11) then
     Qbd [105,110] h0_0 x17.2.1 x17.2.2>>=fun x19 =>
     Qah x19 h0_0 x17.2.1 x17.2.2>>=fun x20 =>
     some (x20.2.1,x20.2.2)
    else
     Qan 11 h0_0 x17.2.1 x17.2.2>>=fun x21 =>
     Qah x21 h0_0 x17.2.1 x17.2.2>>=fun x22 =>
     some (x22.2.1,x22.2.2):Option ((Int×Bool)))>>=fun o18 =>
   Qau h0_0 o18.1 o18.2>>=fun x23 =>
   Qa4 h0_0 x23.2.1 x23.2.2>>=fun x24 =>
   Qas true false h0_0 x24.1 x24.2>>=fun x25 =>
   Qb5 [101,110,100] h0_0 x25.2.1 x25.2.2>>=fun x26 =>
   some ((Qaa.mk o14 x17.1 [] 0 [x23.1] x25.1 []),x26.1,x26.2)
  else
   ( Qbd [117,115,101] h0_0 h0_1 h0_2>>=fun x28 =>
    if x28 then
     Qah true h0_0 h0_1 h0_2>>=fun x29 =>
     Qcd h0_0 x29.2.1 x29.2.2>>=fun x30 =>
     some (x30.2.1,x30.2.2,13,x30.1)
    else
     some (h0_1,h0_2,9,[]):Option ((Int×Bool×Int×(List UInt8))))>>=fun o27 =>
   Qau h0_0 o27.1 o27.2.1>>=fun x31 =>
   Qa4 h0_0 x31.2.1 x31.2.2>>=fun x32 =>
   some ((Qaa.mk o27.2.2.1 o27.2.2.2 [] 0 [x31.1] [] []),x32.1,x32.2)
 partial_fixpoint
end
theorem Qo2:∀ (h0_0:(List Qab)),(∀ (p1:Bool) (p2:Bool) (h0_1:Int) (h0_2:Bool) (o:(List Qaa)×Int×Bool),Qas p1 p2 h0_0 h0_1 h0_2=some o→CallOK Tryz.prog 21 [.ptr 0 0,.p (bV p1),.p (bV p2)] ⟨[[.p (.sl false (h0_0.map Qac)),.p (iV h0_1),.p (bV h0_2)]],[]⟩ (Qes o) ⟨[[.p (.sl false (h0_0.map Qac)),.p (iV o.2.1),.p (bV o.2.2)]],[]⟩)∧(∀ (p1:Bool) (p2:Bool) (v7:(List Qaa)) (h0_1_:Int) (h0_2_:Bool) (o1:((List Qaa)×Int×Bool)⊕((List Qaa)×Int×Bool)),Qa5 p1 p2 h0_0 v7 h0_1_ h0_2_=some o1→TL (1,0) Tryz.prog 89 Qne (JP2 (1,0) 89 o1 (.exit 0) (Qha p1 p2 h0_0) .ret (Qhb p1 p2 h0_0)) (Qb4 p1 p2 h0_0 v7 h0_1_ h0_2_))∧(∀ (h0_1:Int) (h0_2:Bool) (o:Qaa×Int×Bool),Qcp h0_0 h0_1 h0_2=some o→CallOK Tryz.prog 45 [.ptr 0 0] ⟨[[.p (.sl false (h0_0.map Qac)),.p (iV h0_1),.p (bV h0_2)]],[]⟩ (Qd4 o) ⟨[[.p (.sl false (h0_0.map Qac)),.p (iV o.2.1),.p (bV o.2.2)]],[]⟩):=by
 intro h0_0
 refine Qas.mutual_partial_correctness h0_0 _ _ _ ?_ ?_ ?_
 ·intro Qa5' iQa5 p1 p2 h0_1 h0_2 o h
  refine CallOK.ofB mixed tbOk Qjs Tryz.func21 rfl (by kernel_rfl) (Nat.le_of_ble_eq_true rfl) rfl rfl rfl ?_
  refine Qaj h (fun o1 ho hk=>?_)
  refine Exists.intro (JP2 _ _ o1 (.exit 0) (Qha p1 p2 h0_0) .ret (Qhb p1 p2 h0_0)) (And.intro (T_le (τ := Qb4 p1 p2 h0_0 [] h0_1 h0_2) ?_ (TL.loop (iQa5 p1 p2 [] h0_1 h0_2 o1 ho))) (join2 (fun y2 hy=>?_) (fun y3 hy=>?_)))
  ·exact Le.trans (τ := ⟨[(0,.ptr 0 0),(1,.p (bV p1)),(2,.p (bV p2)),(7,.p (.sl true []))],⟨[[.p (.sl false (h0_0.map Qac)),.p (iV h0_1),.p (bV h0_2)]],[]⟩⟩) (Le.tz 1 0 rfl rfl rfl) ((Le.xnil (.s 7) 37 7 rfl).trans (Le.tz 1 1 rfl rfl rfl))
  ·have h:=(by rw[hy] at hk; exact hk)
   refine Exists.intro _ (And.intro (Le.frzv (.s 7) 0 1 rfl rfl rfl rfl) ?_)
   refine Exists.intro _ (And.intro (Le.refl _ _ _) ?_)
   exact Qa6 (t:=Qes) (ss:=fun o=>⟨[[.p (.sl false (h0_0.map Qac)),.p (iV o.2.1),.p (bV o.2.2)]],[]⟩) h ⟨[],rfl,.refl _,.refl _,rfl⟩
  ·have h:=(by rw[hy] at hk; exact hk)
   refine Exists.intro _ (And.intro (Le.refl _ _ _) ?_)
   exact Qa6 (t:=Qes) (ss:=fun o=>⟨[[.p (.sl false (h0_0.map Qac)),.p (iV o.2.1),.p (bV o.2.2)]],[]⟩) h ⟨[],rfl,.refl _,.refl _,rfl⟩
 ·intro Qa5' Qcp' iQa5 iQcp p1 p2 v7 h0_1_ h0_2_ o1 h
  refine TL.round (Qam mixed tbOk (lv:=Qjs) _ _ _ ?_)
  refine Qaj h (fun o4 ho hk=>?_)
  refine Exists.intro (JP1 _ _ o4 .normal (Qnb p1 p2 h0_0 v7 h0_1_ h0_2_)) (And.intro ?_ (join1 ?_))
  ·have h:=ho
   refine And.intro (by decide +kernel) (And.intro rfl ?_)
   refine Qaf h (fun hb h=>?_) (fun hb h=>?_)
   ·refine view (lenMap _ _) rfl ?_
    refine JP1.a h ?_
    exact Le.tz 1 1 rfl rfl rfl
   ·refine JP1.a h ?_
    exact Le.tz 1 1 rfl rfl rfl
  ·have h:=hk
   refine Qaf h (fun hb h=>?_) (fun hb h=>?_)
   ·refine Qag _ _ h (fun x5 hy=>((Qap 1 h0_0 h0_1_ h0_2_ x5 hy).fr [0] [] rfl rfl rfl)) (fun x5 hy h=>?_)
    refine Qaf h (fun hb h=>?_) (fun hb h=>?_)
    ·refine Qag _ _ h (fun x6 hy=>((Qak true h0_0 h0_1_ h0_2_ x6 hy).fr [0] [] rfl rfl rfl)) (fun x6 hy h=>?_)
     refine And.intro rfl (Exists.intro _ (And.intro (List.length_map _) ?_))
     refine Qaj h (fun o7 ho hk=>?_)
     refine Exists.intro (JP1 _ _ o7 .normal (Qnc p1 p2 h0_0 v7 x6)) (And.intro ?_ (join1 ?_))
     ·have h:=ho
      refine Qaf h (fun hb h=>?_) (fun hb h=>?_)
      ·refine Qrf (l:=v7) (c:=Qae) (c' := Qba) h rfl Qai (fun _=>rfl) (by decide) (fun x8 hi h=>?_)
       refine And.intro rfl ?_
       refine And.intro rfl (And.intro (Nat.le_of_ble_eq_true rfl) ?_)
       refine JP1.a h ?_
       exact Le.tz 1 1 rfl rfl rfl
      ·refine JP1.a h ?_
       exact Le.tz 1 1 rfl rfl rfl
     ·have h:=hk
      refine Qaf h (fun hb h=>?_) (fun hb h=>?_)
      ·refine Qrf (l:=v7) (c:=Qae) (c' := Qba) h rfl Qai (fun _=>rfl) (by decide) (fun x9 hi h=>?_)
       refine And.intro rfl ?_
       refine And.intro rfl (And.intro (Nat.le_of_ble_eq_true rfl) ?_)
       refine Qkk h (fun h=>?_)
       refine Qrf (l:=v7) (c:=Qae) (c' := Qba) h rfl Qai (fun _=>rfl) (by decide) (fun x10 hi h=>?_)
       refine And.intro rfl ?_
       refine And.intro rfl (And.intro (Nat.le_of_ble_eq_true rfl) (And.intro rfl (And.intro rfl (Exists.intro ((v7.set ((wr ((v7.length:Int)-1)).toNat) (Qaa.mk x10.Kind x10.Name (x9.Text++x6.1.Text) x10.N x10.L x10.Then x10.Else)).map Qae) (And.intro (setMap (.ceq (Qai _) (.refl _))) ?_)))))
       refine TL.le (τ := Qb4 p1 p2 h0_0 (v7.set ((wr ((v7.length:Int)-1)).toNat) (Qaa.mk x10.Kind x10.Name (x9.Text++x6.1.Text) x10.N x10.L x10.Then x10.Else)) x6.2.1 x6.2.2) ?_ ((iQa5 p1 p2 (v7.set ((wr ((v7.length:Int)-1)).toNat) (Qaa.mk x10.Kind x10.Name (x9.Text++x6.1.Text) x10.N x10.L x10.Then x10.Else)) x6.2.1 x6.2.2 _ h))
       exact Le.trans (τ := ⟨[(0,.ptr 0 0),(1,.p (bV p1)),(2,.p (bV p2)),(7,.x 0 2 (.sl 37 7 ((v7.set ((wr ((v7.length:Int)-1)).toNat) (Qaa.mk x10.Kind x10.Name (x9.Text++x6.1.Text) x10.N x10.L x10.Then x10.Else)).map Qae)))],⟨[[.p (.sl false (h0_0.map Qac)),.p (iV x6.2.1),.p (bV x6.2.2)]],[2]⟩⟩) (Le.tz 1 1 rfl rfl rfl) ((Le.ver (.s 7) 0 2 1 rfl rfl rfl rfl).trans (Le.tz 1 1 rfl rfl rfl))
      ·refine Qw2 (a:=v7) (b:=[(Qaa.mk 8 [] x6.1.Text 0 [] [] [])]) (c:=Qae) h (.cons (.ceq (Qai _) (.cons (.refl _) (.cons (.refl _) (.cons (.refl _) (.cons (.refl _) (.cons (.not) (.cons (.not) (.cons (.not) (.nil))))))))) (.nil)) (fun x=>by rw[Qai]; rfl) rfl (fun x11 hi h=>?_)
       refine TL.le (τ := Qb4 p1 p2 h0_0 x11 x6.2.1 x6.2.2) ?_ ((iQa5 p1 p2 x11 x6.2.1 x6.2.2 _ h))
       exact Le.trans (τ := ⟨[(0,.ptr 0 0),(1,.p (bV p1)),(2,.p (bV p2)),(7,.x 0 2 (.sl 37 7 (x11.map Qae)))],⟨[[.p (.sl false (h0_0.map Qac)),.p (iV x6.2.1),.p (bV x6.2.2)]],[2]⟩⟩) (Le.tz 1 1 rfl rfl rfl) ((Le.ver (.s 7) 0 2 1 rfl rfl rfl rfl).trans (Le.tz 1 1 rfl rfl rfl))
    ·refine Qaj h (fun o12 ho hk=>?_)
     refine Exists.intro (JP1 _ _ o12 .normal (Qnd p1 p2 h0_0 v7 h0_1_ h0_2_)) (And.intro ?_ (join1 ?_))
     ·have h:=ho
      refine Qaf h (fun hb h=>?_) (fun hb h=>?_)
      ·refine Qag _ _ h (fun x13 hy=>((Qea [101,110,100] h0_0 h0_1_ h0_2_ x13 hy).fr [0] [] rfl rfl rfl)) (fun x13 hy h=>?_)
       refine Qaf h (fun hb h=>?_) (fun hb h=>?_)
       ·refine JP1.a h ?_
        exact Le.tz 1 1 rfl rfl rfl
       ·refine Qaf h (fun hb h=>?_) (fun hb h=>?_)
        ·refine Qag _ _ h (fun x14 hy=>((Qea [101,108,115,101] h0_0 h0_1_ h0_2_ x14 hy).fr [0] [] rfl rfl rfl)) (fun x14 hy h=>?_)
         refine JP1.a h ?_
         exact Le.tz 1 1 rfl rfl rfl
        ·refine JP1.a h ?_
         exact Le.tz 1 1 rfl rfl rfl
      ·refine bF ?_
       refine Qaf h (fun hb h=>?_) (fun hb h=>?_)
       ·refine Qag _ _ h (fun x15 hy=>((Qea [101,108,115,101] h0_0 h0_1_ h0_2_ x15 hy).fr [0] [] rfl rfl rfl)) (fun x15 hy h=>?_)
        refine JP1.a h ?_
        exact Le.tz 1 1 rfl rfl rfl
       ·refine JP1.a h ?_
        exact Le.tz 1 1 rfl rfl rfl
     ·have h:=hk
      refine Qaf h (fun hb h=>?_) (fun hb h=>?_)
      ·refine Exists.intro _ (And.intro (Le.frzv (.s 7) 0 1 rfl rfl rfl rfl) ?_)
       exact JP2.b h (Le.tz 1 1 rfl rfl rfl)
      ·refine Qag _ _ h (fun x16 hy=>((Qap 2 h0_0 h0_1_ h0_2_ x16 hy).fr [0] [] rfl rfl rfl)) (fun x16 hy h=>?_)
       refine Qag _ _ h (fun x17 hy=>((Qak x16 h0_0 h0_1_ h0_2_ x17 hy).fr [0] [] rfl rfl rfl)) (fun x17 hy h=>?_)
       refine Qag _ _ h (fun x18 hy=>((Qap 3 h0_0 x17.2.1 x17.2.2 x18 hy).fr [0] [] rfl rfl rfl)) (fun x18 hy h=>?_)
       refine Qaf h (fun hb h=>?_) (fun hb h=>?_)
       ·refine Qag _ _ h (fun x19 hy=>((Qak true h0_0 x17.2.1 x17.2.2 x19 hy).fr [0] [] rfl rfl rfl)) (fun x19 hy h=>?_)
        refine TL.le (τ := Qb4 p1 p2 h0_0 v7 x19.2.1 x19.2.2) ?_ ((iQa5 p1 p2 v7 x19.2.1 x19.2.2 _ h))
        exact Le.tz 1 1 rfl rfl rfl
       ·refine Qag _ _ h (fun x20 hy=>((iQcp x17.2.1 x17.2.2 x20 hy).fr [0] [] rfl rfl rfl)) (fun x20 hy h=>?_)
        refine Qw2 (a:=v7) (b:=[x20.1]) (c:=Qae) h (.cons (.ceq (Qai _) (.refl _)) (.nil)) (fun x=>by rw[Qai]; rfl) rfl (fun x21 hi h=>?_)
        refine TL.le (τ := Qb4 p1 p2 h0_0 x21 x20.2.1 x20.2.2) ?_ ((iQa5 p1 p2 x21 x20.2.1 x20.2.2 _ h))
        exact Le.trans (τ := ⟨[(0,.ptr 0 0),(1,.p (bV p1)),(2,.p (bV p2)),(7,.x 0 2 (.sl 37 7 (x21.map Qae)))],⟨[[.p (.sl false (h0_0.map Qac)),.p (iV x20.2.1),.p (bV x20.2.2)]],[2]⟩⟩) (Le.tz 1 1 rfl rfl rfl) ((Le.ver (.s 7) 0 2 1 rfl rfl rfl rfl).trans (Le.tz 1 1 rfl rfl rfl))
   ·exact JP2.a h (Le.tz 1 1 rfl rfl rfl)
 ·intro Qas' iQas h0_1 h0_2 o h
  refine CallOK.ofB mixed tbOk Qop Tryz.func45 rfl (by kernel_rfl) (Nat.le_of_ble_eq_true rfl) rfl rfl rfl ?_
  refine Qag _ _ h (fun x1 hy=>((Qbi [105,102] h0_0 h0_1 h0_2 x1 hy).fr [0] [] rfl rfl rfl)) (fun x1 hy h=>?_)
  refine Qaf h (fun hb h=>?_) (fun hb h=>?_)
  ·refine Qag _ _ h (fun x2 hy=>((Qak true h0_0 h0_1 h0_2 x2 hy).fr [0] [] rfl rfl rfl)) (fun x2 hy h=>?_)
   refine Qag _ _ h (fun x3 hy=>((Qg2 h0_0 x2.2.1 x2.2.2 x3 hy).fr [0] [] rfl rfl rfl)) (fun x3 hy h=>?_)
   refine Qag _ _ h (fun x4 hy=>((Qeb h0_0 x3.2.1 x3.2.2 x4 hy).fr [0] [] rfl rfl rfl)) (fun x4 hy h=>?_)
   refine Qag _ _ h (fun x5 hy=>((iQas true true x4.1 x4.2 x5 hy).fr [0] [] rfl rfl rfl)) (fun x5 hy h=>?_)
   refine Qaj h (fun o6 ho hk=>?_)
   refine Exists.intro (JP1 _ _ o6 .normal (Qml h0_0 x3 x5)) (And.intro ?_ (join1 ?_))
   ·have h:=ho
    refine Qag _ _ h (fun x7 hy=>((Qea [101,108,115,101] h0_0 x5.2.1 x5.2.2 x7 hy).fr [0] [] rfl rfl rfl)) (fun x7 hy h=>?_)
    refine Qaf h (fun hb h=>?_) (fun hb h=>?_)
    ·refine Qag _ _ h (fun x8 hy=>((Qhs [101,108,115,101] h0_0 x5.2.1 x5.2.2 x8 hy).fr [0] [] rfl rfl rfl)) (fun x8 hy h=>?_)
     refine Qag _ _ h (fun x9 hy=>((iQas true false x8.1 x8.2 x9 hy).fr [0] [] rfl rfl rfl)) (fun x9 hy h=>?_)
     refine JP1.a h ?_
     exact Le.tow 3 0 rfl (.cons rfl (.refl _) (.cons rfl (.refl _) (.cons rfl (.refl _) (.nil)))) (.cons (.refl _) (.cons (.refl _) (.cons (.cons (.refl _) (.cons (.refl _) (.cons (.refl _) (.cons (.refl _) (.cons (.p (.sl' (fun h=>h) (.cons (.ceq (Qai _) (.refl _)) (.nil)))) (.cons (.refl _) (.cons (.refl _) (.nil)))))))) (.nil)))) rfl
    ·refine JP1.a h ?_
     exact Le.tow 3 0 rfl (.cons rfl (.refl _) (.cons rfl (.refl _) (.cons rfl (.refl _) (.nil)))) (.cons (.refl _) (.cons (.refl _) (.cons (.cons (.refl _) (.cons (.refl _) (.cons (.refl _) (.cons (.refl _) (.cons (.p (.sl' (fun h=>h) (.cons (.ceq (Qai _) (.refl _)) (.nil)))) (.cons (.refl _) (.cons (.p (.not)) (.nil)))))))) (.nil)))) rfl
   ·have h:=hk
    refine Qag _ _ h (fun x10 hy=>((Qhs [101,110,100] h0_0 o6.1 o6.2.1 x10 hy).fr [0] [] rfl rfl rfl)) (fun x10 hy h=>?_)
    refine Exists.intro _ (And.intro (Le.refl _ _ _) ?_)
    exact Qa6 (t:=Qd4) (ss:=fun o=>⟨[[.p (.sl false (h0_0.map Qac)),.p (iV o.2.1),.p (bV o.2.2)]],[]⟩) h ⟨[],rfl,.p (.agg' (.cons (.refl _) (.cons (.refl _) (.cons (.refl _) (.cons (.refl _) (.cons (.not) (.cons (.refl _) (.cons (.refl _) (.nil))))))))),.refl _,rfl⟩
  ·refine Qaj h (fun o11 ho hk=>?_)
   refine Exists.intro (JP1 _ _ o11 .normal (Qmm h0_0 h0_1 h0_2)) (And.intro ?_ (join1 ?_))
   ·have h:=ho
    refine Qag _ _ h (fun x12 hy=>((Qbi [101,97,99,104] h0_0 h0_1 h0_2 x12 hy).fr [0] [] rfl rfl rfl)) (fun x12 hy h=>?_)
    refine Qaf h (fun hb h=>?_) (fun hb h=>?_)
    ·refine JP1.a h ?_
     exact Le.tz 2 0 rfl rfl rfl
    ·refine Qag _ _ h (fun x13 hy=>((Qbi [108,101,116] h0_0 h0_1 h0_2 x13 hy).fr [0] [] rfl rfl rfl)) (fun x13 hy h=>?_)
     refine JP1.a h ?_
     exact Le.tz 2 0 rfl rfl rfl
   ·have h:=hk
    refine Qaf h (fun hb h=>?_) (fun hb h=>?_)
    ·refine Qaj h (fun o14 ho hk=>?_)
     refine Exists.intro (JP1 _ _ o14 .normal (Qmn h0_0 h0_1 h0_2)) (And.intro ?_ (join1 ?_))
     ·have h:=ho
      refine Qag _ _ h (fun x15 hy=>((Qbi [108,101,116] h0_0 h0_1 h0_2 x15 hy).fr [0] [] rfl rfl rfl)) (fun x15 hy h=>?_)
      refine Qaf h (fun hb h=>?_) (fun hb h=>?_)
      ·refine JP1.a h ?_
       exact Le.tz 3 0 rfl rfl rfl
      ·refine JP1.a h ?_
       exact Le.tz 3 0 rfl rfl rfl
     ·have h:=hk
      refine Qag _ _ h (fun x16 hy=>((Qak true h0_0 h0_1 h0_2 x16 hy).fr [0] [] rfl rfl rfl)) (fun x16 hy h=>?_)
      refine Qag _ _ h (fun x17 hy=>((Qg1 h0_0 x16.2.1 x16.2.2 x17 hy).fr [0] [] rfl rfl rfl)) (fun x17 hy h=>?_)
      refine Qaj h (fun o18 ho hk=>?_)
      refine Exists.intro (JP1 _ _ o18 .normal (Qmo h0_0 o14 x17)) (And.intro ?_ (join1 ?_))
      ·have h:=ho
       refine Qaf h (fun hb h=>?_) (fun hb h=>?_)
       ·refine Qag _ _ h (fun x19 hy=>((Qbi [105,110] h0_0 x17.2.1 x17.2.2 x19 hy).fr [0] [] rfl rfl rfl)) (fun x19 hy h=>?_)
        refine Qag _ _ h (fun x20 hy=>((Qak x19 h0_0 x17.2.1 x17.2.2 x20 hy).fr [0] [] rfl rfl rfl)) (fun x20 hy h=>?_)
        refine JP1.a h ?_
        exact Le.tz 3 0 rfl rfl rfl
       ·refine Qag _ _ h (fun x21 hy=>((Qap 11 h0_0 x17.2.1 x17.2.2 x21 hy).fr [0] [] rfl rfl rfl)) (fun x21 hy h=>?_)
        refine Qag _ _ h (fun x22 hy=>((Qak x21 h0_0 x17.2.1 x17.2.2 x22 hy).fr [0] [] rfl rfl rfl)) (fun x22 hy h=>?_)
        refine JP1.a h ?_
        exact Le.tz 3 0 rfl rfl rfl
      ·have h:=hk
       refine Qag _ _ h (fun x23 hy=>((Qg2 h0_0 o18.1 o18.2 x23 hy).fr [0] [] rfl rfl rfl)) (fun x23 hy h=>?_)
       refine Qag _ _ h (fun x24 hy=>((Qeb h0_0 x23.2.1 x23.2.2 x24 hy).fr [0] [] rfl rfl rfl)) (fun x24 hy h=>?_)
       refine Qag _ _ h (fun x25 hy=>((iQas true false x24.1 x24.2 x25 hy).fr [0] [] rfl rfl rfl)) (fun x25 hy h=>?_)
       refine Qag _ _ h (fun x26 hy=>((Qhs [101,110,100] h0_0 x25.2.1 x25.2.2 x26 hy).fr [0] [] rfl rfl rfl)) (fun x26 hy h=>?_)
       refine Exists.intro _ (And.intro (Le.refl _ _ _) ?_)
       exact Qa6 (t:=Qd4) (ss:=fun o=>⟨[[.p (.sl false (h0_0.map Qac)),.p (iV o.2.1),.p (bV o.2.2)]],[]⟩) h ⟨[],rfl,.p (.agg' (.cons (.refl _) (.cons (.refl _) (.cons (.refl _) (.cons (.refl _) (.cons (.no (.cons (.ceq (Qai _) (.refl _)) (.nil))) (.cons (.refl _) (.cons (.not) (.nil))))))))),.refl _,rfl⟩
    ·refine Qaj h (fun o27 ho hk=>?_)
     refine Exists.intro (JP1 _ _ o27 .normal (Qmp h0_0)) (And.intro ?_ (join1 ?_))
     ·have h:=ho
      refine Qag _ _ h (fun x28 hy=>((Qbi [117,115,101] h0_0 h0_1 h0_2 x28 hy).fr [0] [] rfl rfl rfl)) (fun x28 hy h=>?_)
      refine Qaf h (fun hb h=>?_) (fun hb h=>?_)
      ·refine Qag _ _ h (fun x29 hy=>((Qak true h0_0 h0_1 h0_2 x29 hy).fr [0] [] rfl rfl rfl)) (fun x29 hy h=>?_)
       refine Qag _ _ h (fun x30 hy=>((Qg1 h0_0 x29.2.1 x29.2.2 x30 hy).fr [0] [] rfl rfl rfl)) (fun x30 hy h=>?_)
       refine JP1.a h ?_
       exact Le.tz 3 0 rfl rfl rfl
      ·refine JP1.a h ?_
       exact Le.tz 3 0 rfl rfl rfl
     ·have h:=hk
      refine Qag _ _ h (fun x31 hy=>((Qg2 h0_0 o27.1 o27.2.1 x31 hy).fr [0] [] rfl rfl rfl)) (fun x31 hy h=>?_)
      refine Qag _ _ h (fun x32 hy=>((Qeb h0_0 x31.2.1 x31.2.2 x32 hy).fr [0] [] rfl rfl rfl)) (fun x32 hy h=>?_)
      refine Exists.intro _ (And.intro (Le.refl _ _ _) ?_)
      exact Qa6 (t:=Qd4) (ss:=fun o=>⟨[[.p (.sl false (h0_0.map Qac)),.p (iV o.2.1),.p (bV o.2.2)]],[]⟩) h ⟨[],rfl,.p (.agg' (.cons (.refl _) (.cons (.refl _) (.cons (.refl _) (.cons (.refl _) (.cons (.no (.cons (.ceq (Qai _) (.refl _)) (.nil))) (.cons (.not) (.cons (.not) (.nil))))))))),.refl _,rfl⟩
theorem Qps:∀ (p1:Bool) (p2:Bool) (h0_0:(List Qab)) (h0_1:Int) (h0_2:Bool) (o:(List Qaa)×Int×Bool),Qas p1 p2 h0_0 h0_1 h0_2=some o→CallOK Tryz.prog 21 [.ptr 0 0,.p (bV p1),.p (bV p2)] ⟨[[.p (.sl false (h0_0.map Qac)),.p (iV h0_1),.p (bV h0_2)]],[]⟩ (Qes o) ⟨[[.p (.sl false (h0_0.map Qac)),.p (iV o.2.1),.p (bV o.2.2)]],[]⟩:=fun p1 p2 h0_0 h0_1 h0_2=>(Qo2 h0_0).1 p1 p2 h0_1 h0_2
noncomputable def Qnt (p0:(List UInt8)):Option ((List Qaa)×Int×Int) :=
 Qld p0>>=fun x1 =>
 if(x1.2.2 != 0) then
  some ([],x1.2.1,x1.2.2)
 else
  Qas false false x1.1 0 false>>=fun x2 =>
  if x2.2.2 then
   if(decide (x2.2.1<(x1.1.length:Int))) then
    idx x1.1 x2.2.1>>=fun x3 =>
    some ([],x3.From,7)
   else
    some ([],(p0.length:Int),7)
  else
   Qe5 x2.1>>=fun x4 =>
   if(decide (x4>1024)) then
    some ([],0,5)
   else
    Qgz x2.1>>=fun x5 =>
    if(decide (x5>12)) then
     some ([],0,8)
    else
     some (x2.1,0,0)
theorem Qz2:∀ (p0:(List UInt8)) (o:(List Qaa)×Int×Int),Qnt p0=some o→PCall Tryz.prog 8 [sV p0] (Qez o):=by
 intro p0 o h
 unfold Qnt at h
 refine PCall.ofB mixed tbOk Qzs Tryz.func8 rfl (by kernel_rfl) (Nat.le_of_ble_eq_true rfl) ?_
 refine Qar [sV p0] Qid h (fun x1 hy=>(Qx1 p0 x1 hy)) (fun x1 hy h=>?_)
 refine Qaf h (fun hb h=>?_) (fun hb h=>?_)
 ·refine Qat (t:=Qez) h ?_
  exact .tup (xs:=[.sl true [],iV x1.2.1,iV x1.2.2]) (ys:=[.sl false [],iV x1.2.1,iV x1.2.2]) (.cons (.not) (.cons (.refl _) (.cons (.refl _) (.nil))))
 ·refine Qag _ _ h (fun x2 hy=>((Qps false false x1.1 0 false x2 hy).fr [0] [] rfl rfl rfl)) (fun x2 hy h=>?_)
  refine Qaf h (fun hb h=>?_) (fun hb h=>?_)
  ·refine view (lenMap _ _) rfl ?_
   refine Qaf h (fun hb h=>?_) (fun hb h=>?_)
   ·refine And.intro (by decide +kernel) (And.intro rfl ?_)
    refine Qcz (l:=x1.1) (c:=Qac) (c' := Qac) h (fun _=>rfl) (fun _=>rfl) (by decide) (fun x3 hi h=>?_)
    refine Qat (t:=Qez) h ?_
    exact .tup (xs:=[.sl true [],iV x3.From,iV 7]) (ys:=[.sl false [],iV x3.From,iV 7]) (.cons (.not) (.cons (.refl _) (.cons (.refl _) (.nil))))
   ·refine vrfl ?_
    refine Qat (t:=Qez) h ?_
    exact .tup (xs:=[.sl true [],iV (p0.length:Int),iV 7]) (ys:=[.sl false [],iV (p0.length:Int),iV 7]) (.cons (.not) (.cons (.refl _) (.cons (.refl _) (.nil))))
  ·refine Qar [.sl false (x2.1.map Qae)] Qf2 h (fun x4 hy=>(Qzy x2.1 x4 hy)) (fun x4 hy h=>?_)
   refine Qaf h (fun hb h=>?_) (fun hb h=>?_)
   ·refine Qat (t:=Qez) h ?_
    exact .tup (xs:=[.sl true [],iV 0,iV 5]) (ys:=[.sl false [],iV 0,iV 5]) (.cons (.not) (.cons (.refl _) (.cons (.refl _) (.nil))))
   ·refine Qar [.sl false (x2.1.map Qae)] Qhm h (fun x5 hy=>(Q1h x2.1 x5 hy)) (fun x5 hy h=>?_)
    refine Qaf h (fun hb h=>?_) (fun hb h=>?_)
    ·refine Qat (t:=Qez) h ?_
     exact .tup (xs:=[.sl true [],iV 0,iV 8]) (ys:=[.sl false [],iV 0,iV 8]) (.cons (.not) (.cons (.refl _) (.cons (.refl _) (.nil))))
    ·refine Qat (t:=Qez) h ?_
     exact .refl _
noncomputable def Qqt (p0:(List UInt8)):Option (Qaa×Int×Int) :=
 need ([123,123,32].length+p0.length≤9223372036854775807)>>=fun _ =>
 need (([123,123,32]++p0).length+[32,125,125].length≤9223372036854775807)>>=fun _ =>
 Qnt (([123,123,32]++p0)++[32,125,125])>>=fun x1 =>
 if(x1.2.2 != 0) then
  some ((Qaa.mk 0 [] [] 0 [] [] []),(if(p0.length:Int)<(if 0>(wr (x1.2.1-3)) then 0 else(wr (x1.2.1-3))) then(p0.length:Int) else(if 0>(wr (x1.2.1-3)) then 0 else(wr (x1.2.1-3)))),x1.2.2)
 else
  ( if((x1.1.length:Int) != 1) then
    some true
   else
    idx x1.1 0>>=fun x3 =>
    some (x3.Kind != 9):Option (Bool))>>=fun o2 =>
  if o2 then
   some ((Qaa.mk 0 [] [] 0 [] [] []),0,7)
  else
   idx x1.1 0>>=fun x4 =>
   idx x4.L 0>>=fun x5 =>
   some (x5,0,0)
theorem Q1k:∀ (p0:(List UInt8)) (o:Qaa×Int×Int),Qqt p0=some o→PCall Tryz.prog 13 [sV p0] (Qk6 o):=by
 intro p0 o h
 unfold Qqt at h
 refine PCall.ofB mixed tbOk Q1c Tryz.func13 rfl (by kernel_rfl) (Nat.le_of_ble_eq_true rfl) ?_
 refine Qkk h (fun h=>?_)
 refine Qkk h (fun h=>?_)
 refine Qar [sV (([123,123,32]++p0)++[32,125,125])] Qez h (fun x1 hy=>(Qz2 (([123,123,32]++p0)++[32,125,125]) x1 hy)) (fun x1 hy h=>?_)
 refine Qaf h (fun hb h=>?_) (fun hb h=>?_)
 ·refine vrfl ?_
  refine Qat (t:=Qk6) h ?_
  exact .tup (xs:=[.agg [iV 0,sV [],sV [],iV 0,.sl true [],.sl true [],.sl true []],iV (if(p0.length:Int)<(if 0>(wr (x1.2.1-3)) then 0 else(wr (x1.2.1-3))) then(p0.length:Int) else(if 0>(wr (x1.2.1-3)) then 0 else(wr (x1.2.1-3)))),iV x1.2.2]) (ys:=[.agg [iV 0,sV [],sV [],iV 0,.sl false [],.sl false [],.sl false []],iV (if(p0.length:Int)<(if 0>(wr (x1.2.1-3)) then 0 else(wr (x1.2.1-3))) then(p0.length:Int) else(if 0>(wr (x1.2.1-3)) then 0 else(wr (x1.2.1-3)))),iV x1.2.2]) (.cons (.agg' (.cons (.refl _) (.cons (.refl _) (.cons (.refl _) (.cons (.refl _) (.cons (.not) (.cons (.not) (.cons (.not) (.nil))))))))) (.cons (.refl _) (.cons (.refl _) (.nil))))
 ·refine Qaj h (fun o2 ho hk=>?_)
  refine Exists.intro (JP1 _ _ o2 .normal (Qxk x1)) (And.intro ?_ (join1 ?_))
  ·have h:=ho
   refine view (lenMap _ _) rfl ?_
   refine Qaf h (fun hb h=>?_) (fun hb h=>?_)
   ·refine JP1.a h ?_
    exact Le.tz 1 0 rfl rfl rfl
   ·refine Qcz (l:=x1.1) (c:=Qae) (c' := Qba) h Qai (fun _=>rfl) (by decide) (fun x3 hi h=>?_)
    refine JP1.a h ?_
    exact Le.tz 1 0 rfl rfl rfl
  ·have h:=hk
   refine Qaf h (fun hb h=>?_) (fun hb h=>?_)
   ·refine Qat (t:=Qk6) h ?_
    exact .tup (xs:=[.agg [iV 0,sV [],sV [],iV 0,.sl true [],.sl true [],.sl true []],iV 0,iV 7]) (ys:=[.agg [iV 0,sV [],sV [],iV 0,.sl false [],.sl false [],.sl false []],iV 0,iV 7]) (.cons (.agg' (.cons (.refl _) (.cons (.refl _) (.cons (.refl _) (.cons (.refl _) (.cons (.not) (.cons (.not) (.cons (.not) (.nil))))))))) (.cons (.refl _) (.cons (.refl _) (.nil))))
   ·refine Qcz (l:=x1.1) (c:=Qae) (c' := Qba) h Qai (fun _=>rfl) (by decide) (fun x4 hi h=>?_)
    refine Qcz (l:=x4.L) (c:=Qae) (c' := Qba) h Qai (fun _=>rfl) (by decide) (fun x5 hi h=>?_)
    refine Qat (t:=Qk6) h ?_
    exact .refl _
noncomputable def Qb3 (p0:(List UInt8)) (p1:(List UInt8)):Option (Bool) :=
 ( if(decide ((p0.length:Int) ≥ (p1.length:Int))) then
   cutL p0 0 (p1.length:Int)>>=fun x2 =>
   some (x2==p1)
  else
   some false:Option (Bool))>>=fun o1 =>
 some o1
theorem Qg3:∀ (p0:(List UInt8)) (p1:(List UInt8)) (o:Bool),Qb3 p0 p1=some o→PCall Tryz.prog 83 [sV p0,sV p1] (Qcg o):=by
 intro p0 p1 o h
 unfold Qb3 at h
 refine PCall.ofB mixed tbOk Qgp Tryz.func83 rfl (by kernel_rfl) (Nat.le_of_ble_eq_true rfl) ?_
 refine Qaj h (fun o1 ho hk=>?_)
 refine Exists.intro (JP1 _ _ o1 .normal (Qf3 )) (And.intro ?_ (join1 ?_))
 ·have h:=ho
  refine vrfl ?_
  refine vrfl ?_
  refine Qaf h (fun hb h=>?_) (fun hb h=>?_)
  ·refine vrfl ?_
   refine Qd3 none (some (p1.length:Int)) h (fun x2 hi h=>?_)
   refine JP1.a h ?_
   exact Le.tz 0 0 rfl rfl rfl
  ·refine JP1.a h ?_
   exact Le.tz 0 0 rfl rfl rfl
 ·have h:=hk
  refine Qat (t:=Qcg) h ?_
  exact .refl _
noncomputable def Qci (p0:(List UInt8)) (p1:(List UInt8)):Option (Int) :=
 need (p0.length<4294967281)>>=fun _ =>
 some (Lib.index p0 p1)
theorem Qi4:∀ (p0:(List UInt8)) (p1:(List UInt8)) (o:Int),Qci p0 p1=some o→PCall Tryz.prog 48 [sV p0,sV p1] (Qet o):=by
 intro p0 p1 o h
 unfold Qci at h
 obtain⟨h1,h⟩:=Qm3 h
 cases h
 exact Q6c _ _ h1
noncomputable def Qfx (p0:(List UInt8)) (p1:(List UInt8)):Option ((List UInt8)) :=
 need (p1.length<4294967281)>>=fun _ =>
 need (p1.all (fun b=>decide (b.toNat<128))=true)>>=fun _ =>
 some (Lib.trimLeftS p0 p1)
theorem Qpt:∀ (p0:(List UInt8)) (p1:(List UInt8)) (o:(List UInt8)),Qfx p0 p1=some o→PCall Tryz.prog 49 [sV p0,sV p1] (Qke o):=by
 intro p0 p1 o h
 unfold Qfx at h
 obtain⟨h1,h⟩:=Qm3 h
 obtain⟨h2,h⟩:=Qm3 h
 cases h
 exact Q06 _ _ h1 h2
noncomputable def Qce (h0_0:(List UInt8)) (h0_1:Int) (h0_2:(List Qab)):Option (Int) :=
 cutL h0_0 h0_1 (h0_0.length:Int)>>=fun x1 =>
 Qfx x1 [32,9,10,13]>>=fun x2 =>
 some (wr ((h0_0.length:Int)-(x2.length:Int)))
theorem Qg4:∀ (h0_0:(List UInt8)) (h0_1:Int) (h0_2:(List Qab)) (o:Int),Qce h0_0 h0_1 h0_2=some o→CallOK Tryz.prog 28 [.ptr 0 0] ⟨[[.p (sV h0_0),.p (iV h0_1),.own 0 59 5 (h0_2.map Qac)]],[(h0_2.map Qac).length]⟩ (Qhd o) ⟨[[.p (sV h0_0),.p (iV o),.own 0 59 5 (h0_2.map Qac)]],[(h0_2.map Qac).length]⟩:=by
 intro h0_0 h0_1 h0_2 o h
 unfold Qce at h
 refine CallOK.ofB mixed tbOk Qly Tryz.func28 rfl (by kernel_rfl) (Nat.le_of_ble_eq_true rfl) rfl rfl rfl ?_
 refine And.intro (by decide +kernel) (And.intro rfl ?_)
 refine vrfl ?_
 refine Qd3 (some h0_1) none h (fun x1 hi h=>?_)
 refine Qfs [sV x1,sV [32,9,10,13]] Qke h (fun x2 hy=>(Qpt x1 [32,9,10,13] x2 hy)) (fun x2 hy h=>?_)
 refine vrfl ?_
 refine Exists.intro _ (And.intro (Le.refl _ _ _) ?_)
 exact Qa6 (t:=Qhd) (ss:=fun o=>⟨[[.p (sV h0_0),.p (iV o),.own 0 59 5 (h0_2.map Qac)]],[(h0_2.map Qac).length]⟩) h ⟨[0],rfl,.refl _,.refl _,rfl⟩
noncomputable def Qa0 (p1:Int) (p2:(List UInt8)) (p3:Int) (p4:Int) (h0_0:(List UInt8)) (h0_1:Int) (h0_2:(List Qab)):Option (Int×(List Qab)) :=
 appL 48 h0_2 [(Qab.mk p1 p2 p3 h0_1 (wr (h0_1+p4)))]>>=fun x1 =>
 some ((wr (h0_1+p4)),x1)
theorem Qb1:∀ (p1:Int) (p2:(List UInt8)) (p3:Int) (p4:Int) (h0_0:(List UInt8)) (h0_1:Int) (h0_2:(List Qab)) (o:Int×(List Qab)),Qa0 p1 p2 p3 p4 h0_0 h0_1 h0_2=some o→CallOK Tryz.prog 27 [.ptr 0 0,.p (iV p1),.p (sV p2),.p (iV p3),.p (iV p4)] ⟨[[.p (sV h0_0),.p (iV h0_1),.own 0 59 5 (h0_2.map Qac)]],[(h0_2.map Qac).length]⟩ (Qju o) ⟨[[.p (sV h0_0),.p (iV o.1),.own 0 59 5 (o.2.map Qac)]],[(o.2.map Qac).length]⟩:=by
 intro p1 p2 p3 p4 h0_0 h0_1 h0_2 o h
 unfold Qa0 at h
 refine CallOK.ofB mixed tbOk Qot Tryz.func27 rfl (by kernel_rfl) (Nat.le_of_ble_eq_true rfl) rfl rfl rfl ?_
 refine And.intro (by decide +kernel) (And.intro rfl ?_)
 refine Qpf (a:=h0_2) (b:=[(Qab.mk p1 p2 p3 h0_1 (wr (h0_1+p4)))]) (c:=Qac) h (.refl _) (fun _=>rfl) rfl (fun x1 hi h=>?_)
 refine Exists.intro _ (And.intro (Le.refl _ _ _) ?_)
 exact Qa6 (t:=Qju) (ss:=fun o=>⟨[[.p (sV h0_0),.p (iV o.1),.own 0 59 5 (o.2.map Qac)]],[(o.2.map Qac).length]⟩) h ⟨[0],rfl,.refl _,.refl _,rfl⟩
noncomputable def Qim (p0:Int):Option (Bool) :=
 ( if(decide (p0 ≥ 48)) then
   some (decide (p0≤57))
  else
   some false:Option (Bool))>>=fun o1 =>
 some o1
theorem Qkh:∀ (p0:Int) (o:Bool),Qim p0=some o→PCall Tryz.prog 52 [nV .u8 p0] (Qhp o):=by
 intro p0 o h
 unfold Qim at h
 refine PCall.ofB mixed tbOk Qzt Tryz.func52 rfl (by kernel_rfl) (Nat.le_of_ble_eq_true rfl) ?_
 refine Qaj h (fun o1 ho hk=>?_)
 refine Exists.intro (JP1 _ _ o1 .normal (Qvd )) (And.intro ?_ (join1 ?_))
 ·have h:=ho
  refine Qaf h (fun hb h=>?_) (fun hb h=>?_)
  ·refine JP1.a h ?_
   exact Le.tz 0 0 rfl rfl rfl
  ·refine JP1.a h ?_
   exact Le.tz 0 0 rfl rfl rfl
 ·have h:=hk
  refine Qat (t:=Qhp) h ?_
  exact .refl _
noncomputable def Qht (p0:Int):Option (Bool) :=
 ( if(decide (p0 ≥ 97)) then
   if(decide (p0≤122)) then
    some true
   else
    Qim p0>>=fun x2 =>
    if x2 then
     some true
    else
     some (p0==95)
  else
   Qim p0>>=fun x3 =>
   if x3 then
    some true
   else
    some (p0==95):Option (Bool))>>=fun o1 =>
 some o1
theorem Ql9:∀ (p0:Int) (o:Bool),Qht p0=some o→PCall Tryz.prog 54 [nV .u8 p0] (Qif o):=by
 intro p0 o h
 unfold Qht at h
 refine PCall.ofB mixed tbOk Qxm Tryz.func54 rfl (by kernel_rfl) (Nat.le_of_ble_eq_true rfl) ?_
 refine Qaj h (fun o1 ho hk=>?_)
 refine Exists.intro (JP1 _ _ o1 .normal (Qt9 )) (And.intro ?_ (join1 ?_))
 ·have h:=ho
  refine Qaf h (fun hb h=>?_) (fun hb h=>?_)
  ·refine Qaf h (fun hb h=>?_) (fun hb h=>?_)
   ·refine bT ?_
    refine JP1.a h ?_
    exact Le.tz 0 0 rfl rfl rfl
   ·refine Qar [nV .u8 p0] Qhp h (fun x2 hy=>(Qkh p0 x2 hy)) (fun x2 hy h=>?_)
    refine Qaf h (fun hb h=>?_) (fun hb h=>?_)
    ·refine JP1.a h ?_
     exact Le.tz 0 0 rfl rfl rfl
    ·refine JP1.a h ?_
     exact Le.tz 0 0 rfl rfl rfl
  ·refine bF ?_
   refine Qar [nV .u8 p0] Qhp h (fun x3 hy=>(Qkh p0 x3 hy)) (fun x3 hy h=>?_)
   refine Qaf h (fun hb h=>?_) (fun hb h=>?_)
   ·refine JP1.a h ?_
    exact Le.tz 0 0 rfl rfl rfl
   ·refine JP1.a h ?_
    exact Le.tz 0 0 rfl rfl rfl
 ·have h:=hk
  refine Qat (t:=Qif) h ?_
  exact .refl _
noncomputable def Qaz (h0_0:(List UInt8)) (h0_1:Int) (h0_2:(List Qab)) (v7:Int):Option (Int) :=
 ( if(decide (v7<(h0_0.length:Int))) then
   idx h0_0 v7>>=fun x3 =>
   Qim (x3.toNat:Int)>>=fun x4 =>
   some x4
  else
   some false:Option (Bool))>>=fun o2 =>
 if o2 then
  Qaz h0_0 h0_1 h0_2 (wr (v7+1))
 else
  some v7
 partial_fixpoint
theorem Qg7:∀ (h0_0:(List UInt8)) (h0_1:Int) (h0_2:(List Qab)),(∀ (v7:Int) (o1:Int),Qaz h0_0 h0_1 h0_2 v7=some o1→TL (1,1) Tryz.prog 38 Qdy (JP1 (1,1) 38 o1 (.exit 0) (Qcn h0_0 h0_1 h0_2)) (Qbz h0_0 h0_1 h0_2 v7)):=by
 intro h0_0 h0_1 h0_2
 refine Qaz.partial_correctness h0_0 h0_1 h0_2 _ ?_
 intro Qaz' iQaz v7 o1 h
 refine TL.round (Qam mixed tbOk (lv:=Qev) _ _ _ ?_)
 refine Qaj h (fun o2 ho hk=>?_)
 refine Exists.intro (JP1 _ _ o2 .normal (Qig h0_0 h0_1 h0_2 v7)) (And.intro ?_ (join1 ?_))
 ·have h:=ho
  refine vrfl ?_
  refine Qaf h (fun hb h=>?_) (fun hb h=>?_)
  ·refine Qcm h (fun x3 hi h=>?_)
   refine Qar [nV .u8 (x3.toNat:Int)] Qhp h (fun x4 hy=>(Qkh (x3.toNat:Int) x4 hy)) (fun x4 hy h=>?_)
   refine JP1.a h ?_
   exact Le.tz 1 1 rfl rfl rfl
  ·refine JP1.a h ?_
   exact Le.tz 1 1 rfl rfl rfl
 ·have h:=hk
  refine Qaf h (fun hb h=>?_) (fun hb h=>?_)
  ·refine TL.le (τ := Qbz h0_0 h0_1 h0_2 (wr (v7+1))) ?_ ((iQaz (wr (v7+1)) _ h))
   exact Le.tz 1 1 rfl rfl rfl
  ·exact JP1.a h (Le.tz 1 1 rfl rfl rfl)
theorem Qhu:∀ (h0_0:(List UInt8)) (h0_1:Int) (h0_2:(List Qab)) (v7:Int) (o1:Int),Qaz h0_0 h0_1 h0_2 v7=some o1→TL (1,1) Tryz.prog 38 Qdy (JP1 (1,1) 38 o1 (.exit 0) (Qcn h0_0 h0_1 h0_2)) (Qbz h0_0 h0_1 h0_2 v7):=fun h0_0 h0_1 h0_2 v7=>(Qg7 h0_0 h0_1 h0_2) v7
noncomputable def Qcr (p1:Int) (h0_0:(List UInt8)) (h0_1:Int) (h0_2:(List Qab)):Option ((List UInt8)) :=
 (Qaz h0_0 h0_1 h0_2 p1)>>=fun o1 =>
 cutL h0_0 h0_1 o1>>=fun x5 =>
 some x5
theorem Qjg:∀ (p1:Int) (h0_0:(List UInt8)) (h0_1:Int) (h0_2:(List Qab)) (o:(List UInt8)),Qcr p1 h0_0 h0_1 h0_2=some o→CallOK Tryz.prog 89 [.ptr 0 0,.p (iV p1),.fn (.func 52) [] []] ⟨[[.p (sV h0_0),.p (iV h0_1),.own 0 59 5 (h0_2.map Qac)]],[(h0_2.map Qac).length]⟩ (Qe1 o) ⟨[[.p (sV h0_0),.p (iV h0_1),.own 0 59 5 (h0_2.map Qac)]],[(h0_2.map Qac).length]⟩:=by
 intro p1 h0_0 h0_1 h0_2 o h
 unfold Qcr at h
 refine CallOK.ofB mixed tbOk Qev Tryz.func89 rfl (by kernel_rfl) (Nat.le_of_ble_eq_true rfl) rfl rfl rfl ?_
 refine Qaj h (fun o1 ho hk=>?_)
 refine Exists.intro (JP1 _ _ o1 (.exit 0) (Qcn h0_0 h0_1 h0_2)) (And.intro (T_le (τ := Qbz h0_0 h0_1 h0_2 p1) ?_ (TL.loop (Qhu h0_0 h0_1 h0_2 p1 o1 ho))) (join1 ?_))
 ·exact Le.tz 1 1 rfl rfl rfl
 have h:=hk
 refine And.intro (by decide +kernel) (And.intro rfl ?_)
 refine Qd3 (some h0_1) (some o1) h (fun x5 hi h=>?_)
 refine Exists.intro _ (And.intro (Le.refl _ _ _) ?_)
 exact Qa6 (t:=Qe1) (ss:=fun o=>⟨[[.p (sV h0_0),.p (iV h0_1),.own 0 59 5 (h0_2.map Qac)]],[(h0_2.map Qac).length]⟩) h ⟨[0],rfl,.refl _,.refl _,rfl⟩
noncomputable def Qki (p0:(List UInt8)):Option (Int×Bool) :=
 need (p0.length≤9223372036854775807)>>=fun _ =>
 some (numP p0)
theorem Quo:∀ (p0:(List UInt8)) (o:Int×Bool),Qki p0=some o→PCall Tryz.prog 90 [sV p0] (Qo9 o):=by
 intro p0 o h
 unfold Qki at h
 obtain⟨h1,h⟩:=Qm3 h
 cases h
 exact Q47 _ h1
noncomputable def Qdd (h0_0:(List UInt8)) (h0_1:Int) (h0_2:(List Qab)):Option (Bool×Int×(List Qab)) :=
 Qcr (wr (h0_1+1)) h0_0 h0_1 h0_2>>=fun x1 =>
 Qki x1>>=fun x2 =>
 if x2.2 then
  Qa0 6 [] x2.1 (x1.length:Int) h0_0 h0_1 h0_2>>=fun x3 =>
  some (x2.2,x3.1,x3.2)
 else
  some (x2.2,h0_1,h0_2)
theorem Qnu:∀ (h0_0:(List UInt8)) (h0_1:Int) (h0_2:(List Qab)) (o:Bool×Int×(List Qab)),Qdd h0_0 h0_1 h0_2=some o→CallOK Tryz.prog 53 [.ptr 0 0] ⟨[[.p (sV h0_0),.p (iV h0_1),.own 0 59 5 (h0_2.map Qac)]],[(h0_2.map Qac).length]⟩ (Qfj o) ⟨[[.p (sV h0_0),.p (iV o.2.1),.own 0 59 5 (o.2.2.map Qac)]],[(o.2.2.map Qac).length]⟩:=by
 intro h0_0 h0_1 h0_2 o h
 unfold Qdd at h
 refine CallOK.ofB mixed tbOk Qnj Tryz.func53 rfl (by kernel_rfl) (Nat.le_of_ble_eq_true rfl) rfl rfl rfl ?_
 refine Qag _ _ h (fun x1 hy=>((Qjg (wr (h0_1+1)) h0_0 h0_1 h0_2 x1 hy).fr [0] [0] rfl rfl rfl)) (fun x1 hy h=>?_)
 refine Qar [sV x1] Qo9 h (fun x2 hy=>(Quo x1 x2 hy)) (fun x2 hy h=>?_)
 refine Qaf h (fun hb h=>?_) (fun hb h=>?_)
 ·refine vrfl ?_
  refine Qag _ _ h (fun x3 hy=>((Qb1 6 [] x2.1 (x1.length:Int) h0_0 h0_1 h0_2 x3 hy).fr [0] [0] rfl rfl rfl)) (fun x3 hy h=>?_)
  refine Exists.intro _ (And.intro (Le.refl _ _ _) ?_)
  exact Qa6 (t:=Qfj) (ss:=fun o=>⟨[[.p (sV h0_0),.p (iV o.2.1),.own 0 59 5 (o.2.2.map Qac)]],[(o.2.2.map Qac).length]⟩) h ⟨[0],rfl,.refl _,.refl _,rfl⟩
 ·refine Exists.intro _ (And.intro (Le.refl _ _ _) ?_)
  exact Qa6 (t:=Qfj) (ss:=fun o=>⟨[[.p (sV h0_0),.p (iV o.2.1),.own 0 59 5 (o.2.2.map Qac)]],[(o.2.2.map Qac).length]⟩) h ⟨[0],rfl,.refl _,.refl _,rfl⟩
noncomputable def Qbe (h0_0:(List UInt8)) (h0_1:Int) (h0_2:(List Qab)) (v13:Int):Option (Unit⊕(Int×(List Qab))) :=
 if(decide (v13<5)) then
  idx ([(Qir.mk 46 7),(Qir.mk 40 8),(Qir.mk 41 9),(Qir.mk 44 10),(Qir.mk 61 11)]:List Qir) v13>>=fun x4 =>
  idx h0_0 h0_1>>=fun x5 =>
  if((x5.toNat:Int)==x4.c_) then
   Qa0 x4.k_ [] 0 1 h0_0 h0_1 h0_2>>=fun x6 =>
   some (.inr (x6.1,x6.2))
  else
   Qbe h0_0 h0_1 h0_2 (wr (v13+1))
 else
  some (.inl ())
 partial_fixpoint
theorem Qma:∀ (h0_0:(List UInt8)) (h0_1:Int) (h0_2:(List Qab)),(∀ (v13:Int) (o1:Unit⊕(Int×(List Qab))),Qbe h0_0 h0_1 h0_2 v13=some o1→TL (1,1) Tryz.prog 33 Qih (JP2 (1,1) 33 o1 (.exit 0) (Qeo h0_0 h0_1 h0_2) .ret (Qep h0_0 h0_1 h0_2)) (Qc6 h0_0 h0_1 h0_2 v13)):=by
 intro h0_0 h0_1 h0_2
 refine Qbe.partial_correctness h0_0 h0_1 h0_2 _ ?_
 intro Qbe' iQbe v13 o1 h
 refine TL.round (Qam mixed tbOk (lv:=Qjv) _ _ _ ?_)
 refine Qaf h (fun hb h=>?_) (fun hb h=>?_)
 ·refine Q6b (l:=([(Qir.mk 46 7),(Qir.mk 40 8),(Qir.mk 41 9),(Qir.mk 44 10),(Qir.mk 61 11)]:List Qir)) (c:=fun x4=>[nV .u8 x4.c_,iV x4.k_]) h rfl rfl rfl (fun _=>rfl) rfl (fun x4 hi h=>?_)
  refine And.intro (by decide +kernel) (And.intro rfl ?_)
  refine Qcm h (fun x5 hi h=>?_)
  refine Qaf h (fun hb h=>?_) (fun hb h=>?_)
  ·refine Qag _ _ h (fun x6 hy=>((Qb1 x4.k_ [] 0 1 h0_0 h0_1 h0_2 x6 hy).fr [0] [0] rfl rfl rfl)) (fun x6 hy h=>?_)
   exact JP2.b h (Le.tz 2 1 rfl rfl rfl)
  ·refine TL.le (τ := Qc6 h0_0 h0_1 h0_2 (wr (v13+1))) ?_ ((iQbe (wr (v13+1)) _ h))
   exact Le.tz 2 1 rfl rfl rfl
 ·exact JP2.a h (Le.tz 2 1 rfl rfl rfl)
theorem Qmx:∀ (h0_0:(List UInt8)) (h0_1:Int) (h0_2:(List Qab)) (v13:Int) (o1:Unit⊕(Int×(List Qab))),Qbe h0_0 h0_1 h0_2 v13=some o1→TL (1,1) Tryz.prog 33 Qih (JP2 (1,1) 33 o1 (.exit 0) (Qeo h0_0 h0_1 h0_2) .ret (Qep h0_0 h0_1 h0_2)) (Qc6 h0_0 h0_1 h0_2 v13):=fun h0_0 h0_1 h0_2 v13=>(Qma h0_0 h0_1 h0_2) v13
noncomputable def Qeh (h0_0:(List UInt8)) (h0_1:Int) (h0_2:(List Qab)):Option (Bool×Int×(List Qab)) :=
 (Qbe h0_0 h0_1 h0_2 0)>>=fun o1 =>
 match o1 with
 | .inl y2 =>
  some (false,h0_1,h0_2)
 | .inr y3 =>
  some (true,y3.1,y3.2)
theorem Qpu:∀ (h0_0:(List UInt8)) (h0_1:Int) (h0_2:(List Qab)) (o:Bool×Int×(List Qab)),Qeh h0_0 h0_1 h0_2=some o→CallOK Tryz.prog 56 [.ptr 0 0] ⟨[[.p (sV h0_0),.p (iV h0_1),.own 0 59 5 (h0_2.map Qac)]],[(h0_2.map Qac).length]⟩ (Qgs o) ⟨[[.p (sV h0_0),.p (iV o.2.1),.own 0 59 5 (o.2.2.map Qac)]],[(o.2.2.map Qac).length]⟩:=by
 intro h0_0 h0_1 h0_2 o h
 unfold Qeh at h
 refine CallOK.ofB mixed tbOk Qjv Tryz.func56 rfl (by kernel_rfl) (Nat.le_of_ble_eq_true rfl) rfl rfl rfl ?_
 refine Qaj h (fun o1 ho hk=>?_)
 refine Exists.intro (JP2 _ _ o1 (.exit 0) (Qeo h0_0 h0_1 h0_2) .ret (Qep h0_0 h0_1 h0_2)) (And.intro (T_le (τ := Qc6 h0_0 h0_1 h0_2 0) ?_ (TL.loop (Qmx h0_0 h0_1 h0_2 0 o1 ho))) (join2 (fun y2 hy=>?_) (fun y3 hy=>?_)))
 ·exact Le.tz 2 1 rfl rfl rfl
 ·have h:=(by rw[hy] at hk; exact hk)
  refine Exists.intro _ (And.intro (Le.refl _ _ _) ?_)
  exact Qa6 (t:=Qgs) (ss:=fun o=>⟨[[.p (sV h0_0),.p (iV o.2.1),.own 0 59 5 (o.2.2.map Qac)]],[(o.2.2.map Qac).length]⟩) h ⟨[0],rfl,.refl _,.refl _,rfl⟩
 ·have h:=(by rw[hy] at hk; exact hk)
  refine Exists.intro _ (And.intro (Le.refl _ _ _) ?_)
  exact Qa6 (t:=Qgs) (ss:=fun o=>⟨[[.p (sV h0_0),.p (iV o.2.1),.own 0 59 5 (o.2.2.map Qac)]],[(o.2.2.map Qac).length]⟩) h ⟨[0],rfl,.refl _,.refl _,rfl⟩
noncomputable def Qj1 (p0:Int):Option (Int×Bool) :=
 if(p0==110) then
  some (10,true)
 else
  if(p0==116) then
   some (9,true)
  else
   ( if(p0==34) then
     some true
    else
     some (p0==92):Option (Bool))>>=fun o1 =>
   some (p0,o1)
theorem Qvp:∀ (p0:Int) (o:Int×Bool),Qj1 p0=some o→PCall Tryz.prog 85 [nV .u8 p0] (Qgr o):=by
 intro p0 o h
 unfold Qj1 at h
 refine PCall.ofB mixed tbOk Qve Tryz.func85 rfl (by kernel_rfl) (Nat.le_of_ble_eq_true rfl) ?_
 refine Qaf h (fun hb h=>?_) (fun hb h=>?_)
 ·refine Qat (t:=Qgr) h ?_
  exact .refl _
 ·refine Qaf h (fun hb h=>?_) (fun hb h=>?_)
  ·refine Qat (t:=Qgr) h ?_
   exact .refl _
  ·refine Qaj h (fun o1 ho hk=>?_)
   refine Exists.intro (JP1 _ _ o1 .normal (Qsk p0)) (And.intro ?_ (join1 ?_))
   ·have h:=ho
    refine Qaf h (fun hb h=>?_) (fun hb h=>?_)
    ·refine JP1.a h ?_
     exact Le.tz 0 0 rfl rfl rfl
    ·refine JP1.a h ?_
     exact Le.tz 0 0 rfl rfl rfl
   ·have h:=hk
    refine Qat (t:=Qgr) h ?_
    exact .refl _
noncomputable def Qbg (h0_0:Bool) (h0_1:(List Int)):Option (Bool) :=
 some true
theorem Qdz:∀ (h0_0:Bool) (h0_1:(List Int)) (o:Bool),Qbg h0_0 h0_1=some o→CallOK Tryz.prog 109 [.ptr 0 0] ⟨[[.sp Tryz.prog 113 h0_0 0 0,.own 0 5 1 (h0_1.map (cNum .u8))]],[(h0_1.map (cNum .u8)).length]⟩ (Qiz o) ⟨[[.sp Tryz.prog 113 o 0 0,.own 0 5 1 (h0_1.map (cNum .u8))]],[(h0_1.map (cNum .u8)).length]⟩:=by
 intro h0_0 h0_1 o h
 unfold Qbg at h
 cases h
 exact Qzi [[.sp Tryz.prog 113 h0_0 0 0,.own 0 5 1 (h0_1.map (cNum .u8))]] _ 0 [.sp Tryz.prog 113 h0_0 0 0,.own 0 5 1 (h0_1.map (cNum .u8))] rfl rfl
noncomputable def Qbx (p1:Int) (h0_0:Bool) (h0_1:(List Int)):Option (Unit×Bool×(List Int)) :=
 Qbg h0_0 h0_1>>=fun x1 =>
 appL 1 h0_1 [p1]>>=fun x2 =>
 some ((),x1,x2)
theorem Qin:∀ (p1:Int) (h0_0:Bool) (h0_1:(List Int)) (o:Unit×Bool×(List Int)),Qbx p1 h0_0 h0_1=some o→CallOK Tryz.prog 86 [.ptr 0 0,.p (nV .u8 p1)] ⟨[[.sp Tryz.prog 113 h0_0 0 0,.own 0 5 1 (h0_1.map (cNum .u8))]],[(h0_1.map (cNum .u8)).length]⟩ (Qeg o) ⟨[[.sp Tryz.prog 113 o.2.1 0 0,.own 0 5 1 (o.2.2.map (cNum .u8))]],[(o.2.2.map (cNum .u8)).length]⟩:=by
 intro p1 h0_0 h0_1 o h
 unfold Qbx at h
 refine CallOK.ofB mixed tbOk Qil Tryz.func86 rfl (by kernel_rfl) (Nat.le_of_ble_eq_true rfl) rfl rfl rfl ?_
 refine Qag _ _ h (fun x1 hy=>((Qdz h0_0 h0_1 x1 hy).fr [0] [0] rfl rfl rfl)) (fun x1 hy h=>?_)
 refine Qpf (a:=h0_1) (b:=[p1]) (c:=(cNum .u8)) h (.refl _) (fun _=>rfl) rfl (fun x2 hi h=>?_)
 refine Exists.intro _ (And.intro (Le.refl _ _ _) ?_)
 exact Qa6 (t:=Qeg) (ss:=fun o=>⟨[[.sp Tryz.prog 113 o.2.1 0 0,.own 0 5 1 (o.2.2.map (cNum .u8))]],[(o.2.2.map (cNum .u8)).length]⟩) h ⟨[0],rfl,.refl _,.refl _,rfl⟩
noncomputable def Qbn (p1:(List UInt8)) (h0_0:Bool) (h0_1:(List Int)):Option (Int×Unit×Bool×(List Int)) :=
 Qbg h0_0 h0_1>>=fun x1 =>
 appL 1 h0_1 (s2b p1)>>=fun x2 =>
 some ((p1.length:Int),(),x1,x2)
theorem Qg8:∀ (p1:(List UInt8)) (h0_0:Bool) (h0_1:(List Int)) (o:Int×Unit×Bool×(List Int)),Qbn p1 h0_0 h0_1=some o→CallOK Tryz.prog 87 [.ptr 0 0,.p (sV p1)] ⟨[[.sp Tryz.prog 113 h0_0 0 0,.own 0 5 1 (h0_1.map (cNum .u8))]],[(h0_1.map (cNum .u8)).length]⟩ (Qdp o) ⟨[[.sp Tryz.prog 113 o.2.2.1 0 0,.own 0 5 1 (o.2.2.2.map (cNum .u8))]],[(o.2.2.2.map (cNum .u8)).length]⟩:=by
 intro p1 h0_0 h0_1 o h
 unfold Qbn at h
 refine CallOK.ofB mixed tbOk Qg6 Tryz.func87 rfl (by kernel_rfl) (Nat.le_of_ble_eq_true rfl) rfl rfl rfl ?_
 refine Qag _ _ h (fun x1 hy=>((Qdz h0_0 h0_1 x1 hy).fr [0] [0] rfl rfl rfl)) (fun x1 hy h=>?_)
 refine Q57 (a:=h0_1) (b:=p1) h rfl (fun x2 hi h=>?_)
 refine vrfl ?_
 refine Exists.intro _ (And.intro (Le.refl _ _ _) ?_)
 exact Qa6 (t:=Qdp) (ss:=fun o=>⟨[[.sp Tryz.prog 113 o.2.2.1 0 0,.own 0 5 1 (o.2.2.2.map (cNum .u8))]],[(o.2.2.2.map (cNum .u8)).length]⟩) h ⟨[0],rfl,.refl _,.refl _,rfl⟩
noncomputable def Qwc (p0:Int):Option (Bool) :=
 ( if(decide (p0 ≥ 0)) then
   if(decide (p0≤1114111)) then
    if(decide (p0<55296)) then
     some true
    else
     some (decide (p0>57343))
   else
    some false
  else
   some false:Option (Bool))>>=fun o1 =>
 some o1
theorem Q5b:∀ (p0:Int) (o:Bool),Qwc p0=some o→PCall Tryz.prog 108 [nV .i32 p0] (Qxv o):=by
 intro p0 o h
 unfold Qwc at h
 refine PCall.ofB mixed tbOk Q5a Tryz.func108 rfl (by kernel_rfl) (Nat.le_of_ble_eq_true rfl) ?_
 refine Qaj h (fun o1 ho hk=>?_)
 refine Exists.intro (JP1 _ _ o1 .normal (Q1f )) (And.intro ?_ (join1 ?_))
 ·have h:=ho
  refine Qaf h (fun hb h=>?_) (fun hb h=>?_)
  ·refine Qaf h (fun hb h=>?_) (fun hb h=>?_)
   ·refine Qaf h (fun hb h=>?_) (fun hb h=>?_)
    ·refine JP1.a h ?_
     exact Le.tz 0 0 rfl rfl rfl
    ·refine JP1.a h ?_
     exact Le.tz 0 0 rfl rfl rfl
   ·refine JP1.a h ?_
    exact Le.tz 0 0 rfl rfl rfl
  ·refine bF ?_
   refine JP1.a h ?_
   exact Le.tz 0 0 rfl rfl rfl
 ·have h:=hk
  refine Qat (t:=Qxv) h ?_
  exact .refl _
noncomputable def Qe7 (p0:(List UInt8)) (p2:Int) (v1:Int) (v14:Int):Option (Int⊕Unit) :=
 if(decide (v14<p2)) then
  idx p0 v14>>=fun x4 =>
  if((bits .and .u8 (x4.toNat:Int) 192) != 128) then
   some (.inr ())
  else
   idx p0 v14>>=fun x5 =>
   Qe7 p0 p2 (bits .or .i32 (IntKind.i32.wrap (v1*2 ^ (min (6:Int).toNat (IntKind.i32.bits)))) (IntKind.i32.wrap (bits .and .u8 (x5.toNat:Int) 63))) (wr (v14+1))
 else
  some (.inl v1)
 partial_fixpoint
theorem Qup:∀ (p0:(List UInt8)) (p2:Int),(∀ (v1:Int) (v14:Int) (o1:Int⊕Unit),Qe7 p0 p2 v1 v14=some o1→TL (0,0) Tryz.prog 32 Qqo (JP2 (0,0) 32 o1 (.exit 0) (Qkz p0 p2) .ret (Qk0 p0 p2)) (Qh3 p0 p2 v1 v14)):=by
 intro p0 p2
 refine Qe7.partial_correctness p0 p2 _ ?_
 intro Qe7' iQe7 v1 v14 o1 h
 refine TL.round (Qam mixed tbOk (lv:=Que) _ _ _ ?_)
 refine Qaf h (fun hb h=>?_) (fun hb h=>?_)
 ·refine Qcm h (fun x4 hi h=>?_)
  refine Qaf h (fun hb h=>?_) (fun hb h=>?_)
  ·exact JP2.b h (Le.tz 0 0 rfl rfl rfl)
  ·refine And.intro (by decide) ?_
   refine Qcm h (fun x5 hi h=>?_)
   refine vrfl ?_
   refine TL.le (τ := Qh3 p0 p2 (bits .or .i32 (IntKind.i32.wrap (v1*2 ^ (min (6:Int).toNat (IntKind.i32.bits)))) (IntKind.i32.wrap (bits .and .u8 (x5.toNat:Int) 63))) (wr (v14+1))) ?_ ((iQe7 (bits .or .i32 (IntKind.i32.wrap (v1*2 ^ (min (6:Int).toNat (IntKind.i32.bits)))) (IntKind.i32.wrap (bits .and .u8 (x5.toNat:Int) 63))) (wr (v14+1)) _ h))
   exact Le.tz 0 0 rfl rfl rfl
 ·exact JP2.a h (Le.tz 0 0 rfl rfl rfl)
theorem Qvq:∀ (p0:(List UInt8)) (p2:Int) (v1:Int) (v14:Int) (o1:Int⊕Unit),Qe7 p0 p2 v1 v14=some o1→TL (0,0) Tryz.prog 32 Qqo (JP2 (0,0) 32 o1 (.exit 0) (Qkz p0 p2) .ret (Qk0 p0 p2)) (Qh3 p0 p2 v1 v14):=fun p0 p2 v1 v14=>(Qup p0 p2) v1 v14
noncomputable def Qon (p0:(List UInt8)) (p1:Int) (p2:Int):Option (Int×Bool) :=
 if(decide ((p0.length:Int)<p2)) then
  some (0,false)
 else
  (Qe7 p0 p2 p1 0)>>=fun o1 =>
  match o1 with
  | .inl y2 =>
   some (y2,true)
  | .inr y3 =>
   some (0,false)
theorem Q1l:∀ (p0:(List UInt8)) (p1:Int) (p2:Int) (o:Int×Bool),Qon p0 p1 p2=some o→PCall Tryz.prog 107 [sV p0,nV .i32 p1,iV p2] (Qlb o):=by
 intro p0 p1 p2 o h
 unfold Qon at h
 refine PCall.ofB mixed tbOk Que Tryz.func107 rfl (by kernel_rfl) (Nat.le_of_ble_eq_true rfl) ?_
 refine vrfl ?_
 refine Qaf h (fun hb h=>?_) (fun hb h=>?_)
 ·refine Qat (t:=Qlb) h ?_
  exact .refl _
 ·refine Qaj h (fun o1 ho hk=>?_)
  refine Exists.intro (JP2 _ _ o1 (.exit 0) (Qkz p0 p2) .ret (Qk0 p0 p2)) (And.intro (T_le (τ := Qh3 p0 p2 p1 0) ?_ (TL.loop (Qvq p0 p2 p1 0 o1 ho))) (join2 (fun y2 hy=>?_) (fun y3 hy=>?_)))
  ·exact Le.tz 0 0 rfl rfl rfl
  ·have h:=(by rw[hy] at hk; exact hk)
   refine Qat (t:=Qlb) h ?_
   exact .refl _
  ·have h:=(by rw[hy] at hk; exact hk)
   refine Qat (t:=Qlb) h ?_
   exact .refl _
noncomputable def Qqu (p0:(List UInt8)) (p1:Int):Option (Int×Int) :=
 ( if(decide (p1<0)) then
   some true
  else
   some (decide (p1 ≥ (p0.length:Int))):Option (Bool))>>=fun o1 =>
 if o1 then
  some (0,0)
 else
  idx p0 p1>>=fun x2 =>
  ( if(decide ((x2.toNat:Int)<128)) then
    some (.inr (IntKind.i32.wrap (x2.toNat:Int)))
   else
    ( if(decide ((x2.toNat:Int) ≥ 192)) then
      some (decide ((x2.toNat:Int)<224))
     else
      some false:Option (Bool))>>=fun o6 =>
    if o6 then
     some (.inl ((IntKind.i32.wrap (bits .and .u8 (x2.toNat:Int) 31)),128,1))
    else
     ( if(decide ((x2.toNat:Int) ≥ 224)) then
       some (decide ((x2.toNat:Int)<240))
      else
       some false:Option (Bool))>>=fun o7 =>
     if o7 then
      some (.inl ((IntKind.i32.wrap (bits .and .u8 (x2.toNat:Int) 15)),2048,2))
     else
      ( if(decide ((x2.toNat:Int) ≥ 240)) then
        some (decide ((x2.toNat:Int)<248))
       else
        some false:Option (Bool))>>=fun o8 =>
      if o8 then
       some (.inl ((IntKind.i32.wrap (bits .and .u8 (x2.toNat:Int) 7)),65536,3))
      else
       some (.inr 65533):Option ((Int×Int×Int)⊕Int))>>=fun o3 =>
  match o3 with
  | .inl y4 =>
   cutL p0 (wr (p1+1)) (p0.length:Int)>>=fun x9 =>
   Qon x9 y4.1 y4.2.2>>=fun x10 =>
   ( if(!x10.2) then
     some true
    else
     if(decide (x10.1<y4.2.1)) then
      some true
     else
      Qwc x10.1>>=fun x12 =>
      some (!x12):Option (Bool))>>=fun o11 =>
   if o11 then
    some (65533,1)
   else
    some (x10.1,(wr (y4.2.2+1)))
  | .inr y5 =>
   some (y5,1)
theorem Q1m:∀ (p0:(List UInt8)) (p1:Int) (o:Int×Int),Qqu p0 p1=some o→PCall Tryz.prog 84 [sV p0,iV p1] (Qjk o):=by
 intro p0 p1 o h
 unfold Qqu at h
 refine PCall.ofB mixed tbOk Q1e Tryz.func84 rfl (by kernel_rfl) (Nat.le_of_ble_eq_true rfl) ?_
 refine Qaj h (fun o1 ho hk=>?_)
 refine Exists.intro (JP1 _ _ o1 .normal (Qxo p0 p1)) (And.intro ?_ (join1 ?_))
 ·have h:=ho
  refine Qaf h (fun hb h=>?_) (fun hb h=>?_)
  ·refine JP1.a h ?_
   exact Le.tz 0 0 rfl rfl rfl
  ·refine vrfl ?_
   refine JP1.a h ?_
   exact Le.tz 0 0 rfl rfl rfl
 ·have h:=hk
  refine Qaf h (fun hb h=>?_) (fun hb h=>?_)
  ·refine Qat (t:=Qjk) h ?_
   exact .refl _
  ·refine Qcm h (fun x2 hi h=>?_)
   refine Qaj h (fun o3 ho hk=>?_)
   refine Exists.intro (JP2 _ _ o3 .normal (Qxp p0 p1) .ret (Qxq p0 p1)) (And.intro ?_ (join2 (fun y4 hy=>?_) (fun y5 hy=>?_)))
   ·have h:=ho
    refine Qaf h (fun hb h=>?_) (fun hb h=>?_)
    ·refine vrfl ?_
     refine JP2.b h ?_
     exact Le.tz 0 0 rfl rfl rfl
    ·refine Qaj h (fun o6 ho hk=>?_)
     refine Exists.intro (JP1 _ _ o6 .normal (Qxr p0 p1 x2)) (And.intro ?_ (join1 ?_))
     ·have h:=ho
      refine Qaf h (fun hb h=>?_) (fun hb h=>?_)
      ·refine JP1.a h ?_
       exact Le.tz 0 0 rfl rfl rfl
      ·refine JP1.a h ?_
       exact Le.tz 0 0 rfl rfl rfl
     ·have h:=hk
      refine Qaf h (fun hb h=>?_) (fun hb h=>?_)
      ·refine vrfl ?_
       refine JP2.a h ?_
       exact Le.tz 0 0 rfl rfl rfl
      ·refine Qaj h (fun o7 ho hk=>?_)
       refine Exists.intro (JP1 _ _ o7 .normal (Qxs p0 p1 x2)) (And.intro ?_ (join1 ?_))
       ·have h:=ho
        refine Qaf h (fun hb h=>?_) (fun hb h=>?_)
        ·refine JP1.a h ?_
         exact Le.tz 0 0 rfl rfl rfl
        ·refine JP1.a h ?_
         exact Le.tz 0 0 rfl rfl rfl
       ·have h:=hk
        refine Qaf h (fun hb h=>?_) (fun hb h=>?_)
        ·refine vrfl ?_
         refine JP2.a h ?_
         exact Le.tz 0 0 rfl rfl rfl
        ·refine Qaj h (fun o8 ho hk=>?_)
         refine Exists.intro (JP1 _ _ o8 .normal (Qxt p0 p1 x2)) (And.intro ?_ (join1 ?_))
         ·have h:=ho
          refine Qaf h (fun hb h=>?_) (fun hb h=>?_)
          ·refine JP1.a h ?_
           exact Le.tz 0 0 rfl rfl rfl
          ·refine JP1.a h ?_
           exact Le.tz 0 0 rfl rfl rfl
         ·have h:=hk
          refine Qaf h (fun hb h=>?_) (fun hb h=>?_)
          ·refine vrfl ?_
           refine JP2.a h ?_
           exact Le.tz 0 0 rfl rfl rfl
          ·refine JP2.b h ?_
           exact Le.tz 0 0 rfl rfl rfl
   ·have h:=(by rw[hy] at hk; exact hk)
    refine Qd3 (some (wr (p1+1))) none h (fun x9 hi h=>?_)
    refine Qar [sV x9,nV .i32 y4.1,iV y4.2.2] Qlb h (fun x10 hy=>(Q1l x9 y4.1 y4.2.2 x10 hy)) (fun x10 hy h=>?_)
    refine Qaj h (fun o11 ho hk=>?_)
    refine Exists.intro (JP1 _ _ o11 .normal (Qxu y4 x10)) (And.intro ?_ (join1 ?_))
    ·have h:=ho
     refine Qaf h (fun hb h=>?_) (fun hb h=>?_)
     ·refine bT ?_
      refine JP1.a h ?_
      exact Le.tz 0 0 rfl rfl rfl
     ·refine Qaf h (fun hb h=>?_) (fun hb h=>?_)
      ·refine JP1.a h ?_
       exact Le.tz 0 0 rfl rfl rfl
      ·refine Qar [nV .i32 x10.1] Qxv h (fun x12 hy=>(Q5b x10.1 x12 hy)) (fun x12 hy h=>?_)
       refine JP1.a h ?_
       exact Le.tz 0 0 rfl rfl rfl
    ·have h:=hk
     refine Qaf h (fun hb h=>?_) (fun hb h=>?_)
     ·refine Qat (t:=Qjk) h ?_
      exact .refl _
     ·refine Qat (t:=Qjk) h ?_
      exact .refl _
   ·have h:=(by rw[hy] at hk; exact hk)
    refine Qat (t:=Qjk) h ?_
    exact .refl _
noncomputable def Qbf (h0_0:(List UInt8)) (h0_1:Int) (h0_2:(List Qab)) (v4:Int) (h1_0:Bool) (h1_1:(List Int)):Option ((Int×Bool×(List Int))⊕(Bool×(List Int))) :=
 ( if(decide (v4<(h0_0.length:Int))) then
   idx h0_0 v4>>=fun x5 =>
   some ((x5.toNat:Int) != 34)
  else
   some false:Option (Bool))>>=fun o4 =>
 if o4 then
  Qqu h0_0 v4>>=fun x6 =>
  if(x6.1==92) then
   if((wr (v4+1))==(h0_0.length:Int)) then
    some (.inr (h1_0,h1_1))
   else
    idx h0_0 (wr (v4+1))>>=fun x7 =>
    Qj1 (x7.toNat:Int)>>=fun x8 =>
    if(!x8.2) then
     some (.inr (h1_0,h1_1))
    else
     Qbx x8.1 h1_0 h1_1>>=fun x9 =>
     Qbf h0_0 h0_1 h0_2 (wr (v4+2)) x9.2.1 x9.2.2
  else
   ( if(x6.1==10) then
     some true
    else
     if(x6.1==13) then
      some true
     else
      if(x6.1==65533) then
       some (x6.2==1)
      else
       some false:Option (Bool))>>=fun o10 =>
   if o10 then
    some (.inr (h1_0,h1_1))
   else
    cutL h0_0 v4 (wr (v4+x6.2))>>=fun x11 =>
    Qbn x11 h1_0 h1_1>>=fun x12 =>
    Qbf h0_0 h0_1 h0_2 (wr (v4+x6.2)) x12.2.2.1 x12.2.2.2
 else
  some (.inl (v4,h1_0,h1_1))
 partial_fixpoint
theorem Qmb:∀ (h0_0:(List UInt8)) (h0_1:Int) (h0_2:(List Qab)),(∀ (v4:Int) (h1_0:Bool) (h1_1:(List Int)) (o1:(Int×Bool×(List Int))⊕(Bool×(List Int))),Qbf h0_0 h0_1 h0_2 v4 h1_0 h1_1=some o1→TL (1,1) Tryz.prog 112 Qii (JP2 (1,1) 112 o1 (.exit 0) (Qeq h0_0 h0_1 h0_2) .ret (Qer h0_0 h0_1 h0_2)) (Qck h0_0 h0_1 h0_2 v4 h1_0 h1_1)):=by
 intro h0_0 h0_1 h0_2
 refine Qbf.partial_correctness h0_0 h0_1 h0_2 _ ?_
 intro Qbf' iQbf v4 h1_0 h1_1 o1 h
 refine TL.round (Qam mixed tbOk (lv:=Qjw) _ _ _ ?_)
 refine Qaj h (fun o4 ho hk=>?_)
 refine Exists.intro (JP1 _ _ o4 .normal (Qnk h0_0 h0_1 h0_2 v4 h1_0 h1_1)) (And.intro ?_ (join1 ?_))
 ·have h:=ho
  refine vrfl ?_
  refine Qaf h (fun hb h=>?_) (fun hb h=>?_)
  ·refine Qcm h (fun x5 hi h=>?_)
   refine JP1.a h ?_
   exact Le.tz 2 2 rfl rfl rfl
  ·refine JP1.a h ?_
   exact Le.tz 2 2 rfl rfl rfl
 ·have h:=hk
  refine Qaf h (fun hb h=>?_) (fun hb h=>?_)
  ·refine Qar [sV h0_0,iV v4] Qjk h (fun x6 hy=>(Q1m h0_0 v4 x6 hy)) (fun x6 hy h=>?_)
   refine Qaf h (fun hb h=>?_) (fun hb h=>?_)
   ·refine vrfl ?_
    refine Qaf h (fun hb h=>?_) (fun hb h=>?_)
    ·exact JP2.b h (Le.tz 2 2 rfl rfl rfl)
    ·refine Qcm h (fun x7 hi h=>?_)
     refine Qar [nV .u8 (x7.toNat:Int)] Qgr h (fun x8 hy=>(Qvp (x7.toNat:Int) x8 hy)) (fun x8 hy h=>?_)
     refine Qaf h (fun hb h=>?_) (fun hb h=>?_)
     ·exact JP2.b h (Le.tz 2 2 rfl rfl rfl)
     ·refine Qag _ _ h (fun x9 hy=>((Qin x8.1 h1_0 h1_1 x9 hy).fr [1] [1] rfl rfl rfl)) (fun x9 hy h=>?_)
      refine TL.le (τ := Qck h0_0 h0_1 h0_2 (wr (v4+2)) x9.2.1 x9.2.2) ?_ ((iQbf (wr (v4+2)) x9.2.1 x9.2.2 _ h))
      exact Le.tz 2 2 rfl rfl rfl
   ·refine Qaj h (fun o10 ho hk=>?_)
    refine Exists.intro (JP1 _ _ o10 .normal (Qnl h0_0 h0_1 h0_2 v4 h1_0 h1_1 x6)) (And.intro ?_ (join1 ?_))
    ·have h:=ho
     refine Qaf h (fun hb h=>?_) (fun hb h=>?_)
     ·refine bT ?_
      refine JP1.a h ?_
      exact Le.tz 2 2 rfl rfl rfl
     ·refine Qaf h (fun hb h=>?_) (fun hb h=>?_)
      ·refine JP1.a h ?_
       exact Le.tz 2 2 rfl rfl rfl
      ·refine Qaf h (fun hb h=>?_) (fun hb h=>?_)
       ·refine JP1.a h ?_
        exact Le.tz 2 2 rfl rfl rfl
       ·refine JP1.a h ?_
        exact Le.tz 2 2 rfl rfl rfl
    ·have h:=hk
     refine Qaf h (fun hb h=>?_) (fun hb h=>?_)
     ·exact JP2.b h (Le.tz 2 2 rfl rfl rfl)
     ·refine Qd3 (some v4) (some (wr (v4+x6.2))) h (fun x11 hi h=>?_)
      refine Qag _ _ h (fun x12 hy=>((Qg8 x11 h1_0 h1_1 x12 hy).fr [1] [1] rfl rfl rfl)) (fun x12 hy h=>?_)
      refine TL.le (τ := Qck h0_0 h0_1 h0_2 (wr (v4+x6.2)) x12.2.2.1 x12.2.2.2) ?_ ((iQbf (wr (v4+x6.2)) x12.2.2.1 x12.2.2.2 _ h))
      exact Le.tz 2 2 rfl rfl rfl
  ·exact JP2.a h (Le.tz 2 2 rfl rfl rfl)
theorem Qmy:∀ (h0_0:(List UInt8)) (h0_1:Int) (h0_2:(List Qab)) (v4:Int) (h1_0:Bool) (h1_1:(List Int)) (o1:(Int×Bool×(List Int))⊕(Bool×(List Int))),Qbf h0_0 h0_1 h0_2 v4 h1_0 h1_1=some o1→TL (1,1) Tryz.prog 112 Qii (JP2 (1,1) 112 o1 (.exit 0) (Qeq h0_0 h0_1 h0_2) .ret (Qer h0_0 h0_1 h0_2)) (Qck h0_0 h0_1 h0_2 v4 h1_0 h1_1):=fun h0_0 h0_1 h0_2 v4 h1_0 h1_1=>(Qmb h0_0 h0_1 h0_2) v4 h1_0 h1_1
noncomputable def Qcu (h0_0:Bool) (h0_1:(List Int)):Option ((List UInt8)) :=
 b2s h0_1
theorem Qj2:∀ (h0_0:Bool) (h0_1:(List Int)) (o:(List UInt8)),Qcu h0_0 h0_1=some o→CallOK Tryz.prog 88 [.ptr 0 0] ⟨[[.sp Tryz.prog 113 h0_0 0 0,.own 0 5 1 (h0_1.map (cNum .u8))]],[(h0_1.map (cNum .u8)).length]⟩ (Qj4 o) ⟨[[.sp Tryz.prog 113 h0_0 0 0,.p (.sl false (h0_1.map (cNum .u8)))]],[((h0_1.map (cNum .u8)).length+1)]⟩:=by
 intro h0_0 h0_1 o h
 unfold Qcu at h
 exact Qsi [[.sp Tryz.prog 113 h0_0 0 0,.own 0 5 1 (h0_1.map (cNum .u8))]] [(h0_1.map (cNum .u8)).length] 0 0 [.sp Tryz.prog 113 h0_0 0 0,.own 0 5 1 (h0_1.map (cNum .u8))] (h0_1.map (cNum .u8)) rfl rfl rfl (Q4w h)
noncomputable def Qei (h0_0:(List UInt8)) (h0_1:Int) (h0_2:(List Qab)):Option (Bool×Int×(List Qab)) :=
 (Qbf h0_0 h0_1 h0_2 (wr (h0_1+1)) false [])>>=fun o1 =>
 match o1 with
 | .inl y2 =>
  if(decide (y2.1 ≥ (h0_0.length:Int))) then
   some (false,h0_1,h0_2)
  else
   Qcu y2.2.1 y2.2.2>>=fun x13 =>
   Qa0 5 x13 0 (wr ((wr (y2.1+1))-h0_1)) h0_0 h0_1 h0_2>>=fun x14 =>
   some (true,x14.1,x14.2)
 | .inr y3 =>
  some (false,h0_1,h0_2)
theorem Qpv:∀ (h0_0:(List UInt8)) (h0_1:Int) (h0_2:(List Qab)) (o:Bool×Int×(List Qab)),Qei h0_0 h0_1 h0_2=some o→CallOK Tryz.prog 51 [.ptr 0 0] ⟨[[.p (sV h0_0),.p (iV h0_1),.own 0 59 5 (h0_2.map Qac)]],[(h0_2.map Qac).length]⟩ (Qex o) ⟨[[.p (sV h0_0),.p (iV o.2.1),.own 0 59 5 (o.2.2.map Qac)]],[(o.2.2.map Qac).length]⟩:=by
 intro h0_0 h0_1 h0_2 o h
 unfold Qei at h
 refine CallOK.ofB mixed tbOk Qjw Tryz.func51 rfl (by kernel_rfl) (Nat.le_of_ble_eq_true rfl) rfl rfl rfl ?_
 refine Qaj h (fun o1 ho hk=>?_)
 refine Exists.intro (JP2 _ _ o1 (.exit 0) (Qeq h0_0 h0_1 h0_2) .ret (Qer h0_0 h0_1 h0_2)) (And.intro (T_le (τ := Qck h0_0 h0_1 h0_2 (wr (h0_1+1)) false []) ?_ (TL.loop (Qmy h0_0 h0_1 h0_2 (wr (h0_1+1)) false [] o1 ho))) (join2 (fun y2 hy=>?_) (fun y3 hy=>?_)))
 ·exact(Le.ownH 1 1 5 1 rfl rfl sizeNil).trans (Le.tz 2 2 rfl rfl rfl)
 ·have h:=(by rw[hy] at hk; exact hk)
  refine vrfl ?_
  refine Qaf h (fun hb h=>?_) (fun hb h=>?_)
  ·refine Exists.intro _ (And.intro (Le.refl _ _ _) ?_)
   exact Qa6 (t:=Qex) (ss:=fun o=>⟨[[.p (sV h0_0),.p (iV o.2.1),.own 0 59 5 (o.2.2.map Qac)]],[(o.2.2.map Qac).length]⟩) h ⟨[0],rfl,.refl _,.refl _,rfl⟩
  ·refine And.intro (by decide +kernel) (And.intro rfl ?_)
   refine Q58 _ _ h (fun x13 hy=>((Qj2 y2.2.1 y2.2.2 x13 hy).ff [1] [1] rfl rfl rfl rfl (Nat.le_of_ble_eq_true rfl))) (fun x13 hy h=>?_)
   refine Qj8 _ _ h (fun x14 hy=>((Qb1 5 x13 0 (wr ((wr (y2.1+1))-h0_1)) h0_0 h0_1 h0_2 x14 hy).fg [0] [0] rfl rfl rfl (Nat.le_of_ble_eq_true rfl))) (fun x14 hy h=>?_)
   refine Exists.intro _ (And.intro (Le.refl _ _ _) ?_)
   exact Qa6 (t:=Qex) (ss:=fun o=>⟨[[.p (sV h0_0),.p (iV o.2.1),.own 0 59 5 (o.2.2.map Qac)]],[(o.2.2.map Qac).length]⟩) h ⟨[0],rfl,.refl _,.refl _,rfl⟩
 ·have h:=(by rw[hy] at hk; exact hk)
  refine Exists.intro _ (And.intro (Le.refl _ _ _) ?_)
  exact Qa6 (t:=Qex) (ss:=fun o=>⟨[[.p (sV h0_0),.p (iV o.2.1),.own 0 59 5 (o.2.2.map Qac)]],[(o.2.2.map Qac).length]⟩) h ⟨[0],rfl,.refl _,.refl _,rfl⟩
noncomputable def Qe8 (p0:(List UInt8)) (v6:Int):Option (Unit⊕Unit) :=
 if(decide (v6<(p0.length:Int))) then
  idx p0 v6>>=fun x4 =>
  Qht (x4.toNat:Int)>>=fun x5 =>
  if(!x5) then
   some (.inr ())
  else
   Qe8 p0 (wr (v6+1))
 else
  some (.inl ())
 partial_fixpoint
theorem Quq:∀ (p0:(List UInt8)),(∀ (v6:Int) (o1:Unit⊕Unit),Qe8 p0 v6=some o1→TL (0,0) Tryz.prog 27 Qqm (JP2 (0,0) 27 o1 (.exit 0) (Qkw p0) .ret (Qkx p0)) (Qh1 p0 v6)):=by
 intro p0
 refine Qe8.partial_correctness p0 _ ?_
 intro Qe8' iQe8 v6 o1 h
 refine TL.round (Qam mixed tbOk (lv:=Qt8) _ _ _ ?_)
 refine Qaf h (fun hb h=>?_) (fun hb h=>?_)
 ·refine Qcm h (fun x4 hi h=>?_)
  refine Qar [nV .u8 (x4.toNat:Int)] Qif h (fun x5 hy=>(Ql9 (x4.toNat:Int) x5 hy)) (fun x5 hy h=>?_)
  refine Qaf h (fun hb h=>?_) (fun hb h=>?_)
  ·exact JP2.b h (Le.tz 0 0 rfl rfl rfl)
  ·refine TL.le (τ := Qh1 p0 (wr (v6+1))) ?_ ((iQe8 (wr (v6+1)) _ h))
   exact Le.tz 0 0 rfl rfl rfl
 ·exact JP2.a h (Le.tz 0 0 rfl rfl rfl)
theorem Qvr:∀ (p0:(List UInt8)) (v6:Int) (o1:Unit⊕Unit),Qe8 p0 v6=some o1→TL (0,0) Tryz.prog 27 Qqm (JP2 (0,0) 27 o1 (.exit 0) (Qkw p0) .ret (Qkx p0)) (Qh1 p0 v6):=fun p0 v6=>(Quq p0) v6
noncomputable def Qkj (p0:(List UInt8)):Option (Bool) :=
 (Qe8 p0 0)>>=fun o1 =>
 match o1 with
 | .inl y2 =>
  ( if(!(p0==[])) then
    if(decide ((p0.length:Int)≤32)) then
     idx p0 0>>=fun x7 =>
     some (decide ((x7.toNat:Int) ≥ 97))
    else
     some false
   else
    some false:Option (Bool))>>=fun o6 =>
  some o6
 | .inr y3 =>
  some false
theorem Qpw:∀ (p0:(List UInt8)) (o:Bool),Qkj p0=some o→PCall Tryz.prog 91 [sV p0] (Qjj o):=by
 intro p0 o h
 unfold Qkj at h
 refine PCall.ofB mixed tbOk Qt8 Tryz.func91 rfl (by kernel_rfl) (Nat.le_of_ble_eq_true rfl) ?_
 refine vrfl ?_
 refine Qaj h (fun o1 ho hk=>?_)
 refine Exists.intro (JP2 _ _ o1 (.exit 0) (Qkw p0) .ret (Qkx p0)) (And.intro (T_le (τ := Qh1 p0 0) ?_ (TL.loop (Qvr p0 0 o1 ho))) (join2 (fun y2 hy=>?_) (fun y3 hy=>?_)))
 ·exact Le.tz 0 0 rfl rfl rfl
 ·have h:=(by rw[hy] at hk; exact hk)
  refine Qaj h (fun o6 ho hk=>?_)
  refine Exists.intro (JP1 _ _ o6 .normal (Qxl )) (And.intro ?_ (join1 ?_))
  ·have h:=ho
   refine Qaf h (fun hb h=>?_) (fun hb h=>?_)
   ·refine vrfl ?_
    refine Qaf h (fun hb h=>?_) (fun hb h=>?_)
    ·refine Qcm h (fun x7 hi h=>?_)
     refine JP1.a h ?_
     exact Le.tz 0 0 rfl rfl rfl
    ·refine JP1.a h ?_
     exact Le.tz 0 0 rfl rfl rfl
   ·refine bF ?_
    refine JP1.a h ?_
    exact Le.tz 0 0 rfl rfl rfl
  ·have h:=hk
   refine Qat (t:=Qjj) h ?_
   exact .refl _
 ·have h:=(by rw[hy] at hk; exact hk)
  refine Qat (t:=Qjj) h ?_
  exact .refl _
noncomputable def Qaw (h0_0:(List UInt8)) (h0_1:Int) (h0_2:(List Qab)) (v7:Int):Option (Int) :=
 ( if(decide (v7<(h0_0.length:Int))) then
   idx h0_0 v7>>=fun x3 =>
   Qht (x3.toNat:Int)>>=fun x4 =>
   some x4
  else
   some false:Option (Bool))>>=fun o2 =>
 if o2 then
  Qaw h0_0 h0_1 h0_2 (wr (v7+1))
 else
  some v7
 partial_fixpoint
theorem Qg5:∀ (h0_0:(List UInt8)) (h0_1:Int) (h0_2:(List Qab)),(∀ (v7:Int) (o1:Int),Qaw h0_0 h0_1 h0_2 v7=some o1→TL (1,1) Tryz.prog 38 Qdo (JP1 (1,1) 38 o1 (.exit 0) (Qch h0_0 h0_1 h0_2)) (Qbv h0_0 h0_1 h0_2 v7)):=by
 intro h0_0 h0_1 h0_2
 refine Qaw.partial_correctness h0_0 h0_1 h0_2 _ ?_
 intro Qaw' iQaw v7 o1 h
 refine TL.round (Qam mixed tbOk (lv:=Qef) _ _ _ ?_)
 refine Qaj h (fun o2 ho hk=>?_)
 refine Exists.intro (JP1 _ _ o2 .normal (Qhq h0_0 h0_1 h0_2 v7)) (And.intro ?_ (join1 ?_))
 ·have h:=ho
  refine vrfl ?_
  refine Qaf h (fun hb h=>?_) (fun hb h=>?_)
  ·refine Qcm h (fun x3 hi h=>?_)
   refine Qar [nV .u8 (x3.toNat:Int)] Qif h (fun x4 hy=>(Ql9 (x3.toNat:Int) x4 hy)) (fun x4 hy h=>?_)
   refine JP1.a h ?_
   exact Le.tz 1 1 rfl rfl rfl
  ·refine JP1.a h ?_
   exact Le.tz 1 1 rfl rfl rfl
 ·have h:=hk
  refine Qaf h (fun hb h=>?_) (fun hb h=>?_)
  ·refine TL.le (τ := Qbv h0_0 h0_1 h0_2 (wr (v7+1))) ?_ ((iQaw (wr (v7+1)) _ h))
   exact Le.tz 1 1 rfl rfl rfl
  ·exact JP1.a h (Le.tz 1 1 rfl rfl rfl)
theorem Qg9:∀ (h0_0:(List UInt8)) (h0_1:Int) (h0_2:(List Qab)) (v7:Int) (o1:Int),Qaw h0_0 h0_1 h0_2 v7=some o1→TL (1,1) Tryz.prog 38 Qdo (JP1 (1,1) 38 o1 (.exit 0) (Qch h0_0 h0_1 h0_2)) (Qbv h0_0 h0_1 h0_2 v7):=fun h0_0 h0_1 h0_2 v7=>(Qg5 h0_0 h0_1 h0_2) v7
noncomputable def Qcj (p1:Int) (h0_0:(List UInt8)) (h0_1:Int) (h0_2:(List Qab)):Option ((List UInt8)) :=
 (Qaw h0_0 h0_1 h0_2 p1)>>=fun o1 =>
 cutL h0_0 h0_1 o1>>=fun x5 =>
 some x5
theorem Qi5:∀ (p1:Int) (h0_0:(List UInt8)) (h0_1:Int) (h0_2:(List Qab)) (o:(List UInt8)),Qcj p1 h0_0 h0_1 h0_2=some o→CallOK Tryz.prog 89 [.ptr 0 0,.p (iV p1),.fn (.func 54) [] []] ⟨[[.p (sV h0_0),.p (iV h0_1),.own 0 59 5 (h0_2.map Qac)]],[(h0_2.map Qac).length]⟩ (Qew o) ⟨[[.p (sV h0_0),.p (iV h0_1),.own 0 59 5 (h0_2.map Qac)]],[(h0_2.map Qac).length]⟩:=by
 intro p1 h0_0 h0_1 h0_2 o h
 unfold Qcj at h
 refine CallOK.ofB mixed tbOk Qef Tryz.func89 rfl (by kernel_rfl) (Nat.le_of_ble_eq_true rfl) rfl rfl rfl ?_
 refine Qaj h (fun o1 ho hk=>?_)
 refine Exists.intro (JP1 _ _ o1 (.exit 0) (Qch h0_0 h0_1 h0_2)) (And.intro (T_le (τ := Qbv h0_0 h0_1 h0_2 p1) ?_ (TL.loop (Qg9 h0_0 h0_1 h0_2 p1 o1 ho))) (join1 ?_))
 ·exact Le.tz 1 1 rfl rfl rfl
 have h:=hk
 refine And.intro (by decide +kernel) (And.intro rfl ?_)
 refine Qd3 (some h0_1) (some o1) h (fun x5 hi h=>?_)
 refine Exists.intro _ (And.intro (Le.refl _ _ _) ?_)
 exact Qa6 (t:=Qew) (ss:=fun o=>⟨[[.p (sV h0_0),.p (iV h0_1),.own 0 59 5 (h0_2.map Qac)]],[(h0_2.map Qac).length]⟩) h ⟨[0],rfl,.refl _,.refl _,rfl⟩
noncomputable def Qej (h0_0:(List UInt8)) (h0_1:Int) (h0_2:(List Qab)):Option (Bool×Int×(List Qab)) :=
 Qcj h0_1 h0_0 h0_1 h0_2>>=fun x1 =>
 Qkj x1>>=fun x2 =>
 if(!x2) then
  some (false,h0_1,h0_2)
 else
  Qa0 4 x1 0 (x1.length:Int) h0_0 h0_1 h0_2>>=fun x3 =>
  some (true,x3.1,x3.2)
theorem Qpx:∀ (h0_0:(List UInt8)) (h0_1:Int) (h0_2:(List Qab)) (o:Bool×Int×(List Qab)),Qej h0_0 h0_1 h0_2=some o→CallOK Tryz.prog 55 [.ptr 0 0] ⟨[[.p (sV h0_0),.p (iV h0_1),.own 0 59 5 (h0_2.map Qac)]],[(h0_2.map Qac).length]⟩ (Qgt o) ⟨[[.p (sV h0_0),.p (iV o.2.1),.own 0 59 5 (o.2.2.map Qac)]],[(o.2.2.map Qac).length]⟩:=by
 intro h0_0 h0_1 h0_2 o h
 unfold Qej at h
 refine CallOK.ofB mixed tbOk Qpn Tryz.func55 rfl (by kernel_rfl) (Nat.le_of_ble_eq_true rfl) rfl rfl rfl ?_
 refine Qag _ _ h (fun x1 hy=>((Qi5 h0_1 h0_0 h0_1 h0_2 x1 hy).fr [0] [0] rfl rfl rfl)) (fun x1 hy h=>?_)
 refine Qar [sV x1] Qjj h (fun x2 hy=>(Qpw x1 x2 hy)) (fun x2 hy h=>?_)
 refine Qaf h (fun hb h=>?_) (fun hb h=>?_)
 ·refine Exists.intro _ (And.intro (Le.refl _ _ _) ?_)
  exact Qa6 (t:=Qgt) (ss:=fun o=>⟨[[.p (sV h0_0),.p (iV o.2.1),.own 0 59 5 (o.2.2.map Qac)]],[(o.2.2.map Qac).length]⟩) h ⟨[0],rfl,.refl _,.refl _,rfl⟩
 ·refine vrfl ?_
  refine Qag _ _ h (fun x3 hy=>((Qb1 4 x1 0 (x1.length:Int) h0_0 h0_1 h0_2 x3 hy).fr [0] [0] rfl rfl rfl)) (fun x3 hy h=>?_)
  refine Exists.intro _ (And.intro (Le.refl _ _ _) ?_)
  exact Qa6 (t:=Qgt) (ss:=fun o=>⟨[[.p (sV h0_0),.p (iV o.2.1),.own 0 59 5 (o.2.2.map Qac)]],[(o.2.2.map Qac).length]⟩) h ⟨[0],rfl,.refl _,.refl _,rfl⟩
noncomputable def Qc2 (h0_0:(List UInt8)) (h0_1:Int) (h0_2:(List Qab)):Option (Bool×Int×(List Qab)) :=
 idx h0_0 h0_1>>=fun x1 =>
 if((x1.toNat:Int)==34) then
  Qei h0_0 h0_1 h0_2>>=fun x2 =>
  some (x2.1,x2.2.1,x2.2.2)
 else
  ( if((x1.toNat:Int)==45) then
    some true
   else
    Qim (x1.toNat:Int)>>=fun x4 =>
    some x4:Option (Bool))>>=fun o3 =>
  if o3 then
   Qdd h0_0 h0_1 h0_2>>=fun x5 =>
   some (x5.1,x5.2.1,x5.2.2)
  else
   Qht (x1.toNat:Int)>>=fun x6 =>
   if x6 then
    Qej h0_0 h0_1 h0_2>>=fun x7 =>
    some (x7.1,x7.2.1,x7.2.2)
   else
    Qeh h0_0 h0_1 h0_2>>=fun x8 =>
    some (x8.1,x8.2.1,x8.2.2)
theorem Qmz:∀ (h0_0:(List UInt8)) (h0_1:Int) (h0_2:(List Qab)) (o:Bool×Int×(List Qab)),Qc2 h0_0 h0_1 h0_2=some o→CallOK Tryz.prog 30 [.ptr 0 0] ⟨[[.p (sV h0_0),.p (iV h0_1),.own 0 59 5 (h0_2.map Qac)]],[(h0_2.map Qac).length]⟩ (Qcs o) ⟨[[.p (sV h0_0),.p (iV o.2.1),.own 0 59 5 (o.2.2.map Qac)]],[(o.2.2.map Qac).length]⟩:=by
 intro h0_0 h0_1 h0_2 o h
 unfold Qc2 at h
 refine CallOK.ofB mixed tbOk Qmq Tryz.func30 rfl (by kernel_rfl) (Nat.le_of_ble_eq_true rfl) rfl rfl rfl ?_
 refine And.intro (by decide +kernel) (And.intro rfl ?_)
 refine Qcm h (fun x1 hi h=>?_)
 refine Qaf h (fun hb h=>?_) (fun hb h=>?_)
 ·refine Qag _ _ h (fun x2 hy=>((Qpv h0_0 h0_1 h0_2 x2 hy).fr [0] [0] rfl rfl rfl)) (fun x2 hy h=>?_)
  refine Exists.intro _ (And.intro (Le.refl _ _ _) ?_)
  exact Qa6 (t:=Qcs) (ss:=fun o=>⟨[[.p (sV h0_0),.p (iV o.2.1),.own 0 59 5 (o.2.2.map Qac)]],[(o.2.2.map Qac).length]⟩) h ⟨[0],rfl,.refl _,.refl _,rfl⟩
 ·refine Qaj h (fun o3 ho hk=>?_)
  refine Exists.intro (JP1 _ _ o3 .normal (Qk9 h0_0 h0_1 h0_2 x1)) (And.intro ?_ (join1 ?_))
  ·have h:=ho
   refine Qaf h (fun hb h=>?_) (fun hb h=>?_)
   ·refine JP1.a h ?_
    exact Le.tz 1 1 rfl rfl rfl
   ·refine Qar [nV .u8 (x1.toNat:Int)] Qhp h (fun x4 hy=>(Qkh (x1.toNat:Int) x4 hy)) (fun x4 hy h=>?_)
    refine JP1.a h ?_
    exact Le.tz 1 1 rfl rfl rfl
  ·have h:=hk
   refine Qaf h (fun hb h=>?_) (fun hb h=>?_)
   ·refine Qag _ _ h (fun x5 hy=>((Qnu h0_0 h0_1 h0_2 x5 hy).fr [0] [0] rfl rfl rfl)) (fun x5 hy h=>?_)
    refine Exists.intro _ (And.intro (Le.refl _ _ _) ?_)
    exact Qa6 (t:=Qcs) (ss:=fun o=>⟨[[.p (sV h0_0),.p (iV o.2.1),.own 0 59 5 (o.2.2.map Qac)]],[(o.2.2.map Qac).length]⟩) h ⟨[0],rfl,.refl _,.refl _,rfl⟩
   ·refine Qar [nV .u8 (x1.toNat:Int)] Qif h (fun x6 hy=>(Ql9 (x1.toNat:Int) x6 hy)) (fun x6 hy h=>?_)
    refine Qaf h (fun hb h=>?_) (fun hb h=>?_)
    ·refine Qag _ _ h (fun x7 hy=>((Qpx h0_0 h0_1 h0_2 x7 hy).fr [0] [0] rfl rfl rfl)) (fun x7 hy h=>?_)
     refine Exists.intro _ (And.intro (Le.refl _ _ _) ?_)
     exact Qa6 (t:=Qcs) (ss:=fun o=>⟨[[.p (sV h0_0),.p (iV o.2.1),.own 0 59 5 (o.2.2.map Qac)]],[(o.2.2.map Qac).length]⟩) h ⟨[0],rfl,.refl _,.refl _,rfl⟩
    ·refine Qag _ _ h (fun x8 hy=>((Qpu h0_0 h0_1 h0_2 x8 hy).fr [0] [0] rfl rfl rfl)) (fun x8 hy h=>?_)
     refine Exists.intro _ (And.intro (Le.refl _ _ _) ?_)
     exact Qa6 (t:=Qcs) (ss:=fun o=>⟨[[.p (sV h0_0),.p (iV o.2.1),.own 0 59 5 (o.2.2.map Qac)]],[(o.2.2.map Qac).length]⟩) h ⟨[0],rfl,.refl _,.refl _,rfl⟩
noncomputable def strings_HasPrefix (p0:(List UInt8)) (p1:(List UInt8)):Option (Bool) :=
 Qb3 p0 p1>>=fun x1 =>
 some x1
theorem Qo3:∀ (p0:(List UInt8)) (p1:(List UInt8)) (o:Bool),strings_HasPrefix p0 p1=some o→PCall Tryz.prog 50 [sV p0,sV p1] (Qga o):=by
 intro p0 p1 o h
 unfold strings_HasPrefix at h
 refine PCall.ofB mixed tbOk Qo1 Tryz.func50 rfl (by kernel_rfl) (Nat.le_of_ble_eq_true rfl) ?_
 refine Qar [sV p0,sV p1] Qcg h (fun x1 hy=>(Qg3 p0 p1 x1 hy)) (fun x1 hy h=>?_)
 refine Qat (t:=Qga) h ?_
 exact .refl _
noncomputable def Qd0 (p0:(List UInt8)) (p1:(List UInt8)) (p2:Int):Option (Bool) :=
 ( if(decide (p2 ≥ 0)) then
   if(decide (p2≤(p0.length:Int))) then
    cutL p0 p2 (p0.length:Int)>>=fun x2 =>
    strings_HasPrefix x2 p1>>=fun x3 =>
    some x3
   else
    some false
  else
   some false:Option (Bool))>>=fun o1 =>
 some o1
theorem Qnv:∀ (p0:(List UInt8)) (p1:(List UInt8)) (p2:Int) (o:Bool),Qd0 p0 p1 p2=some o→PCall Tryz.prog 29 [sV p0,sV p1,iV p2] (Qh2 o):=by
 intro p0 p1 p2 o h
 unfold Qd0 at h
 refine PCall.ofB mixed tbOk Qua Tryz.func29 rfl (by kernel_rfl) (Nat.le_of_ble_eq_true rfl) ?_
 refine Qaj h (fun o1 ho hk=>?_)
 refine Exists.intro (JP1 _ _ o1 .normal (Qrk )) (And.intro ?_ (join1 ?_))
 ·have h:=ho
  refine Qaf h (fun hb h=>?_) (fun hb h=>?_)
  ·refine vrfl ?_
   refine Qaf h (fun hb h=>?_) (fun hb h=>?_)
   ·refine Qd3 (some p2) none h (fun x2 hi h=>?_)
    refine Qar [sV x2,sV p1] Qga h (fun x3 hy=>(Qo3 x2 p1 x3 hy)) (fun x3 hy h=>?_)
    refine JP1.a h ?_
    exact Le.tz 0 0 rfl rfl rfl
   ·refine JP1.a h ?_
    exact Le.tz 0 0 rfl rfl rfl
  ·refine bF ?_
   refine JP1.a h ?_
   exact Le.tz 0 0 rfl rfl rfl
 ·have h:=hk
  refine Qat (t:=Qh2) h ?_
  exact .refl _
noncomputable def strings_Index (p0:(List UInt8)) (p1:(List UInt8)):Option (Int) :=
 Qci p0 p1>>=fun x1 =>
 some x1
theorem Qmk:∀ (p0:(List UInt8)) (p1:(List UInt8)) (o:Int),strings_Index p0 p1=some o→PCall Tryz.prog 26 [sV p0,sV p1] (Qgx o):=by
 intro p0 p1 o h
 unfold strings_Index at h
 refine PCall.ofB mixed tbOk Qsl Tryz.func26 rfl (by kernel_rfl) (Nat.le_of_ble_eq_true rfl) ?_
 refine Qar [sV p0,sV p1] Qet h (fun x1 hy=>(Qi4 p0 p1 x1 hy)) (fun x1 hy h=>?_)
 refine Qat (t:=Qgx) h ?_
 exact .refl _
mutual
noncomputable def Qct (p0:(List UInt8)) (w0:Int×(List Qab)):Option (((List Qab)×Int×Int)) :=
 cutL p0 w0.1 (p0.length:Int)>>=fun x2 =>
 strings_Index x2 [123,123]>>=fun x3 =>
 ( if(decide (x3<0)) then
   some (wr ((p0.length:Int)-w0.1))
  else
   some x3:Option (Int))>>=fun o4 =>
 ( if(decide (o4>0)) then
   cutL p0 w0.1 (wr (w0.1+o4))>>=fun x6 =>
   Qa0 1 x6 0 o4 p0 w0.1 w0.2>>=fun x7 =>
   some (x7.1,x7.2)
  else
   some (w0.1,w0.2):Option ((Int×(List Qab))))>>=fun o5 =>
 if(o5.1==(p0.length:Int)) then
  some (o5.2,0,0)
 else
  Qa0 2 [] 0 2 p0 o5.1 o5.2>>=fun x8 =>
  Qce p0 x8.1 x8.2>>=fun x9 =>
  ( Qd0 p0 [35] x9>>=fun x13 =>
   if x13 then
    cutL p0 x9 (p0.length:Int)>>=fun x14 =>
    strings_Index x14 [125,125]>>=fun x15 =>
    if(decide (x15<0)) then
     some (.inr ())
    else
     some (.inl (wr (x9+x15)))
   else
    some (.inl x9):Option (Int⊕Unit))>>=fun o10 =>
  match o10 with
  | .inl y11 =>
   Qe9 p0 (y11,x8.2)
  | .inr y12 =>
   some ([],(p0.length:Int),7)
 partial_fixpoint
noncomputable def Qe9 (p0:(List UInt8)) (w1:Int×(List Qab)):Option (((List Qab)×Int×Int)) :=
 Qce p0 w1.1 w1.2>>=fun x16 =>
 Qd0 p0 [125,125] x16>>=fun x17 =>
 if x17 then
  Qa0 3 [] 0 2 p0 x16 w1.2>>=fun x18 =>
  Qct p0 (x18.1,x18.2)
 else
  ( if(x16==(p0.length:Int)) then
    some (true,x16,w1.2)
   else
    Qc2 p0 x16 w1.2>>=fun x20 =>
    some ((!x20.1),x20.2.1,x20.2.2):Option ((Bool×Int×(List Qab))))>>=fun o19 =>
  if o19.1 then
   some ([],o19.2.1,7)
  else
   Qe9 p0 (o19.2.1,o19.2.2)
 partial_fixpoint
end
theorem Qpy:∀ (p0:(List UInt8)),(∀ (w0:Int×(List Qab)) (o1:((List Qab)×Int×Int)),Qct p0 w0=some o1→TG (0,0) Tryz.prog 112 Qdn (behind Qdn 0) (JP1 (0,0) 112 o1 .ret (Qfw p0)) (Qeu p0 w0))∧(∀ (w1:Int×(List Qab)) (o1:((List Qab)×Int×Int)),Qe9 p0 w1=some o1→TG (0,0) Tryz.prog 112 Qdn (behind Qdn 1) (JP1 (0,0) 112 o1 .ret (Qfw p0)) (Qgq p0 w1)):=by
 intro p0
 refine Qct.mutual_partial_correctness p0 _ _ ?_ ?_
 ·intro Qe9' iQe9 w0 o1 h
  refine TG.seqb mixed tbOk (lv:=Qbk) ?_
  refine Qd3 (some w0.1) none h (fun x2 hi h=>?_)
  refine Qar [sV x2,sV [123,123]] Qgx h (fun x3 hy=>(Qmk x2 [123,123] x3 hy)) (fun x3 hy h=>?_)
  refine TG.seqj mixed tbOk (lv:=Qbk) ?_
  refine Qaj h (fun o4 ho hk=>?_)
  refine Exists.intro (JP1 _ _ o4 .normal (Qt3 p0 w0)) (And.intro ?_ (join1 ?_))
  ·have h:=ho
   refine Qaf h (fun hb h=>?_) (fun hb h=>?_)
   ·refine vrfl ?_
    refine JP1.a h ?_
    exact Le.tz 1 1 rfl rfl rfl
   ·refine JP1.a h ?_
    exact Le.tz 1 1 rfl rfl rfl
  ·have h:=hk
   refine TG.seqj mixed tbOk (lv:=Qbk) ?_
   refine Qaj h (fun o5 ho hk=>?_)
   refine Exists.intro (JP1 _ _ o5 .normal (Qt4 p0)) (And.intro ?_ (join1 ?_))
   ·have h:=ho
    refine Qaf h (fun hb h=>?_) (fun hb h=>?_)
    ·refine And.intro (by decide +kernel) (And.intro rfl ?_)
     refine Qd3 (some w0.1) (some (wr (w0.1+o4))) h (fun x6 hi h=>?_)
     refine Qj8 _ _ h (fun x7 hy=>((Qb1 1 x6 0 o4 p0 w0.1 w0.2 x7 hy).fg [0] [0] rfl rfl rfl (Nat.le_of_ble_eq_true rfl))) (fun x7 hy h=>?_)
     refine JP1.a h ?_
     exact Le.tz 1 1 rfl rfl rfl
    ·refine JP1.a h ?_
     exact Le.tz 1 1 rfl rfl rfl
   ·have h:=hk
    refine TG.seqb mixed tbOk (lv:=Qbk) ?_
    refine vrfl ?_
    refine Qaf h (fun hb h=>?_) (fun hb h=>?_)
    ·refine JP1.a h ?_
     exact Le.tz 0 0 rfl rfl rfl
    ·refine TG.seqb mixed tbOk (lv:=Qbk) ?_
     refine Qag _ _ h (fun x8 hy=>((Qb1 2 [] 0 2 p0 o5.1 o5.2 x8 hy).fr [0] [0] rfl rfl rfl)) (fun x8 hy h=>?_)
     refine TG.seqb mixed tbOk (lv:=Qbk) ?_
     refine Qag _ _ h (fun x9 hy=>((Qg4 p0 x8.1 x8.2 x9 hy).fr [0] [0] rfl rfl rfl)) (fun x9 hy h=>?_)
     refine TG.seqj mixed tbOk (lv:=Qbk) ?_
     refine Qaj h (fun o10 ho hk=>?_)
     refine Exists.intro (JP2 _ _ o10 .normal (Qt5 p0 x8 x9) .ret (Qt6 p0 x8 x9)) (And.intro ?_ (join2 (fun y11 hy=>?_) (fun y12 hy=>?_)))
     ·have h:=ho
      refine Qar [sV p0,sV [35],iV x9] Qh2 h (fun x13 hy=>(Qnv p0 [35] x9 x13 hy)) (fun x13 hy h=>?_)
      refine Qaf h (fun hb h=>?_) (fun hb h=>?_)
      ·refine Qd3 (some x9) none h (fun x14 hi h=>?_)
       refine Qar [sV x14,sV [125,125]] Qgx h (fun x15 hy=>(Qmk x14 [125,125] x15 hy)) (fun x15 hy h=>?_)
       refine Qaf h (fun hb h=>?_) (fun hb h=>?_)
       ·refine vrfl ?_
        refine JP2.b h ?_
        exact Le.tz 1 1 rfl rfl rfl
       ·refine JP2.a h ?_
        exact Le.tz 1 1 rfl rfl rfl
      ·refine JP2.a h ?_
       exact Le.tz 1 1 rfl rfl rfl
     ·have h:=(by rw[hy] at hk; exact hk)
      refine TG.label (TG.le (τ := Qgq p0 (y11,x8.2)) ?_ ((iQe9 (y11,x8.2) _ h)))
      exact Le.tz 1 1 rfl rfl rfl
     ·have h:=(by rw[hy] at hk; exact hk)
      refine JP1.a h ?_
      exact Le.tow 0 0 rfl (.cons rfl (.p (.not)) (.cons rfl (.refl _) (.cons rfl (.refl _) (.nil)))) (.refl _) rfl
 ·intro Qct' Qe9' iQct iQe9 w1 o1 h
  refine TG.seqb mixed tbOk (lv:=Qbk) ?_
  refine Qag _ _ h (fun x16 hy=>((Qg4 p0 w1.1 w1.2 x16 hy).fr [0] [0] rfl rfl rfl)) (fun x16 hy h=>?_)
  refine TG.seqb mixed tbOk (lv:=Qbk) ?_
  refine Qar [sV p0,sV [125,125],iV x16] Qh2 h (fun x17 hy=>(Qnv p0 [125,125] x16 x17 hy)) (fun x17 hy h=>?_)
  refine Qaf h (fun hb h=>?_) (fun hb h=>?_)
  ·refine Qag _ _ h (fun x18 hy=>((Qb1 3 [] 0 2 p0 x16 w1.2 x18 hy).fr [0] [0] rfl rfl rfl)) (fun x18 hy h=>?_)
   refine Exists.intro _ (And.intro rfl (TG.skip (TG.le (τ := Qeu p0 (x18.1,x18.2)) ?_ ((iQct (x18.1,x18.2) _ h)))))
   exact Le.tz 1 1 rfl rfl rfl
  ·refine TG.seqb mixed tbOk (lv:=Qbk) ?_
   refine Qaj h (fun o19 ho hk=>?_)
   refine Exists.intro (JP1 _ _ o19 .normal (Qt7 p0)) (And.intro ?_ (join1 ?_))
   ·have h:=ho
    refine vrfl ?_
    refine Qaf h (fun hb h=>?_) (fun hb h=>?_)
    ·refine JP1.a h ?_
     exact Le.tz 1 1 rfl rfl rfl
    ·refine Qag _ _ h (fun x20 hy=>((Qmz p0 x16 w1.2 x20 hy).fr [0] [0] rfl rfl rfl)) (fun x20 hy h=>?_)
     refine JP1.a h ?_
     exact Le.tz 1 1 rfl rfl rfl
   ·have h:=hk
    refine Qaf h (fun hb h=>?_) (fun hb h=>?_)
    ·refine And.intro (by decide +kernel) (And.intro rfl ?_)
     refine JP1.a h ?_
     exact Le.tow 0 0 rfl (.cons rfl (.p (.not)) (.cons rfl (.refl _) (.cons rfl (.refl _) (.nil)))) (.refl _) rfl
    ·refine TG.lastb mixed tbOk (lv:=Qbk) ?_
     refine Exists.intro _ (And.intro rfl (TG.skip (TG.le (τ := Qgq p0 (o19.2.1,o19.2.2)) ?_ ((iQe9 (o19.2.1,o19.2.2) _ h)))))
     exact Le.tz 1 1 rfl rfl rfl
theorem Qqv:∀ (p0:(List UInt8)) (w0:Int×(List Qab)) (o1:((List Qab)×Int×Int)),Qct p0 w0=some o1→TG (0,0) Tryz.prog 112 Qdn (behind Qdn 0) (JP1 (0,0) 112 o1 .ret (Qfw p0)) (Qeu p0 w0):=fun p0 w0=>(Qpy p0).1 w0
noncomputable def Qle (p0:(List UInt8)):Option ((List Qab)×Int×Int) :=
 ( if(decide ((p0.length:Int)>65536)) then
   some ([],0,6)
  else
   Qct p0 (0,[]):Option (((List Qab)×Int×Int)))>>=fun o1 =>
 some (o1.1,o1.2.1,o1.2.2)
theorem Qx3:∀ (p0:(List UInt8)) (o:(List Qab)×Int×Int),Qle p0=some o→PCall Tryz.prog 14 [sV p0] (Qni o):=by
 intro p0 o h
 unfold Qle at h
 refine PCall.ofB mixed tbOk Qbk Tryz.func14 rfl (by kernel_rfl) (Nat.le_of_ble_eq_true rfl) ?_
 refine Qaj h (fun o1 ho hk=>?_)
 refine Exists.intro (JP1 _ _ o1 .ret (Qfw p0)) (And.intro (TG.scope ?_) (join1 ?_))
 ·have h:=ho
  refine TG.seqb mixed tbOk (lv:=Qbk) ?_
  refine vrfl ?_
  refine Qaf h (fun hb h=>?_) (fun hb h=>?_)
  ·refine JP1.a h ?_
   exact Le.tow 0 0 rfl (.cons rfl (.p (.not)) (.cons rfl (.refl _) (.cons rfl (.refl _) (.nil)))) (.refl _) rfl
  ·refine TG.seqb mixed tbOk (lv:=Qbk) ?_
   refine TG.seqb mixed tbOk (lv:=Qbk) ?_
   refine TG.label (TG.le (τ := Qeu p0 (0,[])) ?_ ((Qqv p0 (0,[]) _ h)))
   exact(Le.ownH 0 2 59 5 rfl rfl sizeNil).trans (Le.tz 1 1 rfl rfl rfl)
 ·have h:=hk
  refine Qat (t:=Qni) h ?_
  exact .refl _
noncomputable def Qbb (h0_0:(List Qab)) (h0_1:Int):Option (Qab) :=
 if(h0_1==(h0_0.length:Int)) then
  some (Qab.mk 0 [] 0 0 0)
 else
  idx h0_0 h0_1>>=fun x1 =>
  some x1
theorem Qb2:∀ (h0_0:(List Qab)) (h0_1:Int) (o:Qab),Qbb h0_0 h0_1=some o→CallOK Tryz.prog 31 [.ptr 0 0] ⟨[[.p (.sl false (h0_0.map Qac)),.p (iV h0_1)]],[]⟩ (Qf7 o) ⟨[[.p (.sl false (h0_0.map Qac)),.p (iV h0_1)]],[]⟩:=by
 intro h0_0 h0_1 o h
 unfold Qbb at h
 refine CallOK.ofB mixed tbOk Qow Tryz.func31 rfl (by kernel_rfl) (Nat.le_of_ble_eq_true rfl) rfl rfl rfl ?_
 refine And.intro (by decide +kernel) (And.intro rfl ?_)
 refine view (lenMap _ _) rfl ?_
 refine Qaf h (fun hb h=>?_) (fun hb h=>?_)
 ·refine Exists.intro _ (And.intro (Le.refl _ _ _) ?_)
  exact Qa6 (t:=Qf7) (ss:=fun o=>⟨[[.p (.sl false (h0_0.map Qac)),.p (iV h0_1)]],[]⟩) h ⟨[],rfl,.refl _,.refl _,rfl⟩
 ·refine And.intro (by decide +kernel) (And.intro rfl ?_)
  refine Qcz (l:=h0_0) (c:=Qac) (c' := Qac) h (fun _=>rfl) (fun _=>rfl) (by decide) (fun x1 hi h=>?_)
  refine Exists.intro _ (And.intro (Le.refl _ _ _) ?_)
  exact Qa6 (t:=Qf7) (ss:=fun o=>⟨[[.p (.sl false (h0_0.map Qac)),.p (iV h0_1)]],[]⟩) h ⟨[],rfl,.refl _,.refl _,rfl⟩
noncomputable def Qbo (p1:Int) (h0_0:(List Qab)) (h0_1:Int):Option (Bool×Int) :=
 Qbb h0_0 h0_1>>=fun x1 =>
 if(x1.Kind != p1) then
  some (false,h0_1)
 else
  some (true,(wr (h0_1+1)))
theorem Qcf:∀ (p1:Int) (h0_0:(List Qab)) (h0_1:Int) (o:Bool×Int),Qbo p1 h0_0 h0_1=some o→CallOK Tryz.prog 32 [.ptr 0 0,.p (iV p1)] ⟨[[.p (.sl false (h0_0.map Qac)),.p (iV h0_1)]],[]⟩ (Qf8 o) ⟨[[.p (.sl false (h0_0.map Qac)),.p (iV o.2)]],[]⟩:=by
 intro p1 h0_0 h0_1 o h
 unfold Qbo at h
 refine CallOK.ofB mixed tbOk Qox Tryz.func32 rfl (by kernel_rfl) (Nat.le_of_ble_eq_true rfl) rfl rfl rfl ?_
 refine Qag _ _ h (fun x1 hy=>((Qb2 h0_0 h0_1 x1 hy).fr [0] [] rfl rfl rfl)) (fun x1 hy h=>?_)
 refine Qaf h (fun hb h=>?_) (fun hb h=>?_)
 ·refine Exists.intro _ (And.intro (Le.refl _ _ _) ?_)
  exact Qa6 (t:=Qf8) (ss:=fun o=>⟨[[.p (.sl false (h0_0.map Qac)),.p (iV o.2)]],[]⟩) h ⟨[],rfl,.refl _,.refl _,rfl⟩
 ·refine Exists.intro _ (And.intro (Le.refl _ _ _) ?_)
  exact Qa6 (t:=Qf8) (ss:=fun o=>⟨[[.p (.sl false (h0_0.map Qac)),.p (iV o.2)]],[]⟩) h ⟨[],rfl,.refl _,.refl _,rfl⟩
noncomputable def Qa1 (p1:Bool) (h0_0:(List Qab)) (h0_1:Int):Option ((Unit)⊕(Unit)) :=
 some (mustO p1)
theorem Qa8:∀ (p1:Bool) (h0_0:(List Qab)) (h0_1:Int) (o:(Unit)⊕(Unit)),Qa1 p1 h0_0 h0_1=some o→CallS Tryz.prog 36 [.ptr 0 0,.p (bV p1)] ⟨[[.p (.sl false (h0_0.map Qac)),.p (iV h0_1)]],[]⟩ Qpo (fun(o:Unit)=>⟨[[.p (.sl false (h0_0.map Qac)),.p (iV h0_1)]],[]⟩) (fun(o:Unit)=>⟨[[.p (.sl false (h0_0.map Qac)),.p (iV h0_1)]],[]⟩) o:=by
 intro p1 h0_0 h0_1 o h
 unfold Qa1 at h
 cases h
 exact Q7b _ _ _ _ rfl _ rfl
noncomputable def Qaq (p1:Int) (h0_0:(List Qab)) (h0_1:Int):Option ((Qab×Int)⊕(Unit)) :=
 Qbb h0_0 h0_1>>=fun x1 =>
 Qa1 (x1.Kind==p1) h0_0 h0_1>>=fun o3 =>
 match o3 with
 | .inl x2 =>
  some (.inl (x1,(wr (h0_1+1))))
 | .inr z4 =>
  some (.inr ())
theorem Qal:∀ (p1:Int) (h0_0:(List Qab)) (h0_1:Int) (o:(Qab×Int)⊕(Unit)),Qaq p1 h0_0 h0_1=some o→CallS Tryz.prog 33 [.ptr 0 0,.p (iV p1)] ⟨[[.p (.sl false (h0_0.map Qac)),.p (iV h0_1)]],[]⟩ Qjz (fun(o:Qab×Int)=>⟨[[.p (.sl false (h0_0.map Qac)),.p (iV o.2)]],[]⟩) (fun(o:Unit)=>⟨[[.p (.sl false (h0_0.map Qac)),.p (iV h0_1)]],[]⟩) o:=by
 intro p1 h0_0 h0_1 o h
 unfold Qaq at h
 refine CallS.ofB mixed tbOk Qoz Tryz.func33 rfl (by kernel_rfl) (Nat.le_of_ble_eq_true rfl) (fun _=>rfl) (fun _=>rfl) (fun _=>rfl) (fun _=>rfl) (fun _=>rfl) ?_
 refine Qag _ _ h (fun x1 hy=>((Qb2 h0_0 h0_1 x1 hy).fr [0] [] rfl rfl rfl)) (fun x1 hy h=>?_)
 refine xle ?_
 refine Qbc _ _ _ h (fun x2 hy=>(Qa8 (x1.Kind==p1) h0_0 h0_1 (.inl x2) hy).a.fr [0] [] rfl rfl rfl) (fun z4 hy=>(Qa8 (x1.Kind==p1) h0_0 h0_1 (.inr z4) hy).b.fr [0] [] rfl rfl rfl) (fun x2 hy h=>?_) (fun z4 hy h=>?_)
 ·refine Exists.intro _ (And.intro (Le.refl _ _ _) ?_)
  exact Qdm (t:=Qjz) (ss:=fun(o:Qab×Int)=>⟨[[.p (.sl false (h0_0.map Qac)),.p (iV o.2)]],[]⟩) h ⟨[],rfl,.refl _,.refl _,rfl⟩
 ·refine xle ?_
  exact Qb9 (sp:=fun(o:Unit)=>⟨[[.p (.sl false (h0_0.map Qac)),.p (iV h0_1)]],[]⟩) h ⟨[],rfl,.refl _,.refl _,rfl⟩
noncomputable instance Qwd:Lean.Order.CCPO ((List Qaa)→(List Qaa)→(List Qaa)→Option ((Int×Int×(List UInt8)×(List UInt8)×Int×(List Qaa)×(List Qaa)×(List Qaa))⊕(Int×Int×(List UInt8)×(List UInt8)×Int×(List Qaa)×(List Qaa)×(List Qaa)))):=inferInstance
noncomputable instance Qwe:Lean.Order.CCPO ((List UInt8)→(List UInt8)→Int→(List Qaa)→(List Qaa)→(List Qaa)→Option ((Int×Int×(List UInt8)×(List UInt8)×Int×(List Qaa)×(List Qaa)×(List Qaa))⊕(Int×Int×(List UInt8)×(List UInt8)×Int×(List Qaa)×(List Qaa)×(List Qaa)))):=inferInstance
noncomputable def Qbq (h0_0:(List Qab)) (h0_1_:Int) (h2_0:Int) (h2_1:(List UInt8)) (h2_2:(List UInt8)) (h2_3:Int) (h2_4:(List Qaa)) (h2_5:(List Qaa)) (h2_6:(List Qaa)):Option ((Int×Int×(List UInt8)×(List UInt8)×Int×(List Qaa)×(List Qaa)×(List Qaa))⊕(Int×Int×(List UInt8)×(List UInt8)×Int×(List Qaa)×(List Qaa)×(List Qaa))) :=
 Qbo 7 h0_0 h0_1_>>=fun x7 =>
 if x7.1 then
  Qaq 4 h0_0 x7.2>>=fun o9 =>
  match o9 with
  | .inl x8 =>
   Qbq h0_0 x8.2 5 x8.1.Text [] 0 [(Qaa.mk h2_0 h2_1 h2_2 h2_3 h2_4 h2_5 h2_6)] [] []
  | .inr z10 =>
   some (.inr (x7.2,h2_0,h2_1,h2_2,h2_3,h2_4,h2_5,h2_6))
 else
  some (.inl (x7.2,h2_0,h2_1,h2_2,h2_3,h2_4,h2_5,h2_6))
 partial_fixpoint
theorem Qlf:∀ (h0_0:(List Qab)),(∀ (h0_1_:Int) (h2_0:Int) (h2_1:(List UInt8)) (h2_2:(List UInt8)) (h2_3:Int) (h2_4:(List Qaa)) (h2_5:(List Qaa)) (h2_6:(List Qaa)) (o4:(Int×Int×(List UInt8)×(List UInt8)×Int×(List Qaa)×(List Qaa)×(List Qaa))⊕(Int×Int×(List UInt8)×(List UInt8)×Int×(List Qaa)×(List Qaa)×(List Qaa))),Qbq h0_0 h0_1_ h2_0 h2_1 h2_2 h2_3 h2_4 h2_5 h2_6=some o4→TL (1,0) Tryz.prog 15 Qhe (JP2 (1,0) 15 o4 (.exit 0) (Qd6 h0_0) (.panic panCH) (Qd7 h0_0)) (Qcy h0_0 h0_1_ h2_0 h2_1 h2_2 h2_3 h2_4 h2_5 h2_6)):=by
 intro h0_0
 refine Qbq.partial_correctness h0_0 _ ?_
 intro Qbq' iQbq h0_1_ h2_0 h2_1 h2_2 h2_3 h2_4 h2_5 h2_6 o4 h
 refine TL.round (Qam mixed tbOk (lv:=Qi8) _ _ _ ?_)
 refine Qag _ _ h (fun x7 hy=>((Qcf 7 h0_0 h0_1_ x7 hy).fr [0] [] rfl rfl rfl)) (fun x7 hy h=>?_)
 refine Qaf h (fun hb h=>?_) (fun hb h=>?_)
 ·refine xle ?_
  refine Q6d h (fun x8 hy h=>?_) (fun z10 hy h=>?_)
  ·refine And.intro (by decide +kernel) (And.intro rfl ?_)
   refine Exists.intro _ (Exists.intro _ (And.intro ((Qal 4 h0_0 x7.2 (.inl x8) hy).a.fg [0] [] rfl rfl rfl (Nat.le_of_ble_eq_true rfl)) ?_))
   refine TL.le (τ := Qcy h0_0 x8.2 5 x8.1.Text [] 0 [(Qaa.mk h2_0 h2_1 h2_2 h2_3 h2_4 h2_5 h2_6)] [] []) ?_ ((iQbq x8.2 5 x8.1.Text [] 0 [(Qaa.mk h2_0 h2_1 h2_2 h2_3 h2_4 h2_5 h2_6)] [] [] _ h))
   exact Le.tow 3 0 rfl (.cons rfl (.refl _) (.cons rfl (.refl _) (.cons rfl (.refl _) (.nil)))) (.cons (.refl _) (.cons (.refl _) (.cons (.cons (.refl _) (.cons (.refl _) (.cons (.refl _) (.cons (.refl _) (.cons (.p (.no (.cons (.ceq (Qai _) (.refl _)) (.nil)))) (.cons (.p (.not)) (.cons (.p (.not)) (.nil)))))))) (.nil)))) rfl
  ·refine Exists.intro ((.op 0 (.pan 1 (.op 3 (.pan 1 (.op 4 (.pan 1 (.nil)) (.nil))) (.nil))) (.op 3 (.op 0 (.pan 1 (.op 4 (.pan 1 (.nil)) (.nil))) (.op 4 (.op 0 (.pan 1 (.nil)) (.nil)) (.nil))) (.nil)):PT)) (And.intro (by decide +kernel) ?_)
   refine And.intro (And.intro ?_ (And.intro (And.intro ?_ (And.intro (And.intro ?_ (trivial)) (trivial))) (trivial))) (And.intro (And.intro (And.intro ?_ (And.intro (And.intro ?_ (trivial)) (trivial))) (And.intro (And.intro (And.intro ?_ (trivial)) (trivial)) (trivial))) (trivial))
   all_goals
    refine Or.inr (Exists.intro _ (And.intro ((Qal 4 h0_0 x7.2 (.inr z10) hy).b.fr [0] [] rfl rfl rfl) ?_))
    exact JP2.b h (Le.tz 3 0 rfl rfl rfl)
 ·exact JP2.a h (Le.tz 3 0 rfl rfl rfl)
theorem Qmc:∀ (h0_0:(List Qab)) (h0_1_:Int) (h2_0:Int) (h2_1:(List UInt8)) (h2_2:(List UInt8)) (h2_3:Int) (h2_4:(List Qaa)) (h2_5:(List Qaa)) (h2_6:(List Qaa)) (o4:(Int×Int×(List UInt8)×(List UInt8)×Int×(List Qaa)×(List Qaa)×(List Qaa))⊕(Int×Int×(List UInt8)×(List UInt8)×Int×(List Qaa)×(List Qaa)×(List Qaa))),Qbq h0_0 h0_1_ h2_0 h2_1 h2_2 h2_3 h2_4 h2_5 h2_6=some o4→TL (1,0) Tryz.prog 15 Qhe (JP2 (1,0) 15 o4 (.exit 0) (Qd6 h0_0) (.panic panCH) (Qd7 h0_0)) (Qcy h0_0 h0_1_ h2_0 h2_1 h2_2 h2_3 h2_4 h2_5 h2_6):=fun h0_0 h0_1_ h2_0 h2_1 h2_2 h2_3 h2_4 h2_5 h2_6=>(Qlf h0_0) h0_1_ h2_0 h2_1 h2_2 h2_3 h2_4 h2_5 h2_6
noncomputable def Qnw (p0:(List UInt8)):Option (Bool) :=
 ( if(p0==[105,102]) then
   some (p0==[105,102])
  else
   if(p0==[101,108,115,101]) then
    some (p0==[101,108,115,101])
   else
    if(p0==[101,110,100]) then
     some (p0==[101,110,100])
    else
     if(p0==[101,97,99,104]) then
      some (p0==[101,97,99,104])
     else
      if(p0==[105,110]) then
       some (p0==[105,110])
      else
       if(p0==[108,101,116]) then
        some (p0==[108,101,116])
       else
        if(p0==[117,115,101]) then
         some (p0==[117,115,101])
        else
         if(p0==[116,114,117,101]) then
          some (p0==[116,114,117,101])
         else
          if(p0==[102,97,108,115,101]) then
           some (p0==[102,97,108,115,101])
          else
           some (p0==[115,101,99,114,101,116]):Option (Bool))>>=fun o1 =>
 if o1 then
  some false
 else
  Qkj p0>>=fun x2 =>
  some x2
theorem Qz3:∀ (p0:(List UInt8)) (o:Bool),Qnw p0=some o→PCall Tryz.prog 93 [sV p0] (Ql4 o):=by
 intro p0 o h
 unfold Qnw at h
 refine PCall.ofB mixed tbOk Qzu Tryz.func93 rfl (by kernel_rfl) (Nat.le_of_ble_eq_true rfl) ?_
 refine Qaj h (fun o1 ho hk=>?_)
 refine Exists.intro (JP1 _ _ o1 .normal (Qvg p0)) (And.intro ?_ (join1 ?_))
 ·have h:=ho
  refine Qaf h (fun hb h=>?_) (fun hb h=>?_)
  ·refine JP1.a h ?_
   exact Le.tz 0 0 rfl rfl rfl
  ·refine Qaf h (fun hb h=>?_) (fun hb h=>?_)
   ·refine JP1.a h ?_
    exact Le.tz 0 0 rfl rfl rfl
   ·refine Qaf h (fun hb h=>?_) (fun hb h=>?_)
    ·refine JP1.a h ?_
     exact Le.tz 0 0 rfl rfl rfl
    ·refine Qaf h (fun hb h=>?_) (fun hb h=>?_)
     ·refine JP1.a h ?_
      exact Le.tz 0 0 rfl rfl rfl
     ·refine Qaf h (fun hb h=>?_) (fun hb h=>?_)
      ·refine JP1.a h ?_
       exact Le.tz 0 0 rfl rfl rfl
      ·refine Qaf h (fun hb h=>?_) (fun hb h=>?_)
       ·refine JP1.a h ?_
        exact Le.tz 0 0 rfl rfl rfl
       ·refine Qaf h (fun hb h=>?_) (fun hb h=>?_)
        ·refine JP1.a h ?_
         exact Le.tz 0 0 rfl rfl rfl
        ·refine Qaf h (fun hb h=>?_) (fun hb h=>?_)
         ·refine JP1.a h ?_
          exact Le.tz 0 0 rfl rfl rfl
         ·refine Qaf h (fun hb h=>?_) (fun hb h=>?_)
          ·refine JP1.a h ?_
           exact Le.tz 0 0 rfl rfl rfl
          ·refine JP1.a h ?_
           exact Le.tz 0 0 rfl rfl rfl
 ·have h:=hk
  refine Qaf h (fun hb h=>?_) (fun hb h=>?_)
  ·refine Qat (t:=Ql4) h ?_
   exact .refl _
  ·refine Qar [sV p0] Qjj h (fun x2 hy=>(Qpw p0 x2 hy)) (fun x2 hy h=>?_)
   refine Qat (t:=Ql4) h ?_
   exact .refl _
noncomputable def Qcb (h0_0:(List Qab)) (h0_1:Int):Option (((List UInt8)×Int)⊕(Unit)) :=
 Qbb h0_0 h0_1>>=fun x1 =>
 Qnw x1.Text>>=fun x2 =>
 Qa1 x2 h0_0 h0_1>>=fun o4 =>
 match o4 with
 | .inl x3 =>
  Qaq 4 h0_0 h0_1>>=fun o7 =>
  match o7 with
  | .inl x6 =>
   some (.inl (x6.1.Text,x6.2))
  | .inr z8 =>
   some (.inr ())
 | .inr z5 =>
  some (.inr ())
theorem Qbr:∀ (h0_0:(List Qab)) (h0_1:Int) (o:((List UInt8)×Int)⊕(Unit)),Qcb h0_0 h0_1=some o→CallS Tryz.prog 58 [.ptr 0 0] ⟨[[.p (.sl false (h0_0.map Qac)),.p (iV h0_1)]],[]⟩ Qjy (fun(o:(List UInt8)×Int)=>⟨[[.p (.sl false (h0_0.map Qac)),.p (iV o.2)]],[]⟩) (fun(o:Unit)=>⟨[[.p (.sl false (h0_0.map Qac)),.p (iV h0_1)]],[]⟩) o:=by
 intro h0_0 h0_1 o h
 unfold Qcb at h
 refine CallS.ofB mixed tbOk Qov Tryz.func58 rfl (by kernel_rfl) (Nat.le_of_ble_eq_true rfl) (fun _=>rfl) (fun _=>rfl) (fun _=>rfl) (fun _=>rfl) (fun _=>rfl) ?_
 refine xle ?_
 refine Qag _ _ h (fun x1 hy=>((Qb2 h0_0 h0_1 x1 hy).fr [0] [] rfl rfl rfl)) (fun x1 hy h=>?_)
 refine Qar [sV x1.Text] Ql4 h (fun x2 hy=>(Qz3 x1.Text x2 hy)) (fun x2 hy h=>?_)
 refine Qbc _ _ _ h (fun x3 hy=>(Qa8 x2 h0_0 h0_1 (.inl x3) hy).a.fr [0] [] rfl rfl rfl) (fun z5 hy=>(Qa8 x2 h0_0 h0_1 (.inr z5) hy).b.fr [0] [] rfl rfl rfl) (fun x3 hy h=>?_) (fun z5 hy h=>?_)
 ·refine xle ?_
  refine Qbc _ _ _ h (fun x6 hy=>(Qal 4 h0_0 h0_1 (.inl x6) hy).a.fr [0] [] rfl rfl rfl) (fun z8 hy=>(Qal 4 h0_0 h0_1 (.inr z8) hy).b.fr [0] [] rfl rfl rfl) (fun x6 hy h=>?_) (fun z8 hy h=>?_)
  ·refine Exists.intro _ (And.intro (Le.refl _ _ _) ?_)
   exact Qdm (t:=Qjy) (ss:=fun(o:(List UInt8)×Int)=>⟨[[.p (.sl false (h0_0.map Qac)),.p (iV o.2)]],[]⟩) h ⟨[],rfl,.refl _,.refl _,rfl⟩
  ·refine xle ?_
   exact Qb9 (sp:=fun(o:Unit)=>⟨[[.p (.sl false (h0_0.map Qac)),.p (iV h0_1)]],[]⟩) h ⟨[],rfl,.refl _,.refl _,rfl⟩
 ·refine xle ?_
  exact Qb9 (sp:=fun(o:Unit)=>⟨[[.p (.sl false (h0_0.map Qac)),.p (iV h0_1)]],[]⟩) h ⟨[],rfl,.refl _,.refl _,rfl⟩
noncomputable def Qav (p1:(List UInt8)) (h0_0:(List Qab)) (h0_1:Int):Option (Bool×Int) :=
 Qbb h0_0 h0_1>>=fun x1 =>
 ( if(x1.Kind != 4) then
   some true
  else
   some (!(x1.Text==p1)):Option (Bool))>>=fun o2 =>
 if o2 then
  some (false,h0_1)
 else
  some (true,(wr (h0_1+1)))
theorem Qa9:∀ (p1:(List UInt8)) (h0_0:(List Qab)) (h0_1:Int) (o:Bool×Int),Qav p1 h0_0 h0_1=some o→CallOK Tryz.prog 34 [.ptr 0 0,.p (sV p1)] ⟨[[.p (.sl false (h0_0.map Qac)),.p (iV h0_1)]],[]⟩ (Qf9 o) ⟨[[.p (.sl false (h0_0.map Qac)),.p (iV o.2)]],[]⟩:=by
 intro p1 h0_0 h0_1 o h
 unfold Qav at h
 refine CallOK.ofB mixed tbOk Qo0 Tryz.func34 rfl (by kernel_rfl) (Nat.le_of_ble_eq_true rfl) rfl rfl rfl ?_
 refine Qag _ _ h (fun x1 hy=>((Qb2 h0_0 h0_1 x1 hy).fr [0] [] rfl rfl rfl)) (fun x1 hy h=>?_)
 refine Qaj h (fun o2 ho hk=>?_)
 refine Exists.intro (JP1 _ _ o2 .normal (Qmv h0_0 h0_1 x1)) (And.intro ?_ (join1 ?_))
 ·have h:=ho
  refine Qaf h (fun hb h=>?_) (fun hb h=>?_)
  ·refine JP1.a h ?_
   exact Le.tz 2 0 rfl rfl rfl
  ·refine JP1.a h ?_
   exact Le.tz 2 0 rfl rfl rfl
 ·have h:=hk
  refine Qaf h (fun hb h=>?_) (fun hb h=>?_)
  ·refine Exists.intro _ (And.intro (Le.refl _ _ _) ?_)
   exact Qa6 (t:=Qf9) (ss:=fun o=>⟨[[.p (.sl false (h0_0.map Qac)),.p (iV o.2)]],[]⟩) h ⟨[],rfl,.refl _,.refl _,rfl⟩
  ·refine Exists.intro _ (And.intro (Le.refl _ _ _) ?_)
   exact Qa6 (t:=Qf9) (ss:=fun o=>⟨[[.p (.sl false (h0_0.map Qac)),.p (iV o.2)]],[]⟩) h ⟨[],rfl,.refl _,.refl _,rfl⟩
mutual
noncomputable def Qdu (h0_0:(List Qab)) (h0_1:Int):Option (((List Qaa)×Int)⊕(Int)) :=
 Qbo 9 h0_0 h0_1>>=fun x1 =>
 if x1.1 then
  some (.inl ([],x1.2))
 else
  Qcc h0_0 x1.2>>=fun o3 =>
  match o3 with
  | .inl x2 =>
   (Qbs h0_0 [x2.1] x2.2)>>=fun o5 =>
   match o5 with
   | .inl y6 =>
    Qaq 9 h0_0 y6.2>>=fun o15 =>
    match o15 with
    | .inl x14 =>
     some (.inl (y6.1,x14.2))
    | .inr z16 =>
     some (.inr y6.2)
   | .inr y7 =>
    some (.inr y7)
  | .inr z4 =>
   some (.inr z4)
 partial_fixpoint
noncomputable def Qbs (h0_0:(List Qab)) (v3:(List Qaa)) (h0_1_:Int):Option (((List Qaa)×Int)⊕Int) :=
 ( if(decide ((v3.length:Int)<3)) then
   Qbo 10 h0_0 h0_1_>>=fun x9 =>
   some (x9.1,x9.2)
  else
   some (false,h0_1_):Option ((Bool×Int)))>>=fun o8 =>
 if o8.1 then
  Qcc h0_0 o8.2>>=fun o11 =>
  match o11 with
  | .inl x10 =>
   appL 120 v3 [x10.1]>>=fun x13 =>
   Qbs h0_0 x13 x10.2
  | .inr z12 =>
   some (.inr z12)
 else
  some (.inl (v3,o8.2))
 partial_fixpoint
noncomputable def Qcc (h0_0:(List Qab)) (h0_1:Int):Option ((Qaa×Int)⊕(Int)) :=
 Qey h0_0 h0_1>>=fun o2 =>
 match o2 with
 | .inl x1 =>
  (Qbq h0_0 x1.2 x1.1.Kind x1.1.Name x1.1.Text x1.1.N x1.1.L x1.1.Then x1.1.Else)>>=fun o4 =>
  match o4 with
  | .inl y5 =>
   some (.inl ((Qaa.mk y5.2.1 y5.2.2.1 y5.2.2.2.1 y5.2.2.2.2.1 y5.2.2.2.2.2.1 y5.2.2.2.2.2.2.1 y5.2.2.2.2.2.2.2),y5.1))
  | .inr y6 =>
   some (.inr y6.1)
 | .inr z3 =>
  some (.inr z3)
 partial_fixpoint
noncomputable def Qey (h0_0:(List Qab)) (h0_1:Int):Option ((Qaa×Int)⊕(Int)) :=
 Qbb h0_0 h0_1>>=fun x1 =>
 if(x1.Kind==5) then
  some (.inl ((Qaa.mk 1 [] x1.Text 0 [] [] []),(wr (h0_1+1))))
 else
  if(x1.Kind==6) then
   some (.inl ((Qaa.mk 2 [] [] x1.N [] [] []),(wr (h0_1+1))))
  else
   Qav [116,114,117,101] h0_0 h0_1>>=fun x2 =>
   if x2.1 then
    some (.inl ((Qaa.mk 3 [] [] 1 [] [] []),x2.2))
   else
    Qav [102,97,108,115,101] h0_0 x2.2>>=fun x3 =>
    if x3.1 then
     some (.inl ((Qaa.mk 3 [] [] 0 [] [] []),x3.2))
    else
     Qav [115,101,99,114,101,116] h0_0 x3.2>>=fun x4 =>
     if x4.1 then
      Qaq 8 h0_0 x4.2>>=fun o6 =>
      match o6 with
      | .inl x5 =>
       Qbb h0_0 x5.2>>=fun x8 =>
       Qkj x8.Text>>=fun x9 =>
       Qa1 x9 h0_0 x5.2>>=fun o11 =>
       match o11 with
       | .inl x10 =>
        Qaq 5 h0_0 x5.2>>=fun o14 =>
        match o14 with
        | .inl x13 =>
         Qaq 9 h0_0 x13.2>>=fun o17 =>
         match o17 with
         | .inl x16 =>
          some (.inl ((Qaa.mk 7 x13.1.Text [] 0 [] [] []),x16.2))
         | .inr z18 =>
          some (.inr x13.2)
        | .inr z15 =>
         some (.inr x5.2)
       | .inr z12 =>
        some (.inr x5.2)
      | .inr z7 =>
       some (.inr x4.2)
     else
      Qcb h0_0 x4.2>>=fun o20 =>
      match o20 with
      | .inl x19 =>
       Qbo 8 h0_0 x19.2>>=fun x22 =>
       if x22.1 then
        Qdu h0_0 x22.2>>=fun o24 =>
        match o24 with
        | .inl x23 =>
         some (.inl ((Qaa.mk 6 x19.1 [] 0 x23.1 [] []),x23.2))
        | .inr z25 =>
         some (.inr z25)
       else
        some (.inl ((Qaa.mk 4 x19.1 [] 0 [] [] []),x22.2))
      | .inr z21 =>
       some (.inr x4.2)
 partial_fixpoint
end
theorem Qnx:∀ (h0_0:(List Qab)),(∀ (h0_1:Int) (o:((List Qaa)×Int)⊕(Int)),Qdu h0_0 h0_1=some o→CallS Tryz.prog 120 [.ptr 0 0] ⟨[[.p (.sl false (h0_0.map Qac)),.p (iV h0_1)]],[]⟩ Qf5 (fun(o:(List Qaa)×Int)=>⟨[[.p (.sl false (h0_0.map Qac)),.p (iV o.2)]],[]⟩) (fun(o:Int)=>⟨[[.p (.sl false (h0_0.map Qac)),.p (iV o)]],[]⟩) o)∧(∀ (v3:(List Qaa)) (h0_1_:Int) (o5:((List Qaa)×Int)⊕Int),Qbs h0_0 v3 h0_1_=some o5→TL (1,0) Tryz.prog 24 Qmt (JP2 (1,0) 24 o5 (.exit 0) (Qgu h0_0) (.panic panCH) (Qgv h0_0)) (Qd5 h0_0 v3 h0_1_))∧(∀ (h0_1:Int) (o:(Qaa×Int)⊕(Int)),Qcc h0_0 h0_1=some o→CallS Tryz.prog 92 [.ptr 0 0] ⟨[[.p (.sl false (h0_0.map Qac)),.p (iV h0_1)]],[]⟩ Qf6 (fun(o:Qaa×Int)=>⟨[[.p (.sl false (h0_0.map Qac)),.p (iV o.2)]],[]⟩) (fun(o:Int)=>⟨[[.p (.sl false (h0_0.map Qac)),.p (iV o)]],[]⟩) o)∧(∀ (h0_1:Int) (o:(Qaa×Int)⊕(Int)),Qey h0_0 h0_1=some o→CallS Tryz.prog 111 [.ptr 0 0] ⟨[[.p (.sl false (h0_0.map Qac)),.p (iV h0_1)]],[]⟩ Qbp (fun(o:Qaa×Int)=>⟨[[.p (.sl false (h0_0.map Qac)),.p (iV o.2)]],[]⟩) (fun(o:Int)=>⟨[[.p (.sl false (h0_0.map Qac)),.p (iV o)]],[]⟩) o):=by
 intro h0_0
 refine Qdu.mutual_partial_correctness h0_0 _ _ _ _ ?_ ?_ ?_ ?_
 ·intro Qbs' Qcc' iQbs iQcc h0_1 o h
  refine CallS.ofB mixed tbOk Qi7 Tryz.func120 rfl (by kernel_rfl) (Nat.le_of_ble_eq_true rfl) (fun _=>rfl) (fun _=>rfl) (fun _=>rfl) (fun _=>rfl) (fun _=>rfl) ?_
  refine Qag _ _ h (fun x1 hy=>((Qcf 9 h0_0 h0_1 x1 hy).fr [0] [] rfl rfl rfl)) (fun x1 hy h=>?_)
  refine Qaf h (fun hb h=>?_) (fun hb h=>?_)
  ·refine Exists.intro _ (And.intro (Le.refl _ _ _) ?_)
   exact Qdm (t:=Qf5) (ss:=fun(o:(List Qaa)×Int)=>⟨[[.p (.sl false (h0_0.map Qac)),.p (iV o.2)]],[]⟩) h ⟨[],rfl,.p (.not),.refl _,rfl⟩
  ·refine xle ?_
   refine Qbc _ _ _ h (fun x2 hy=>(iQcc x1.2 (.inl x2) hy).a.fr [0] [] rfl rfl rfl) (fun z4 hy=>(iQcc x1.2 (.inr z4) hy).b.fr [0] [] rfl rfl rfl) (fun x2 hy h=>?_) (fun z4 hy h=>?_)
   ·refine Qaj h (fun o5 ho hk=>?_)
    refine Exists.intro (JP2 _ _ o5 (.exit 0) (Qgu h0_0) (.panic panCH) (Qgv h0_0)) (And.intro (T_le (τ := Qd5 h0_0 [x2.1] x2.2) ?_ (TL.loop (iQbs [x2.1] x2.2 o5 ho))) (join2 (fun y6 hy=>?_) (fun y7 hy=>?_)))
    ·exact Le.trans (τ := ⟨[(0,.ptr 0 0),(3,.p (.sl true ([x2.1].map Qae)))],⟨[[.p (.sl false (h0_0.map Qac)),.p (iV x2.2)]],[]⟩⟩) (Le.tow 1 0 rfl (.cons rfl (.refl _) (.cons rfl (.p (.sl' (fun h=>h) (.cons (.ceq (Qai _) (.refl _)) (.nil)))) (.nil))) (.refl _) rfl) ((Le.ownW 3 37 7 rfl (mapSize fun x=>by rw[Qai]; rfl)).trans (Le.tz 1 1 rfl rfl rfl))
    ·have h:=(by rw[hy] at hk; exact hk)
     refine xle ?_
     refine Qbc _ _ _ h (fun x14 hy=>(Qal 9 h0_0 y6.2 (.inl x14) hy).a.fr [0] [] rfl rfl rfl) (fun z16 hy=>(Qal 9 h0_0 y6.2 (.inr z16) hy).b.fr [0] [] rfl rfl rfl) (fun x14 hy h=>?_) (fun z16 hy h=>?_)
     ·refine Exists.intro _ (And.intro (Le.refl _ _ _) ?_)
      exact Qdm (t:=Qf5) (ss:=fun(o:(List Qaa)×Int)=>⟨[[.p (.sl false (h0_0.map Qac)),.p (iV o.2)]],[]⟩) h ⟨[],rfl,.refl _,.refl _,rfl⟩
     ·refine xle ?_
      exact Qb9 (sp:=fun(o:Int)=>⟨[[.p (.sl false (h0_0.map Qac)),.p (iV o)]],[]⟩) h ⟨[],rfl,.refl _,.refl _,rfl⟩
    ·have h:=(by rw[hy] at hk; exact hk)
     refine xle ?_
     exact Qb9 (sp:=fun(o:Int)=>⟨[[.p (.sl false (h0_0.map Qac)),.p (iV o)]],[]⟩) h ⟨[],rfl,.refl _,.refl _,rfl⟩
   ·refine xle ?_
    exact Qb9 (sp:=fun(o:Int)=>⟨[[.p (.sl false (h0_0.map Qac)),.p (iV o)]],[]⟩) h ⟨[],rfl,.refl _,.refl _,rfl⟩
 ·intro Qbs' Qcc' iQbs iQcc v3 h0_1_ o5 h
  refine TL.round (Qam mixed tbOk (lv:=Qi7) _ _ _ ?_)
  refine Qaj h (fun o8 ho hk=>?_)
  refine Exists.intro (JP1 _ _ o8 .normal (Qms h0_0 v3)) (And.intro ?_ (join1 ?_))
  ·have h:=ho
   refine view (lenMap _ _) rfl ?_
   refine Qaf h (fun hb h=>?_) (fun hb h=>?_)
   ·refine Qag _ _ h (fun x9 hy=>((Qcf 10 h0_0 h0_1_ x9 hy).fr [0] [] rfl rfl rfl)) (fun x9 hy h=>?_)
    refine JP1.a h ?_
    exact Le.tz 1 1 rfl rfl rfl
   ·refine JP1.a h ?_
    exact Le.tz 1 1 rfl rfl rfl
  ·have h:=hk
   refine Qaf h (fun hb h=>?_) (fun hb h=>?_)
   ·refine xle ?_
    refine Qbc _ _ _ h (fun x10 hy=>(iQcc o8.2 (.inl x10) hy).a.fr [0] [] rfl rfl rfl) (fun z12 hy=>(iQcc o8.2 (.inr z12) hy).b.fr [0] [] rfl rfl rfl) (fun x10 hy h=>?_) (fun z12 hy h=>?_)
    ·refine Qpf (a:=v3) (b:=[x10.1]) (c:=Qae) h (.cons (.ceq (Qai _) (.refl _)) (.nil)) (fun x=>by rw[Qai]; rfl) rfl (fun x13 hi h=>?_)
     refine TL.le (τ := Qd5 h0_0 x13 x10.2) ?_ ((iQbs x13 x10.2 _ h))
     exact Le.tz 1 1 rfl rfl rfl
    ·exact JP2.b h (Le.tz 1 0 rfl rfl rfl)
   ·exact JP2.a h (Le.tz 1 1 rfl rfl rfl)
 ·intro Qey' iQey h0_1 o h
  refine CallS.ofB mixed tbOk Qi8 Tryz.func92 rfl (by kernel_rfl) (Nat.le_of_ble_eq_true rfl) (fun _=>rfl) (fun _=>rfl) (fun _=>rfl) (fun _=>rfl) (fun _=>rfl) ?_
  refine xle ?_
  refine Qbc _ _ _ h (fun x1 hy=>(iQey h0_1 (.inl x1) hy).a.fr [0] [] rfl rfl rfl) (fun z3 hy=>(iQey h0_1 (.inr z3) hy).b.fr [0] [] rfl rfl rfl) (fun x1 hy h=>?_) (fun z3 hy h=>?_)
  ·refine Qaj h (fun o4 ho hk=>?_)
   refine Exists.intro (JP2 _ _ o4 (.exit 0) (Qd6 h0_0) (.panic panCH) (Qd7 h0_0)) (And.intro (T_le (τ := Qcy h0_0 x1.2 x1.1.Kind x1.1.Name x1.1.Text x1.1.N x1.1.L x1.1.Then x1.1.Else) ?_ (TL.loop (Qmc h0_0 x1.2 x1.1.Kind x1.1.Name x1.1.Text x1.1.N x1.1.L x1.1.Then x1.1.Else o4 ho))) (join2 (fun y5 hy=>?_) (fun y6 hy=>?_)))
   ·exact Le.tz 3 0 rfl rfl rfl
   ·have h:=(by rw[hy] at hk; exact hk)
    refine Exists.intro _ (And.intro (Le.refl _ _ _) ?_)
    exact Qdm (t:=Qf6) (ss:=fun(o:Qaa×Int)=>⟨[[.p (.sl false (h0_0.map Qac)),.p (iV o.2)]],[]⟩) h ⟨[],rfl,.refl _,.refl _,rfl⟩
   ·have h:=(by rw[hy] at hk; exact hk)
    refine xle ?_
    exact Qb9 (sp:=fun(o:Int)=>⟨[[.p (.sl false (h0_0.map Qac)),.p (iV o)]],[]⟩) h ⟨[],rfl,.refl _,.refl _,rfl⟩
  ·refine xle ?_
   exact Qb9 (sp:=fun(o:Int)=>⟨[[.p (.sl false (h0_0.map Qac)),.p (iV o)]],[]⟩) h ⟨[],rfl,.refl _,.refl _,rfl⟩
 ·intro Qdu' iQdu h0_1 o h
  refine CallS.ofB mixed tbOk Qnm Tryz.func111 rfl (by kernel_rfl) (Nat.le_of_ble_eq_true rfl) (fun _=>rfl) (fun _=>rfl) (fun _=>rfl) (fun _=>rfl) (fun _=>rfl) ?_
  refine Qag _ _ h (fun x1 hy=>((Qb2 h0_0 h0_1 x1 hy).fr [0] [] rfl rfl rfl)) (fun x1 hy h=>?_)
  refine Qaf h (fun hb h=>?_) (fun hb h=>?_)
  ·refine Exists.intro _ (And.intro (Le.refl _ _ _) ?_)
   exact Qdm (t:=Qbp) (ss:=fun(o:Qaa×Int)=>⟨[[.p (.sl false (h0_0.map Qac)),.p (iV o.2)]],[]⟩) h ⟨[],rfl,.p (.agg' (.cons (.refl _) (.cons (.refl _) (.cons (.refl _) (.cons (.refl _) (.cons (.not) (.cons (.not) (.cons (.not) (.nil))))))))),.refl _,rfl⟩
  ·refine Qaf h (fun hb h=>?_) (fun hb h=>?_)
   ·refine Exists.intro _ (And.intro (Le.refl _ _ _) ?_)
    exact Qdm (t:=Qbp) (ss:=fun(o:Qaa×Int)=>⟨[[.p (.sl false (h0_0.map Qac)),.p (iV o.2)]],[]⟩) h ⟨[],rfl,.p (.agg' (.cons (.refl _) (.cons (.refl _) (.cons (.refl _) (.cons (.refl _) (.cons (.not) (.cons (.not) (.cons (.not) (.nil))))))))),.refl _,rfl⟩
   ·refine Qag _ _ h (fun x2 hy=>((Qa9 [116,114,117,101] h0_0 h0_1 x2 hy).fr [0] [] rfl rfl rfl)) (fun x2 hy h=>?_)
    refine Qaf h (fun hb h=>?_) (fun hb h=>?_)
    ·refine Exists.intro _ (And.intro (Le.refl _ _ _) ?_)
     exact Qdm (t:=Qbp) (ss:=fun(o:Qaa×Int)=>⟨[[.p (.sl false (h0_0.map Qac)),.p (iV o.2)]],[]⟩) h ⟨[],rfl,.p (.agg' (.cons (.refl _) (.cons (.refl _) (.cons (.refl _) (.cons (.refl _) (.cons (.not) (.cons (.not) (.cons (.not) (.nil))))))))),.refl _,rfl⟩
    ·refine Qag _ _ h (fun x3 hy=>((Qa9 [102,97,108,115,101] h0_0 x2.2 x3 hy).fr [0] [] rfl rfl rfl)) (fun x3 hy h=>?_)
     refine Qaf h (fun hb h=>?_) (fun hb h=>?_)
     ·refine Exists.intro _ (And.intro (Le.refl _ _ _) ?_)
      exact Qdm (t:=Qbp) (ss:=fun(o:Qaa×Int)=>⟨[[.p (.sl false (h0_0.map Qac)),.p (iV o.2)]],[]⟩) h ⟨[],rfl,.p (.agg' (.cons (.refl _) (.cons (.refl _) (.cons (.refl _) (.cons (.refl _) (.cons (.not) (.cons (.not) (.cons (.not) (.nil))))))))),.refl _,rfl⟩
     ·refine Qag _ _ h (fun x4 hy=>((Qa9 [115,101,99,114,101,116] h0_0 x3.2 x4 hy).fr [0] [] rfl rfl rfl)) (fun x4 hy h=>?_)
      refine Qaf h (fun hb h=>?_) (fun hb h=>?_)
      ·refine xle ?_
       refine Qbc _ _ _ h (fun x5 hy=>(Qal 8 h0_0 x4.2 (.inl x5) hy).a.fr [0] [] rfl rfl rfl) (fun z7 hy=>(Qal 8 h0_0 x4.2 (.inr z7) hy).b.fr [0] [] rfl rfl rfl) (fun x5 hy h=>?_) (fun z7 hy h=>?_)
       ·refine xle ?_
        refine Qag _ _ h (fun x8 hy=>((Qb2 h0_0 x5.2 x8 hy).fr [0] [] rfl rfl rfl)) (fun x8 hy h=>?_)
        refine Qar [sV x8.Text] Qjj h (fun x9 hy=>(Qpw x8.Text x9 hy)) (fun x9 hy h=>?_)
        refine Qbc _ _ _ h (fun x10 hy=>(Qa8 x9 h0_0 x5.2 (.inl x10) hy).a.fr [0] [] rfl rfl rfl) (fun z12 hy=>(Qa8 x9 h0_0 x5.2 (.inr z12) hy).b.fr [0] [] rfl rfl rfl) (fun x10 hy h=>?_) (fun z12 hy h=>?_)
        ·refine xle ?_
         refine Qbc _ _ _ h (fun x13 hy=>(Qal 5 h0_0 x5.2 (.inl x13) hy).a.fr [0] [] rfl rfl rfl) (fun z15 hy=>(Qal 5 h0_0 x5.2 (.inr z15) hy).b.fr [0] [] rfl rfl rfl) (fun x13 hy h=>?_) (fun z15 hy h=>?_)
         ·refine xle ?_
          refine Qbc _ _ _ h (fun x16 hy=>(Qal 9 h0_0 x13.2 (.inl x16) hy).a.fr [0] [] rfl rfl rfl) (fun z18 hy=>(Qal 9 h0_0 x13.2 (.inr z18) hy).b.fr [0] [] rfl rfl rfl) (fun x16 hy h=>?_) (fun z18 hy h=>?_)
          ·refine Exists.intro _ (And.intro (Le.refl _ _ _) ?_)
           exact Qdm (t:=Qbp) (ss:=fun(o:Qaa×Int)=>⟨[[.p (.sl false (h0_0.map Qac)),.p (iV o.2)]],[]⟩) h ⟨[],rfl,.p (.agg' (.cons (.refl _) (.cons (.refl _) (.cons (.refl _) (.cons (.refl _) (.cons (.not) (.cons (.not) (.cons (.not) (.nil))))))))),.refl _,rfl⟩
          ·refine xle ?_
           exact Qb9 (sp:=fun(o:Int)=>⟨[[.p (.sl false (h0_0.map Qac)),.p (iV o)]],[]⟩) h ⟨[],rfl,.refl _,.refl _,rfl⟩
         ·refine xle ?_
          exact Qb9 (sp:=fun(o:Int)=>⟨[[.p (.sl false (h0_0.map Qac)),.p (iV o)]],[]⟩) h ⟨[],rfl,.refl _,.refl _,rfl⟩
        ·refine xle ?_
         exact Qb9 (sp:=fun(o:Int)=>⟨[[.p (.sl false (h0_0.map Qac)),.p (iV o)]],[]⟩) h ⟨[],rfl,.refl _,.refl _,rfl⟩
       ·refine xle ?_
        exact Qb9 (sp:=fun(o:Int)=>⟨[[.p (.sl false (h0_0.map Qac)),.p (iV o)]],[]⟩) h ⟨[],rfl,.refl _,.refl _,rfl⟩
      ·refine xle ?_
       refine Qbc _ _ _ h (fun x19 hy=>(Qbr h0_0 x4.2 (.inl x19) hy).a.fr [0] [] rfl rfl rfl) (fun z21 hy=>(Qbr h0_0 x4.2 (.inr z21) hy).b.fr [0] [] rfl rfl rfl) (fun x19 hy h=>?_) (fun z21 hy h=>?_)
       ·refine Qag _ _ h (fun x22 hy=>((Qcf 8 h0_0 x19.2 x22 hy).fr [0] [] rfl rfl rfl)) (fun x22 hy h=>?_)
        refine Qaf h (fun hb h=>?_) (fun hb h=>?_)
        ·refine xle ?_
         refine Qbc _ _ _ h (fun x23 hy=>(iQdu x22.2 (.inl x23) hy).a.fr [0] [] rfl rfl rfl) (fun z25 hy=>(iQdu x22.2 (.inr z25) hy).b.fr [0] [] rfl rfl rfl) (fun x23 hy h=>?_) (fun z25 hy h=>?_)
         ·refine Exists.intro _ (And.intro (Le.refl _ _ _) ?_)
          exact Qdm (t:=Qbp) (ss:=fun(o:Qaa×Int)=>⟨[[.p (.sl false (h0_0.map Qac)),.p (iV o.2)]],[]⟩) h ⟨[],rfl,.p (.agg' (.cons (.refl _) (.cons (.refl _) (.cons (.refl _) (.cons (.refl _) (.cons (.refl _) (.cons (.not) (.cons (.not) (.nil))))))))),.refl _,rfl⟩
         ·refine xle ?_
          exact Qb9 (sp:=fun(o:Int)=>⟨[[.p (.sl false (h0_0.map Qac)),.p (iV o)]],[]⟩) h ⟨[],rfl,.refl _,.refl _,rfl⟩
        ·refine Exists.intro _ (And.intro (Le.refl _ _ _) ?_)
         exact Qdm (t:=Qbp) (ss:=fun(o:Qaa×Int)=>⟨[[.p (.sl false (h0_0.map Qac)),.p (iV o.2)]],[]⟩) h ⟨[],rfl,.p (.agg' (.cons (.refl _) (.cons (.refl _) (.cons (.refl _) (.cons (.refl _) (.cons (.not) (.cons (.not) (.cons (.not) (.nil))))))))),.refl _,rfl⟩
       ·refine xle ?_
        exact Qb9 (sp:=fun(o:Int)=>⟨[[.p (.sl false (h0_0.map Qac)),.p (iV o)]],[]⟩) h ⟨[],rfl,.refl _,.refl _,rfl⟩
theorem Qi9:∀ (h0_0:(List Qab)) (h0_1:Int) (o:(Qaa×Int)⊕(Int)),Qcc h0_0 h0_1=some o→CallS Tryz.prog 92 [.ptr 0 0] ⟨[[.p (.sl false (h0_0.map Qac)),.p (iV h0_1)]],[]⟩ Qf6 (fun(o:Qaa×Int)=>⟨[[.p (.sl false (h0_0.map Qac)),.p (iV o.2)]],[]⟩) (fun(o:Int)=>⟨[[.p (.sl false (h0_0.map Qac)),.p (iV o)]],[]⟩) o:=fun h0_0 h0_1=>(Qnx h0_0).2.2.1 h0_1
noncomputable def Qbl (h0_0:(List Qab)) (h0_1:Int):Option (((List Qaa)×Int)⊕(Int)) :=
 Qcc h0_0 h0_1>>=fun o2 =>
 match o2 with
 | .inl x1 =>
  Qaq 3 h0_0 x1.2>>=fun o5 =>
  match o5 with
  | .inl x4 =>
   some (.inl ([x1.1],x4.2))
  | .inr z6 =>
   some (.inr x1.2)
 | .inr z3 =>
  some (.inr z3)
theorem Qa3:∀ (h0_0:(List Qab)) (h0_1:Int) (o:((List Qaa)×Int)⊕(Int)),Qbl h0_0 h0_1=some o→CallS Tryz.prog 57 [.ptr 0 0] ⟨[[.p (.sl false (h0_0.map Qac)),.p (iV h0_1)]],[]⟩ Qik (fun(o:(List Qaa)×Int)=>⟨[[.p (.sl false (h0_0.map Qac)),.p (iV o.2)]],[]⟩) (fun(o:Int)=>⟨[[.p (.sl false (h0_0.map Qac)),.p (iV o)]],[]⟩) o:=by
 intro h0_0 h0_1 o h
 unfold Qbl at h
 refine CallS.ofB mixed tbOk Qmu Tryz.func57 rfl (by kernel_rfl) (Nat.le_of_ble_eq_true rfl) (fun _=>rfl) (fun _=>rfl) (fun _=>rfl) (fun _=>rfl) (fun _=>rfl) ?_
 refine xle ?_
 refine Qbc _ _ _ h (fun x1 hy=>(Qi9 h0_0 h0_1 (.inl x1) hy).a.fr [0] [] rfl rfl rfl) (fun z3 hy=>(Qi9 h0_0 h0_1 (.inr z3) hy).b.fr [0] [] rfl rfl rfl) (fun x1 hy h=>?_) (fun z3 hy h=>?_)
 ·refine xle ?_
  refine Qbc _ _ _ h (fun x4 hy=>(Qal 3 h0_0 x1.2 (.inl x4) hy).a.fr [0] [] rfl rfl rfl) (fun z6 hy=>(Qal 3 h0_0 x1.2 (.inr z6) hy).b.fr [0] [] rfl rfl rfl) (fun x4 hy h=>?_) (fun z6 hy h=>?_)
  ·refine Exists.intro _ (And.intro (Le.refl _ _ _) ?_)
   exact Qdm (t:=Qik) (ss:=fun(o:(List Qaa)×Int)=>⟨[[.p (.sl false (h0_0.map Qac)),.p (iV o.2)]],[]⟩) h ⟨[],rfl,.p (.no (.cons (.ceq (Qai _) (.refl _)) (.nil))),.refl _,rfl⟩
  ·refine xle ?_
   exact Qb9 (sp:=fun(o:Int)=>⟨[[.p (.sl false (h0_0.map Qac)),.p (iV o)]],[]⟩) h ⟨[],rfl,.refl _,.refl _,rfl⟩
 ·refine xle ?_
  exact Qb9 (sp:=fun(o:Int)=>⟨[[.p (.sl false (h0_0.map Qac)),.p (iV o)]],[]⟩) h ⟨[],rfl,.refl _,.refl _,rfl⟩
mutual
noncomputable def Qa2 (p1:Bool) (p2:Bool) (h0_0:(List Qab)) (h0_1:Int):Option (((List Qaa)×Int×Int)⊕(Int)) :=
 (Qec p1 p2 h0_0 h0_1 ())>>=fun o1 =>
 match o1 with
 | .inl y2 =>
  some (.inl (y2.1,y2.2.1,y2.2.2))
 | .inr y3 =>
  some (.inr y3)
 partial_fixpoint
noncomputable def Qec (p1:Bool) (p2:Bool) (h0_0:(List Qab)) (h0_1:Int) (w0:Unit):Option (((List Qaa)×Int×Int)⊕Int) :=
 (Qax p1 p2 h0_0 [] h0_1)>>=fun o4 =>
 match o4 with
 | .inl y5 =>
  Qa1 (!p1) h0_0 y5.2>>=fun o34 =>
  match o34 with
  | .inl x33 =>
   some (.inl (y5.1,2,y5.2))
  | .inr z35 =>
   some (.inr y5.2)
 | .inr (.inl y6) =>
  some (.inl (y6.1,y6.2.1,y6.2.2))
 | .inr (.inr y7) =>
  some (.inr y7)
 partial_fixpoint
noncomputable def Qax (p1:Bool) (p2:Bool) (h0_0:(List Qab)) (v8:(List Qaa)) (h0_1_:Int):Option (((List Qaa)×Int)⊕((List Qaa)×Int×Int)⊕Int) :=
 if(decide (h0_1_<(h0_0.length:Int))) then
  Qbb h0_0 h0_1_>>=fun x8 =>
  Qbo 1 h0_0 h0_1_>>=fun x9 =>
  if x9.1 then
   ( if(decide ((wr ((v8.length:Int)-1)) ≥ 0)) then
     idx v8 (wr ((v8.length:Int)-1))>>=fun x11 =>
     some (x11.Kind==8)
    else
     some false:Option (Bool))>>=fun o10 =>
   if o10 then
    idx v8 (wr ((v8.length:Int)-1))>>=fun x12 =>
    need (x12.Text.length+x8.Text.length≤9223372036854775807)>>=fun _ =>
    idx v8 (wr ((v8.length:Int)-1))>>=fun x13 =>
    Qax p1 p2 h0_0 (v8.set ((wr ((v8.length:Int)-1)).toNat) (Qaa.mk x13.Kind x13.Name (x12.Text++x8.Text) x13.N x13.L x13.Then x13.Else)) x9.2
   else
    appL 120 v8 ([(Qaa.mk 8 [] x8.Text 0 [] [] [])])>>=fun x14 =>
    Qax p1 p2 h0_0 x14 x9.2
  else
   Qaq 2 h0_0 x9.2>>=fun o16 =>
   match o16 with
   | .inl x15 =>
    Qbo 3 h0_0 x15.2>>=fun x18 =>
    if x18.1 then
     Qax p1 p2 h0_0 v8 x18.2
    else
     ( if p1 then
       Qav [101,110,100] h0_0 x18.2>>=fun x20 =>
       some (x20.1,x20.2)
      else
       some (false,x18.2):Option ((Bool×Int)))>>=fun o19 =>
     if o19.1 then
      Qaq 3 h0_0 o19.2>>=fun o22 =>
      match o22 with
      | .inl x21 =>
       some (.inr (.inl (v8,0,x21.2)))
      | .inr z23 =>
       some (.inr (.inr o19.2))
     else
      ( if p2 then
        Qav [101,108,115,101] h0_0 o19.2>>=fun x25 =>
        some (x25.1,x25.2)
       else
        some (false,o19.2):Option ((Bool×Int)))>>=fun o24 =>
      if o24.1 then
       Qaq 3 h0_0 o24.2>>=fun o27 =>
       match o27 with
       | .inl x26 =>
        some (.inr (.inl (v8,1,x26.2)))
       | .inr z28 =>
        some (.inr (.inr o24.2))
      else
       Qfh h0_0 o24.2>>=fun o30 =>
       match o30 with
       | .inl x29 =>
        appL 120 v8 [x29.1]>>=fun x32 =>
        Qax p1 p2 h0_0 x32 x29.2
       | .inr z31 =>
        some (.inr (.inr z31))
   | .inr z17 =>
    some (.inr (.inr x9.2))
 else
  some (.inl (v8,h0_1_))
 partial_fixpoint
noncomputable def Qfh (h0_0:(List Qab)) (h0_1:Int):Option ((Qaa×Int)⊕(Int)) :=
 Qav [105,102] h0_0 h0_1>>=fun x1 =>
 if x1.1 then
  Qbl h0_0 x1.2>>=fun o3 =>
  match o3 with
  | .inl x2 =>
   Qa2 true true h0_0 x2.2>>=fun o6 =>
   match o6 with
   | .inl x5 =>
    if(x5.2.1==1) then
     Qa2 true false h0_0 x5.2.2>>=fun o9 =>
     match o9 with
     | .inl x8 =>
      some (.inl ((Qaa.mk 10 [] [] 0 x2.1 x5.1 x8.1),x8.2.2))
     | .inr z10 =>
      some (.inr z10)
    else
     some (.inl ((Qaa.mk 10 [] [] 0 x2.1 x5.1 []),x5.2.2))
   | .inr z7 =>
    some (.inr z7)
  | .inr z4 =>
   some (.inr z4)
 else
  Qav [101,97,99,104] h0_0 x1.2>>=fun x11 =>
  if x11.1 then
   Qcb h0_0 x11.2>>=fun o13 =>
   match o13 with
   | .inl x12 =>
    Qav [105,110] h0_0 x12.2>>=fun x15 =>
    Qa1 x15.1 h0_0 x15.2>>=fun o17 =>
    match o17 with
    | .inl x16 =>
     Qbl h0_0 x15.2>>=fun o20 =>
     match o20 with
     | .inl x19 =>
      Qa2 true false h0_0 x19.2>>=fun o23 =>
      match o23 with
      | .inl x22 =>
       some (.inl ((Qaa.mk 11 x12.1 [] 0 x19.1 x22.1 []),x22.2.2))
      | .inr z24 =>
       some (.inr z24)
     | .inr z21 =>
      some (.inr z21)
    | .inr z18 =>
     some (.inr x15.2)
   | .inr z14 =>
    some (.inr x11.2)
  else
   Qav [108,101,116] h0_0 x11.2>>=fun x25 =>
   if x25.1 then
    Qcb h0_0 x25.2>>=fun o27 =>
    match o27 with
    | .inl x26 =>
     Qaq 11 h0_0 x26.2>>=fun o30 =>
     match o30 with
     | .inl x29 =>
      Qbl h0_0 x29.2>>=fun o33 =>
      match o33 with
      | .inl x32 =>
       Qa2 true false h0_0 x32.2>>=fun o36 =>
       match o36 with
       | .inl x35 =>
        some (.inl ((Qaa.mk 12 x26.1 [] 0 x32.1 x35.1 []),x35.2.2))
       | .inr z37 =>
        some (.inr z37)
      | .inr z34 =>
       some (.inr z34)
     | .inr z31 =>
      some (.inr x26.2)
    | .inr z28 =>
     some (.inr x25.2)
   else
    Qav [117,115,101] h0_0 x25.2>>=fun x38 =>
    if x38.1 then
     Qcb h0_0 x38.2>>=fun o40 =>
     match o40 with
     | .inl x39 =>
      Qbl h0_0 x39.2>>=fun o43 =>
      match o43 with
      | .inl x42 =>
       some (.inl ((Qaa.mk 13 x39.1 [] 0 x42.1 [] []),x42.2))
      | .inr z44 =>
       some (.inr z44)
     | .inr z41 =>
      some (.inr x38.2)
    else
     Qbl h0_0 x38.2>>=fun o46 =>
     match o46 with
     | .inl x45 =>
      some (.inl ((Qaa.mk 9 [] [] 0 x45.1 [] []),x45.2))
     | .inr z47 =>
      some (.inr z47)
 partial_fixpoint
end
end Go.Proofs.YtagokkpnfceidaaGreatDoor
end
