/- The proof's texts, part 9 of 11: the walks by a logic in which data are by value, the plain laws, and at the end the law, for every input. -/
import Derived.Test.YtagokkpnfceidaaDoorMgParseRemarks8

section
set_option linter.unusedVariables false
set_option linter.unusedSimpArgs false
set_option maxRecDepth 100000
set_option maxHeartbeats 4000000
namespace Go.Proofs.YtagokkpnfceidaaDoor
open Go.RowKit
theorem Qj7:∀ (h0_0:(List Qaa)),(∀ (h0_1:Int) (o:((List Qab)×Int)⊕(Int)),Qc4 h0_0 h0_1=some o→CallS Tryd.prog 160 [.ptr 0 0] ⟨[[.p (.sl false (h0_0.map Qac)),.p (iV h0_1)]],[]⟩ Qe0 (fun(o:(List Qab)×Int)=>⟨[[.p (.sl false (h0_0.map Qac)),.p (iV o.2)]],[]⟩) (fun(o:Int)=>⟨[[.p (.sl false (h0_0.map Qac)),.p (iV o)]],[]⟩) o)∧(∀ (v3:(List Qab)) (h0_1_:Int) (o5:((List Qab)×Int)⊕Int),Qbd h0_0 v3 h0_1_=some o5→TL (1,0) Tryd.prog 24 Qjj (JP2 (1,0) 24 o5 (.exit 0) (Qfl h0_0) (.panic panCH) (Qfm h0_0)) (Qde h0_0 v3 h0_1_))∧(∀ (h0_1:Int) (o:(Qab×Int)⊕(Int)),Qbt h0_0 h0_1=some o→CallS Tryd.prog 145 [.ptr 0 0] ⟨[[.p (.sl false (h0_0.map Qac)),.p (iV h0_1)]],[]⟩ Qe1 (fun(o:Qab×Int)=>⟨[[.p (.sl false (h0_0.map Qac)),.p (iV o.2)]],[]⟩) (fun(o:Int)=>⟨[[.p (.sl false (h0_0.map Qac)),.p (iV o)]],[]⟩) o)∧(∀ (h0_1:Int) (o:(Qab×Int)⊕(Int)),Qd5 h0_0 h0_1=some o→CallS Tryd.prog 156 [.ptr 0 0] ⟨[[.p (.sl false (h0_0.map Qac)),.p (iV h0_1)]],[]⟩ Qba (fun(o:Qab×Int)=>⟨[[.p (.sl false (h0_0.map Qac)),.p (iV o.2)]],[]⟩) (fun(o:Int)=>⟨[[.p (.sl false (h0_0.map Qac)),.p (iV o)]],[]⟩) o):=by
 intro h0_0
 refine Qc4.mutual_partial_correctness h0_0 _ _ _ _ ?_ ?_ ?_ ?_
 ·intro Qbd' Qbt' iQbd iQbt h0_1 o h
  refine CallS.ofB mixed tbOk Qg5 Tryd.func160 rfl (by kernel_rfl) (Nat.le_of_ble_eq_true rfl) (fun _=>rfl) (fun _=>rfl) (fun _=>rfl) (fun _=>rfl) (fun _=>rfl) ?_
  refine Qar _ _ h (fun x1 hy=>((Qby 9 h0_0 h0_1 x1 hy).fr [0] [] rfl rfl rfl)) (fun x1 hy h=>?_)
  refine Qaf h (fun hb h=>?_) (fun hb h=>?_)
  ·refine Exists.intro _ (And.intro (Le.refl _ _ _) ?_)
   exact Qcx (t:=Qe0) (ss:=fun(o:(List Qab)×Int)=>⟨[[.p (.sl false (h0_0.map Qac)),.p (iV o.2)]],[]⟩) h ⟨[],rfl,.p (.not),.refl _,rfl⟩
  ·refine xle ?_
   refine Qaz _ _ _ h (fun x2 hy=>(iQbt x1.2 (.inl x2) hy).a.fr [0] [] rfl rfl rfl) (fun z4 hy=>(iQbt x1.2 (.inr z4) hy).b.fr [0] [] rfl rfl rfl) (fun x2 hy h=>?_) (fun z4 hy h=>?_)
   ·refine Qah h (fun o5 ho hk=>?_)
    refine Exists.intro (JP2 _ _ o5 (.exit 0) (Qfl h0_0) (.panic panCH) (Qfm h0_0)) (And.intro (T_le (τ := Qde h0_0 [x2.1] x2.2) ?_ (TL.loop (iQbd [x2.1] x2.2 o5 ho))) (join2 (fun y6 hy=>?_) (fun y7 hy=>?_)))
    ·exact Le.trans (τ := ⟨[(0,.ptr 0 0),(3,.p (.sl true ([x2.1].map Qae)))],⟨[[.p (.sl false (h0_0.map Qac)),.p (iV x2.2)]],[]⟩⟩) (Le.tow 1 0 rfl (.cons rfl (.refl _) (.cons rfl (.p (.sl' (fun h=>h) (.cons (.ceq (Qau _) (.refl _)) (.nil)))) (.nil))) (.refl _) rfl) ((Le.ownW 3 71 7 rfl (mapSize fun x=>by rw[Qau]; rfl)).trans (Le.tz 1 1 rfl rfl rfl))
    ·have h:=(by rw[hy] at hk; exact hk)
     refine xle ?_
     refine Qaz _ _ _ h (fun x14 hy=>(Qag 9 h0_0 y6.2 (.inl x14) hy).a.fr [0] [] rfl rfl rfl) (fun z16 hy=>(Qag 9 h0_0 y6.2 (.inr z16) hy).b.fr [0] [] rfl rfl rfl) (fun x14 hy h=>?_) (fun z16 hy h=>?_)
     ·refine Exists.intro _ (And.intro (Le.refl _ _ _) ?_)
      exact Qcx (t:=Qe0) (ss:=fun(o:(List Qab)×Int)=>⟨[[.p (.sl false (h0_0.map Qac)),.p (iV o.2)]],[]⟩) h ⟨[],rfl,.refl _,.refl _,rfl⟩
     ·refine xle ?_
      exact Qbq (sp:=fun(o:Int)=>⟨[[.p (.sl false (h0_0.map Qac)),.p (iV o)]],[]⟩) h ⟨[],rfl,.refl _,.refl _,rfl⟩
    ·have h:=(by rw[hy] at hk; exact hk)
     refine xle ?_
     exact Qbq (sp:=fun(o:Int)=>⟨[[.p (.sl false (h0_0.map Qac)),.p (iV o)]],[]⟩) h ⟨[],rfl,.refl _,.refl _,rfl⟩
   ·refine xle ?_
    exact Qbq (sp:=fun(o:Int)=>⟨[[.p (.sl false (h0_0.map Qac)),.p (iV o)]],[]⟩) h ⟨[],rfl,.refl _,.refl _,rfl⟩
 ·intro Qbd' Qbt' iQbd iQbt v3 h0_1_ o5 h
  refine TL.round (Qan mixed tbOk (lv:=Qg5) _ _ _ ?_)
  refine Qah h (fun o8 ho hk=>?_)
  refine Exists.intro (JP1 _ _ o8 .normal (Qji h0_0 v3)) (And.intro ?_ (join1 ?_))
  ·have h:=ho
   refine view (lenMap _ _) rfl ?_
   refine Qaf h (fun hb h=>?_) (fun hb h=>?_)
   ·refine Qar _ _ h (fun x9 hy=>((Qby 10 h0_0 h0_1_ x9 hy).fr [0] [] rfl rfl rfl)) (fun x9 hy h=>?_)
    refine JP1.a h ?_
    exact Le.tz 1 1 rfl rfl rfl
   ·refine JP1.a h ?_
    exact Le.tz 1 1 rfl rfl rfl
  ·have h:=hk
   refine Qaf h (fun hb h=>?_) (fun hb h=>?_)
   ·refine xle ?_
    refine Qaz _ _ _ h (fun x10 hy=>(iQbt o8.2 (.inl x10) hy).a.fr [0] [] rfl rfl rfl) (fun z12 hy=>(iQbt o8.2 (.inr z12) hy).b.fr [0] [] rfl rfl rfl) (fun x10 hy h=>?_) (fun z12 hy h=>?_)
    ·refine Qrc (a:=v3) (b:=[x10.1]) (c:=Qae) h (.cons (.ceq (Qau _) (.refl _)) (.nil)) (fun x=>by rw[Qau]; rfl) rfl (fun x13 hi h=>?_)
     refine TL.le (τ := Qde h0_0 x13 x10.2) ?_ ((iQbd x13 x10.2 _ h))
     exact Le.tz 1 1 rfl rfl rfl
    ·exact JP2.b h (Le.tz 1 0 rfl rfl rfl)
   ·exact JP2.a h (Le.tz 1 1 rfl rfl rfl)
 ·intro Qd5' iQd5 h0_1 o h
  refine CallS.ofB mixed tbOk Qg6 Tryd.func145 rfl (by kernel_rfl) (Nat.le_of_ble_eq_true rfl) (fun _=>rfl) (fun _=>rfl) (fun _=>rfl) (fun _=>rfl) (fun _=>rfl) ?_
  refine xle ?_
  refine Qaz _ _ _ h (fun x1 hy=>(iQd5 h0_1 (.inl x1) hy).a.fr [0] [] rfl rfl rfl) (fun z3 hy=>(iQd5 h0_1 (.inr z3) hy).b.fr [0] [] rfl rfl rfl) (fun x1 hy h=>?_) (fun z3 hy h=>?_)
  ·refine Qah h (fun o4 ho hk=>?_)
   refine Exists.intro (JP2 _ _ o4 (.exit 0) (Qdf h0_0) (.panic panCH) (Qdg h0_0)) (And.intro (T_le (τ := Qcd h0_0 x1.2 x1.1.Kind x1.1.Name x1.1.Text x1.1.N x1.1.L x1.1.Then x1.1.Else) ?_ (TL.loop (Qja h0_0 x1.2 x1.1.Kind x1.1.Name x1.1.Text x1.1.N x1.1.L x1.1.Then x1.1.Else o4 ho))) (join2 (fun y5 hy=>?_) (fun y6 hy=>?_)))
   ·exact Le.tz 3 0 rfl rfl rfl
   ·have h:=(by rw[hy] at hk; exact hk)
    refine Exists.intro _ (And.intro (Le.refl _ _ _) ?_)
    exact Qcx (t:=Qe1) (ss:=fun(o:Qab×Int)=>⟨[[.p (.sl false (h0_0.map Qac)),.p (iV o.2)]],[]⟩) h ⟨[],rfl,.refl _,.refl _,rfl⟩
   ·have h:=(by rw[hy] at hk; exact hk)
    refine xle ?_
    exact Qbq (sp:=fun(o:Int)=>⟨[[.p (.sl false (h0_0.map Qac)),.p (iV o)]],[]⟩) h ⟨[],rfl,.refl _,.refl _,rfl⟩
  ·refine xle ?_
   exact Qbq (sp:=fun(o:Int)=>⟨[[.p (.sl false (h0_0.map Qac)),.p (iV o)]],[]⟩) h ⟨[],rfl,.refl _,.refl _,rfl⟩
 ·intro Qc4' iQc4 h0_1 o h
  refine CallS.ofB mixed tbOk Qjz Tryd.func156 rfl (by kernel_rfl) (Nat.le_of_ble_eq_true rfl) (fun _=>rfl) (fun _=>rfl) (fun _=>rfl) (fun _=>rfl) (fun _=>rfl) ?_
  refine Qar _ _ h (fun x1 hy=>((Qbl h0_0 h0_1 x1 hy).fr [0] [] rfl rfl rfl)) (fun x1 hy h=>?_)
  refine Qaf h (fun hb h=>?_) (fun hb h=>?_)
  ·refine Exists.intro _ (And.intro (Le.refl _ _ _) ?_)
   exact Qcx (t:=Qba) (ss:=fun(o:Qab×Int)=>⟨[[.p (.sl false (h0_0.map Qac)),.p (iV o.2)]],[]⟩) h ⟨[],rfl,.p (.agg' (.cons (.refl _) (.cons (.refl _) (.cons (.refl _) (.cons (.refl _) (.cons (.not) (.cons (.not) (.cons (.not) (.nil))))))))),.refl _,rfl⟩
  ·refine Qaf h (fun hb h=>?_) (fun hb h=>?_)
   ·refine Exists.intro _ (And.intro (Le.refl _ _ _) ?_)
    exact Qcx (t:=Qba) (ss:=fun(o:Qab×Int)=>⟨[[.p (.sl false (h0_0.map Qac)),.p (iV o.2)]],[]⟩) h ⟨[],rfl,.p (.agg' (.cons (.refl _) (.cons (.refl _) (.cons (.refl _) (.cons (.refl _) (.cons (.not) (.cons (.not) (.cons (.not) (.nil))))))))),.refl _,rfl⟩
   ·refine Qar _ _ h (fun x2 hy=>((Qaw [116,114,117,101] h0_0 h0_1 x2 hy).fr [0] [] rfl rfl rfl)) (fun x2 hy h=>?_)
    refine Qaf h (fun hb h=>?_) (fun hb h=>?_)
    ·refine Exists.intro _ (And.intro (Le.refl _ _ _) ?_)
     exact Qcx (t:=Qba) (ss:=fun(o:Qab×Int)=>⟨[[.p (.sl false (h0_0.map Qac)),.p (iV o.2)]],[]⟩) h ⟨[],rfl,.p (.agg' (.cons (.refl _) (.cons (.refl _) (.cons (.refl _) (.cons (.refl _) (.cons (.not) (.cons (.not) (.cons (.not) (.nil))))))))),.refl _,rfl⟩
    ·refine Qar _ _ h (fun x3 hy=>((Qaw [102,97,108,115,101] h0_0 x2.2 x3 hy).fr [0] [] rfl rfl rfl)) (fun x3 hy h=>?_)
     refine Qaf h (fun hb h=>?_) (fun hb h=>?_)
     ·refine Exists.intro _ (And.intro (Le.refl _ _ _) ?_)
      exact Qcx (t:=Qba) (ss:=fun(o:Qab×Int)=>⟨[[.p (.sl false (h0_0.map Qac)),.p (iV o.2)]],[]⟩) h ⟨[],rfl,.p (.agg' (.cons (.refl _) (.cons (.refl _) (.cons (.refl _) (.cons (.refl _) (.cons (.not) (.cons (.not) (.cons (.not) (.nil))))))))),.refl _,rfl⟩
     ·refine Qar _ _ h (fun x4 hy=>((Qaw [115,101,99,114,101,116] h0_0 x3.2 x4 hy).fr [0] [] rfl rfl rfl)) (fun x4 hy h=>?_)
      refine Qaf h (fun hb h=>?_) (fun hb h=>?_)
      ·refine xle ?_
       refine Qaz _ _ _ h (fun x5 hy=>(Qag 8 h0_0 x4.2 (.inl x5) hy).a.fr [0] [] rfl rfl rfl) (fun z7 hy=>(Qag 8 h0_0 x4.2 (.inr z7) hy).b.fr [0] [] rfl rfl rfl) (fun x5 hy h=>?_) (fun z7 hy h=>?_)
       ·refine xle ?_
        refine Qar _ _ h (fun x8 hy=>((Qbl h0_0 x5.2 x8 hy).fr [0] [] rfl rfl rfl)) (fun x8 hy h=>?_)
        refine Qax [sV x8.Text] Qhf h (fun x9 hy=>(Qlm x8.Text x9 hy)) (fun x9 hy h=>?_)
        refine Qaz _ _ _ h (fun x10 hy=>(Qav x9 h0_0 x5.2 (.inl x10) hy).a.fr [0] [] rfl rfl rfl) (fun z12 hy=>(Qav x9 h0_0 x5.2 (.inr z12) hy).b.fr [0] [] rfl rfl rfl) (fun x10 hy h=>?_) (fun z12 hy h=>?_)
        ·refine xle ?_
         refine Qaz _ _ _ h (fun x13 hy=>(Qag 5 h0_0 x5.2 (.inl x13) hy).a.fr [0] [] rfl rfl rfl) (fun z15 hy=>(Qag 5 h0_0 x5.2 (.inr z15) hy).b.fr [0] [] rfl rfl rfl) (fun x13 hy h=>?_) (fun z15 hy h=>?_)
         ·refine xle ?_
          refine Qaz _ _ _ h (fun x16 hy=>(Qag 9 h0_0 x13.2 (.inl x16) hy).a.fr [0] [] rfl rfl rfl) (fun z18 hy=>(Qag 9 h0_0 x13.2 (.inr z18) hy).b.fr [0] [] rfl rfl rfl) (fun x16 hy h=>?_) (fun z18 hy h=>?_)
          ·refine Exists.intro _ (And.intro (Le.refl _ _ _) ?_)
           exact Qcx (t:=Qba) (ss:=fun(o:Qab×Int)=>⟨[[.p (.sl false (h0_0.map Qac)),.p (iV o.2)]],[]⟩) h ⟨[],rfl,.p (.agg' (.cons (.refl _) (.cons (.refl _) (.cons (.refl _) (.cons (.refl _) (.cons (.not) (.cons (.not) (.cons (.not) (.nil))))))))),.refl _,rfl⟩
          ·refine xle ?_
           exact Qbq (sp:=fun(o:Int)=>⟨[[.p (.sl false (h0_0.map Qac)),.p (iV o)]],[]⟩) h ⟨[],rfl,.refl _,.refl _,rfl⟩
         ·refine xle ?_
          exact Qbq (sp:=fun(o:Int)=>⟨[[.p (.sl false (h0_0.map Qac)),.p (iV o)]],[]⟩) h ⟨[],rfl,.refl _,.refl _,rfl⟩
        ·refine xle ?_
         exact Qbq (sp:=fun(o:Int)=>⟨[[.p (.sl false (h0_0.map Qac)),.p (iV o)]],[]⟩) h ⟨[],rfl,.refl _,.refl _,rfl⟩
       ·refine xle ?_
        exact Qbq (sp:=fun(o:Int)=>⟨[[.p (.sl false (h0_0.map Qac)),.p (iV o)]],[]⟩) h ⟨[],rfl,.refl _,.refl _,rfl⟩
      ·refine xle ?_
       refine Qaz _ _ _ h (fun x19 hy=>(Qbc h0_0 x4.2 (.inl x19) hy).a.fr [0] [] rfl rfl rfl) (fun z21 hy=>(Qbc h0_0 x4.2 (.inr z21) hy).b.fr [0] [] rfl rfl rfl) (fun x19 hy h=>?_) (fun z21 hy h=>?_)
       ·refine Qar _ _ h (fun x22 hy=>((Qby 8 h0_0 x19.2 x22 hy).fr [0] [] rfl rfl rfl)) (fun x22 hy h=>?_)
        refine Qaf h (fun hb h=>?_) (fun hb h=>?_)
        ·refine xle ?_
         refine Qaz _ _ _ h (fun x23 hy=>(iQc4 x22.2 (.inl x23) hy).a.fr [0] [] rfl rfl rfl) (fun z25 hy=>(iQc4 x22.2 (.inr z25) hy).b.fr [0] [] rfl rfl rfl) (fun x23 hy h=>?_) (fun z25 hy h=>?_)
         ·refine Exists.intro _ (And.intro (Le.refl _ _ _) ?_)
          exact Qcx (t:=Qba) (ss:=fun(o:Qab×Int)=>⟨[[.p (.sl false (h0_0.map Qac)),.p (iV o.2)]],[]⟩) h ⟨[],rfl,.p (.agg' (.cons (.refl _) (.cons (.refl _) (.cons (.refl _) (.cons (.refl _) (.cons (.refl _) (.cons (.not) (.cons (.not) (.nil))))))))),.refl _,rfl⟩
         ·refine xle ?_
          exact Qbq (sp:=fun(o:Int)=>⟨[[.p (.sl false (h0_0.map Qac)),.p (iV o)]],[]⟩) h ⟨[],rfl,.refl _,.refl _,rfl⟩
        ·refine Exists.intro _ (And.intro (Le.refl _ _ _) ?_)
         exact Qcx (t:=Qba) (ss:=fun(o:Qab×Int)=>⟨[[.p (.sl false (h0_0.map Qac)),.p (iV o.2)]],[]⟩) h ⟨[],rfl,.p (.agg' (.cons (.refl _) (.cons (.refl _) (.cons (.refl _) (.cons (.refl _) (.cons (.not) (.cons (.not) (.cons (.not) (.nil))))))))),.refl _,rfl⟩
       ·refine xle ?_
        exact Qbq (sp:=fun(o:Int)=>⟨[[.p (.sl false (h0_0.map Qac)),.p (iV o)]],[]⟩) h ⟨[],rfl,.refl _,.refl _,rfl⟩
theorem Qg7:∀ (h0_0:(List Qaa)) (h0_1:Int) (o:(Qab×Int)⊕(Int)),Qbt h0_0 h0_1=some o→CallS Tryd.prog 145 [.ptr 0 0] ⟨[[.p (.sl false (h0_0.map Qac)),.p (iV h0_1)]],[]⟩ Qe1 (fun(o:Qab×Int)=>⟨[[.p (.sl false (h0_0.map Qac)),.p (iV o.2)]],[]⟩) (fun(o:Int)=>⟨[[.p (.sl false (h0_0.map Qac)),.p (iV o)]],[]⟩) o:=fun h0_0 h0_1=>(Qj7 h0_0).2.2.1 h0_1
noncomputable def Qa7 (h0_0:(List Qaa)) (h0_1:Int):Option (((List Qab)×Int)⊕(Int)) :=
 Qbt h0_0 h0_1>>=fun o2 =>
 match o2 with
 | .inl x1 =>
  Qai 3 h0_0 x1.2>>=fun o5 =>
  match o5 with
  | .inl x4 =>
   some (.inl ([x1.1],x4.2))
  | .inr z6 =>
   some (.inr x1.2)
 | .inr z3 =>
  some (.inr z3)
theorem Qat:∀ (h0_0:(List Qaa)) (h0_1:Int) (o:((List Qab)×Int)⊕(Int)),Qa7 h0_0 h0_1=some o→CallS Tryd.prog 114 [.ptr 0 0] ⟨[[.p (.sl false (h0_0.map Qac)),.p (iV h0_1)]],[]⟩ Qgk (fun(o:(List Qab)×Int)=>⟨[[.p (.sl false (h0_0.map Qac)),.p (iV o.2)]],[]⟩) (fun(o:Int)=>⟨[[.p (.sl false (h0_0.map Qac)),.p (iV o)]],[]⟩) o:=by
 intro h0_0 h0_1 o h
 unfold Qa7 at h
 refine CallS.ofB mixed tbOk Qjk Tryd.func114 rfl (by kernel_rfl) (Nat.le_of_ble_eq_true rfl) (fun _=>rfl) (fun _=>rfl) (fun _=>rfl) (fun _=>rfl) (fun _=>rfl) ?_
 refine xle ?_
 refine Qaz _ _ _ h (fun x1 hy=>(Qg7 h0_0 h0_1 (.inl x1) hy).a.fr [0] [] rfl rfl rfl) (fun z3 hy=>(Qg7 h0_0 h0_1 (.inr z3) hy).b.fr [0] [] rfl rfl rfl) (fun x1 hy h=>?_) (fun z3 hy h=>?_)
 ·refine xle ?_
  refine Qaz _ _ _ h (fun x4 hy=>(Qag 3 h0_0 x1.2 (.inl x4) hy).a.fr [0] [] rfl rfl rfl) (fun z6 hy=>(Qag 3 h0_0 x1.2 (.inr z6) hy).b.fr [0] [] rfl rfl rfl) (fun x4 hy h=>?_) (fun z6 hy h=>?_)
  ·refine Exists.intro _ (And.intro (Le.refl _ _ _) ?_)
   exact Qcx (t:=Qgk) (ss:=fun(o:(List Qab)×Int)=>⟨[[.p (.sl false (h0_0.map Qac)),.p (iV o.2)]],[]⟩) h ⟨[],rfl,.p (.no (.cons (.ceq (Qau _) (.refl _)) (.nil))),.refl _,rfl⟩
  ·refine xle ?_
   exact Qbq (sp:=fun(o:Int)=>⟨[[.p (.sl false (h0_0.map Qac)),.p (iV o)]],[]⟩) h ⟨[],rfl,.refl _,.refl _,rfl⟩
 ·refine xle ?_
  exact Qbq (sp:=fun(o:Int)=>⟨[[.p (.sl false (h0_0.map Qac)),.p (iV o)]],[]⟩) h ⟨[],rfl,.refl _,.refl _,rfl⟩
mutual
noncomputable def Qas (p1:Bool) (p2:Bool) (h0_0:(List Qaa)) (h0_1:Int):Option (((List Qab)×Int×Int)⊕(Int)) :=
 (Qdh p1 p2 h0_0 h0_1 ())>>=fun o1 =>
 match o1 with
 | .inl y2 =>
  some (.inl (y2.1,y2.2.1,y2.2.2))
 | .inr y3 =>
  some (.inr y3)
 partial_fixpoint
noncomputable def Qdh (p1:Bool) (p2:Bool) (h0_0:(List Qaa)) (h0_1:Int) (w0:Unit):Option (((List Qab)×Int×Int)⊕Int) :=
 (Qam p1 p2 h0_0 [] h0_1)>>=fun o4 =>
 match o4 with
 | .inl y5 =>
  Qaq (!p1) h0_0 y5.2>>=fun o34 =>
  match o34 with
  | .inl x33 =>
   some (.inl (y5.1,2,y5.2))
  | .inr z35 =>
   some (.inr y5.2)
 | .inr (.inl y6) =>
  some (.inl (y6.1,y6.2.1,y6.2.2))
 | .inr (.inr y7) =>
  some (.inr y7)
 partial_fixpoint
noncomputable def Qam (p1:Bool) (p2:Bool) (h0_0:(List Qaa)) (v8:(List Qab)) (h0_1_:Int):Option (((List Qab)×Int)⊕((List Qab)×Int×Int)⊕Int) :=
 if(decide (h0_1_<(h0_0.length:Int))) then
  Qay h0_0 h0_1_>>=fun x8 =>
  Qa9 1 h0_0 h0_1_>>=fun x9 =>
  if x9.1 then
   ( if(decide ((wr ((v8.length:Int)-1)) ≥ 0)) then
     idx v8 (wr ((v8.length:Int)-1))>>=fun x11 =>
     some (x11.Kind==8)
    else
     some false:Option (Bool))>>=fun o10 =>
   if o10 then
    idx v8 (wr ((v8.length:Int)-1))>>=fun x12 =>
    need (x12.Text.length+x8.Text.length≤9223372036854775807)>>=fun _ =>
    idx v8 (wr ((v8.length:Int)-1))>>=fun x13 =>
    Qam p1 p2 h0_0 (v8.set ((wr ((v8.length:Int)-1)).toNat) (Qab.mk x13.Kind x13.Name (x12.Text++x8.Text) x13.N x13.L x13.Then x13.Else)) x9.2
   else
    appL 120 v8 ([(Qab.mk 8 [] x8.Text 0 [] [] [])])>>=fun x14 =>
    Qam p1 p2 h0_0 x14 x9.2
  else
   Qai 2 h0_0 x9.2>>=fun o16 =>
   match o16 with
   | .inl x15 =>
    Qa9 3 h0_0 x15.2>>=fun x18 =>
    if x18.1 then
     Qam p1 p2 h0_0 v8 x18.2
    else
     ( if p1 then
       Qak [101,110,100] h0_0 x18.2>>=fun x20 =>
       some (x20.1,x20.2)
      else
       some (false,x18.2):Option ((Bool×Int)))>>=fun o19 =>
     if o19.1 then
      Qai 3 h0_0 o19.2>>=fun o22 =>
      match o22 with
      | .inl x21 =>
       some (.inr (.inl (v8,0,x21.2)))
      | .inr z23 =>
       some (.inr (.inr o19.2))
     else
      ( if p2 then
        Qak [101,108,115,101] h0_0 o19.2>>=fun x25 =>
        some (x25.1,x25.2)
       else
        some (false,o19.2):Option ((Bool×Int)))>>=fun o24 =>
      if o24.1 then
       Qai 3 h0_0 o24.2>>=fun o27 =>
       match o27 with
       | .inl x26 =>
        some (.inr (.inl (v8,1,x26.2)))
       | .inr z28 =>
        some (.inr (.inr o24.2))
      else
       Qej h0_0 o24.2>>=fun o30 =>
       match o30 with
       | .inl x29 =>
        appL 120 v8 [x29.1]>>=fun x32 =>
        Qam p1 p2 h0_0 x32 x29.2
       | .inr z31 =>
        some (.inr (.inr z31))
   | .inr z17 =>
    some (.inr (.inr x9.2))
 else
  some (.inl (v8,h0_1_))
 partial_fixpoint
noncomputable def Qej (h0_0:(List Qaa)) (h0_1:Int):Option ((Qab×Int)⊕(Int)) :=
 Qak [105,102] h0_0 h0_1>>=fun x1 =>
 if x1.1 then
  Qa7 h0_0 x1.2>>=fun o3 =>
  match o3 with
  | .inl x2 =>
   Qas true true h0_0 x2.2>>=fun o6 =>
   match o6 with
   | .inl x5 =>
    if(x5.2.1==1) then
     Qas true false h0_0 x5.2.2>>=fun o9 =>
     match o9 with
     | .inl x8 =>
      some (.inl ((Qab.mk 10 [] [] 0 x2.1 x5.1 x8.1),x8.2.2))
     | .inr z10 =>
      some (.inr z10)
    else
     some (.inl ((Qab.mk 10 [] [] 0 x2.1 x5.1 []),x5.2.2))
   | .inr z7 =>
    some (.inr z7)
  | .inr z4 =>
   some (.inr z4)
 else
  Qak [101,97,99,104] h0_0 x1.2>>=fun x11 =>
  if x11.1 then
   Qbs h0_0 x11.2>>=fun o13 =>
   match o13 with
   | .inl x12 =>
    Qak [105,110] h0_0 x12.2>>=fun x15 =>
    Qaq x15.1 h0_0 x15.2>>=fun o17 =>
    match o17 with
    | .inl x16 =>
     Qa7 h0_0 x15.2>>=fun o20 =>
     match o20 with
     | .inl x19 =>
      Qas true false h0_0 x19.2>>=fun o23 =>
      match o23 with
      | .inl x22 =>
       some (.inl ((Qab.mk 11 x12.1 [] 0 x19.1 x22.1 []),x22.2.2))
      | .inr z24 =>
       some (.inr z24)
     | .inr z21 =>
      some (.inr z21)
    | .inr z18 =>
     some (.inr x15.2)
   | .inr z14 =>
    some (.inr x11.2)
  else
   Qak [108,101,116] h0_0 x11.2>>=fun x25 =>
   if x25.1 then
    Qbs h0_0 x25.2>>=fun o27 =>
    match o27 with
    | .inl x26 =>
     Qai 11 h0_0 x26.2>>=fun o30 =>
     match o30 with
     | .inl x29 =>
      Qa7 h0_0 x29.2>>=fun o33 =>
      match o33 with
      | .inl x32 =>
       Qas true false h0_0 x32.2>>=fun o36 =>
       match o36 with
       | .inl x35 =>
        some (.inl ((Qab.mk 12 x26.1 [] 0 x32.1 x35.1 []),x35.2.2))
       | .inr z37 =>
        some (.inr z37)
      | .inr z34 =>
       some (.inr z34)
     | .inr z31 =>
      some (.inr x26.2)
    | .inr z28 =>
     some (.inr x25.2)
   else
    Qak [117,115,101] h0_0 x25.2>>=fun x38 =>
    if x38.1 then
     Qbs h0_0 x38.2>>=fun o40 =>
     match o40 with
     | .inl x39 =>
      Qa7 h0_0 x39.2>>=fun o43 =>
      match o43 with
      | .inl x42 =>
       some (.inl ((Qab.mk 13 x39.1 [] 0 x42.1 [] []),x42.2))
      | .inr z44 =>
       some (.inr z44)
     | .inr z41 =>
      some (.inr x38.2)
    else
     Qa7 h0_0 x38.2>>=fun o46 =>
     match o46 with
     | .inl x45 =>
      some (.inl ((Qab.mk 9 [] [] 0 x45.1 [] []),x45.2))
     | .inr z47 =>
      some (.inr z47)
 partial_fixpoint
end
theorem Qjp:∀ (h0_0:(List Qaa)),(∀ (p1:Bool) (p2:Bool) (h0_1:Int) (o:((List Qab)×Int×Int)⊕(Int)),Qas p1 p2 h0_0 h0_1=some o→CallS Tryd.prog 50 [.ptr 0 0,.p (bV p1),.p (bV p2)] ⟨[[.p (.sl false (h0_0.map Qac)),.p (iV h0_1)]],[]⟩ Qem (fun(o:(List Qab)×Int×Int)=>⟨[[.p (.sl false (h0_0.map Qac)),.p (iV o.2.2)]],[]⟩) (fun(o:Int)=>⟨[[.p (.sl false (h0_0.map Qac)),.p (iV o)]],[]⟩) o)∧(∀ (p1:Bool) (p2:Bool) (h0_1:Int) (w0:Unit) (o1:((List Qab)×Int×Int)⊕Int),Qdh p1 p2 h0_0 h0_1 w0=some o1→TG (1,0) Tryd.prog 87 Qfn (behind Qfn 0) (JP2 (1,0) 87 o1 .ret (Qfc p1 p2 h0_0 h0_1) (.panic panCH) (Qfd p1 p2 h0_0 h0_1)) (Qek p1 p2 h0_0 h0_1 w0))∧(∀ (p1:Bool) (p2:Bool) (v8:(List Qab)) (h0_1_:Int) (o4:((List Qab)×Int)⊕((List Qab)×Int×Int)⊕Int),Qam p1 p2 h0_0 v8 h0_1_=some o4→TL (1,0) Tryd.prog 87 Qi4 (JP3 (1,0) 87 o4 (.exit 0) (Qe9 p1 p2 h0_0) .ret (Qfa p1 p2 h0_0) (.panic panCH) (Qfb p1 p2 h0_0)) (Qbe p1 p2 h0_0 v8 h0_1_))∧(∀ (h0_1:Int) (o:(Qab×Int)⊕(Int)),Qej h0_0 h0_1=some o→CallS Tryd.prog 84 [.ptr 0 0] ⟨[[.p (.sl false (h0_0.map Qac)),.p (iV h0_1)]],[]⟩ Qbr (fun(o:Qab×Int)=>⟨[[.p (.sl false (h0_0.map Qac)),.p (iV o.2)]],[]⟩) (fun(o:Int)=>⟨[[.p (.sl false (h0_0.map Qac)),.p (iV o)]],[]⟩) o):=by
 intro h0_0
 refine Qas.mutual_partial_correctness h0_0 _ _ _ _ ?_ ?_ ?_ ?_
 ·intro Qdh' iQdh p1 p2 h0_1 o h
  refine CallS.ofB mixed tbOk Qbg Tryd.func50 rfl (by kernel_rfl) (Nat.le_of_ble_eq_true rfl) (fun _=>rfl) (fun _=>rfl) (fun _=>rfl) (fun _=>rfl) (fun _=>rfl) ?_
  refine Qah h (fun o1 ho hk=>?_)
  refine Exists.intro (JP2 _ _ o1 .ret (Qfc p1 p2 h0_0 h0_1) (.panic panCH) (Qfd p1 p2 h0_0 h0_1)) (And.intro (TG.scope ?_) (join2 (fun y2 hy=>?_) (fun y3 hy=>?_)))
  ·have h:=ho
   refine TG.seqb mixed tbOk (lv:=Qbg) ?_
   refine TG.label (TG.le (τ := Qek p1 p2 h0_0 h0_1 ()) ?_ ((iQdh p1 p2 h0_1 () _ h)))
   exact Le.tz 1 0 rfl rfl rfl
  ·have h:=(by rw[hy] at hk; exact hk)
   refine Exists.intro _ (And.intro (Le.refl _ _ _) ?_)
   exact Qcx (t:=Qem) (ss:=fun(o:(List Qab)×Int×Int)=>⟨[[.p (.sl false (h0_0.map Qac)),.p (iV o.2.2)]],[]⟩) h ⟨[],rfl,.refl _,.refl _,rfl⟩
  ·have h:=(by rw[hy] at hk; exact hk)
   refine xle ?_
   exact Qbq (sp:=fun(o:Int)=>⟨[[.p (.sl false (h0_0.map Qac)),.p (iV o)]],[]⟩) h ⟨[],rfl,.refl _,.refl _,rfl⟩
 ·intro Qam' iQam p1 p2 h0_1 w0 o1 h
  refine TG.seqb mixed tbOk (lv:=Qbg) ?_
  refine Qah h (fun o4 ho hk=>?_)
  refine Exists.intro (JP3 _ _ o4 (.exit 0) (Qe9 p1 p2 h0_0) .ret (Qfa p1 p2 h0_0) (.panic panCH) (Qfb p1 p2 h0_0)) (And.intro (T_le (τ := Qbe p1 p2 h0_0 [] h0_1) ?_ (TL.loop (iQam p1 p2 [] h0_1 o4 ho))) (join3 (fun y5 hy=>?_) (fun y6 hy=>?_) (fun y7 hy=>?_)))
  ·exact(Le.xnil (.s 8) 71 7 rfl).trans (Le.tz 1 1 rfl rfl rfl)
  ·have h:=(by rw[hy] at hk; exact hk)
   refine TG.seqb mixed tbOk (lv:=Qbg) ?_
   refine xle ?_
   refine Qaz _ _ _ h (fun x33 hy=>(Qav (!p1) h0_0 y5.2 (.inl x33) hy).a.fr [0] [] rfl rfl rfl) (fun z35 hy=>(Qav (!p1) h0_0 y5.2 (.inr z35) hy).b.fr [0] [] rfl rfl rfl) (fun x33 hy h=>?_) (fun z35 hy h=>?_)
   ·refine TG.seqb mixed tbOk (lv:=Qbg) ?_
    refine Exists.intro _ (And.intro (Le.frzv (.s 8) 0 1 rfl rfl rfl rfl) ?_)
    refine TG.lastb mixed tbOk (lv:=Qbg) ?_
    refine JP2.a h ?_
    exact Le.tz 1 1 rfl rfl rfl
   ·refine JP2.b h ?_
    exact Le.tz 1 1 rfl rfl rfl
  ·have h:=(by rw[hy] at hk; exact hk)
   refine JP2.a h ?_
   exact Le.tz 1 1 rfl rfl rfl
  ·have h:=(by rw[hy] at hk; exact hk)
   refine JP2.b h ?_
   exact Le.tz 1 1 rfl rfl rfl
 ·intro Qam' Qej' iQam iQej p1 p2 v8 h0_1_ o4 h
  refine TL.round (Qan mixed tbOk (lv:=Qbg) _ _ _ ?_)
  refine And.intro (by decide +kernel) (And.intro rfl ?_)
  refine view (lenMap _ _) rfl ?_
  refine Qaf h (fun hb h=>?_) (fun hb h=>?_)
  ·refine And.intro rfl (Exists.intro _ (And.intro (List.length_map _) ?_))
   refine Qar _ _ h (fun x8 hy=>((Qbl h0_0 h0_1_ x8 hy).fr [0] [] rfl rfl rfl)) (fun x8 hy h=>?_)
   refine Qar _ _ h (fun x9 hy=>((Qby 1 h0_0 h0_1_ x9 hy).fr [0] [] rfl rfl rfl)) (fun x9 hy h=>?_)
   refine Qaf h (fun hb h=>?_) (fun hb h=>?_)
   ·refine Qah h (fun o10 ho hk=>?_)
    refine Exists.intro (JP1 _ _ o10 .normal (Qi1 p1 p2 h0_0 v8 x8 x9)) (And.intro ?_ (join1 ?_))
    ·have h:=ho
     refine Qaf h (fun hb h=>?_) (fun hb h=>?_)
     ·refine Quk (l:=v8) (c:=Qae) (c' := Qdq) h rfl Qau (fun _=>rfl) (by decide) (fun x11 hi h=>?_)
      refine And.intro rfl ?_
      refine And.intro rfl (And.intro (Nat.le_of_ble_eq_true rfl) ?_)
      refine JP1.a h ?_
      exact Le.tz 2 1 rfl rfl rfl
     ·refine JP1.a h ?_
      exact Le.tz 2 1 rfl rfl rfl
    ·have h:=hk
     refine Qaf h (fun hb h=>?_) (fun hb h=>?_)
     ·refine And.intro (by decide +kernel) (And.intro (by decide +kernel) (And.intro rfl ?_))
      refine And.intro rfl ?_
      refine Quk (l:=v8) (c:=Qae) (c' := Qdq) h rfl Qau (fun _=>rfl) (by decide) (fun x12 hi h=>?_)
      refine And.intro rfl ?_
      refine And.intro rfl ?_
      refine And.intro rfl ?_
      refine And.intro rfl (And.intro (Nat.le_of_ble_eq_true rfl) ?_)
      refine Qoj h (fun h=>?_)
      refine Quk (l:=v8) (c:=Qae) (c' := Qdq) h rfl Qau (fun _=>rfl) (by decide) (fun x13 hi h=>?_)
      refine And.intro rfl ?_
      refine And.intro rfl (And.intro (Nat.le_of_ble_eq_true rfl) (And.intro rfl (And.intro rfl (Exists.intro ((v8.set ((wr ((v8.length:Int)-1)).toNat) (Qab.mk x13.Kind x13.Name (x12.Text++x8.Text) x13.N x13.L x13.Then x13.Else)).map Qae) (And.intro (setMap (.ceq (Qau _) (.refl _))) ?_)))))
      refine TL.le (τ := Qbe p1 p2 h0_0 (v8.set ((wr ((v8.length:Int)-1)).toNat) (Qab.mk x13.Kind x13.Name (x12.Text++x8.Text) x13.N x13.L x13.Then x13.Else)) x9.2) ?_ ((iQam p1 p2 (v8.set ((wr ((v8.length:Int)-1)).toNat) (Qab.mk x13.Kind x13.Name (x12.Text++x8.Text) x13.N x13.L x13.Then x13.Else)) x9.2 _ h))
      exact Le.trans (τ := ⟨[(0,.ptr 0 0),(1,.p (bV p1)),(2,.p (bV p2)),(8,.x 0 2 (.sl 71 7 ((v8.set ((wr ((v8.length:Int)-1)).toNat) (Qab.mk x13.Kind x13.Name (x12.Text++x8.Text) x13.N x13.L x13.Then x13.Else)).map Qae)))],⟨[[.p (.sl false (h0_0.map Qac)),.p (iV x9.2)],[.p (iV x8.Kind),.p (sV x8.Text),.p (iV x8.N),.p (iV x8.From),.p (iV x8.To)]],[2]⟩⟩) (Le.tz 2 1 rfl rfl rfl) ((Le.ver (.s 8) 0 2 1 rfl rfl rfl rfl).trans (Le.tz 1 1 rfl rfl rfl))
     ·refine Qyk (a:=v8) (b:=[(Qab.mk 8 [] x8.Text 0 [] [] [])]) (c:=Qae) h (.cons (.ceq (Qau _) (.cons (.refl _) (.cons (.refl _) (.cons (.refl _) (.cons (.refl _) (.cons (.not) (.cons (.not) (.cons (.not) (.nil))))))))) (.nil)) (fun x=>by rw[Qau]; rfl) rfl (fun x14 hi h=>?_)
      refine TL.le (τ := Qbe p1 p2 h0_0 x14 x9.2) ?_ ((iQam p1 p2 x14 x9.2 _ h))
      exact Le.trans (τ := ⟨[(0,.ptr 0 0),(1,.p (bV p1)),(2,.p (bV p2)),(8,.x 0 2 (.sl 71 7 (x14.map Qae)))],⟨[[.p (.sl false (h0_0.map Qac)),.p (iV x9.2)],[.p (iV x8.Kind),.p (sV x8.Text),.p (iV x8.N),.p (iV x8.From),.p (iV x8.To)]],[2]⟩⟩) (Le.tz 2 1 rfl rfl rfl) ((Le.ver (.s 8) 0 2 1 rfl rfl rfl rfl).trans (Le.tz 1 1 rfl rfl rfl))
   ·refine xle ?_
    refine Qaz _ _ _ h (fun x15 hy=>(Qag 2 h0_0 x9.2 (.inl x15) hy).a.fr [0] [] rfl rfl rfl) (fun z17 hy=>(Qag 2 h0_0 x9.2 (.inr z17) hy).b.fr [0] [] rfl rfl rfl) (fun x15 hy h=>?_) (fun z17 hy h=>?_)
    ·refine Qar _ _ h (fun x18 hy=>((Qby 3 h0_0 x15.2 x18 hy).fr [0] [] rfl rfl rfl)) (fun x18 hy h=>?_)
     refine Qaf h (fun hb h=>?_) (fun hb h=>?_)
     ·refine TL.le (τ := Qbe p1 p2 h0_0 v8 x18.2) ?_ ((iQam p1 p2 v8 x18.2 _ h))
      exact Le.tz 1 1 rfl rfl rfl
     ·refine Qah h (fun o19 ho hk=>?_)
      refine Exists.intro (JP1 _ _ o19 .normal (Qi2 p1 p2 h0_0 v8 x8)) (And.intro ?_ (join1 ?_))
      ·have h:=ho
       refine Qaf h (fun hb h=>?_) (fun hb h=>?_)
       ·refine Qar _ _ h (fun x20 hy=>((Qaw [101,110,100] h0_0 x18.2 x20 hy).fr [0] [] rfl rfl rfl)) (fun x20 hy h=>?_)
        refine JP1.a h ?_
        exact Le.tz 2 1 rfl rfl rfl
       ·refine JP1.a h ?_
        exact Le.tz 2 1 rfl rfl rfl
      ·have h:=hk
       refine Qaf h (fun hb h=>?_) (fun hb h=>?_)
       ·refine xle ?_
        refine Qaz _ _ _ h (fun x21 hy=>(Qag 3 h0_0 o19.2 (.inl x21) hy).a.fr [0] [] rfl rfl rfl) (fun z23 hy=>(Qag 3 h0_0 o19.2 (.inr z23) hy).b.fr [0] [] rfl rfl rfl) (fun x21 hy h=>?_) (fun z23 hy h=>?_)
        ·refine Exists.intro _ (And.intro (Le.frzv (.s 8) 0 1 rfl rfl rfl rfl) ?_)
         exact JP3.b h (Le.tz 1 1 rfl rfl rfl)
        ·exact JP3.c h (Le.tz 1 1 rfl rfl rfl)
       ·refine Qah h (fun o24 ho hk=>?_)
        refine Exists.intro (JP1 _ _ o24 .normal (Qi3 p1 p2 h0_0 v8 x8)) (And.intro ?_ (join1 ?_))
        ·have h:=ho
         refine Qaf h (fun hb h=>?_) (fun hb h=>?_)
         ·refine Qar _ _ h (fun x25 hy=>((Qaw [101,108,115,101] h0_0 o19.2 x25 hy).fr [0] [] rfl rfl rfl)) (fun x25 hy h=>?_)
          refine JP1.a h ?_
          exact Le.tz 2 1 rfl rfl rfl
         ·refine JP1.a h ?_
          exact Le.tz 2 1 rfl rfl rfl
        ·have h:=hk
         refine Qaf h (fun hb h=>?_) (fun hb h=>?_)
         ·refine xle ?_
          refine Qaz _ _ _ h (fun x26 hy=>(Qag 3 h0_0 o24.2 (.inl x26) hy).a.fr [0] [] rfl rfl rfl) (fun z28 hy=>(Qag 3 h0_0 o24.2 (.inr z28) hy).b.fr [0] [] rfl rfl rfl) (fun x26 hy h=>?_) (fun z28 hy h=>?_)
          ·refine Exists.intro _ (And.intro (Le.frzv (.s 8) 0 1 rfl rfl rfl rfl) ?_)
           exact JP3.b h (Le.tz 1 1 rfl rfl rfl)
          ·exact JP3.c h (Le.tz 1 1 rfl rfl rfl)
         ·refine xle ?_
          refine Qaz _ _ _ h (fun x29 hy=>(iQej o24.2 (.inl x29) hy).a.fr [0] [] rfl rfl rfl) (fun z31 hy=>(iQej o24.2 (.inr z31) hy).b.fr [0] [] rfl rfl rfl) (fun x29 hy h=>?_) (fun z31 hy h=>?_)
          ·refine Qyk (a:=v8) (b:=[x29.1]) (c:=Qae) h (.cons (.ceq (Qau _) (.refl _)) (.nil)) (fun x=>by rw[Qau]; rfl) rfl (fun x32 hi h=>?_)
           refine TL.le (τ := Qbe p1 p2 h0_0 x32 x29.2) ?_ ((iQam p1 p2 x32 x29.2 _ h))
           exact Le.trans (τ := ⟨[(0,.ptr 0 0),(1,.p (bV p1)),(2,.p (bV p2)),(8,.x 0 2 (.sl 71 7 (x32.map Qae)))],⟨[[.p (.sl false (h0_0.map Qac)),.p (iV x29.2)],[.p (iV x8.Kind),.p (sV x8.Text),.p (iV x8.N),.p (iV x8.From),.p (iV x8.To)]],[2]⟩⟩) (Le.tz 2 1 rfl rfl rfl) ((Le.ver (.s 8) 0 2 1 rfl rfl rfl rfl).trans (Le.tz 1 1 rfl rfl rfl))
          ·exact JP3.c h (Le.tz 1 1 rfl rfl rfl)
    ·exact JP3.c h (Le.tz 1 1 rfl rfl rfl)
  ·exact JP3.a h (Le.tz 1 1 rfl rfl rfl)
 ·intro Qas' iQas h0_1 o h
  refine CallS.ofB mixed tbOk Qkz Tryd.func84 rfl (by kernel_rfl) (Nat.le_of_ble_eq_true rfl) (fun _=>rfl) (fun _=>rfl) (fun _=>rfl) (fun _=>rfl) (fun _=>rfl) ?_
  refine Qar _ _ h (fun x1 hy=>((Qaw [105,102] h0_0 h0_1 x1 hy).fr [0] [] rfl rfl rfl)) (fun x1 hy h=>?_)
  refine Qaf h (fun hb h=>?_) (fun hb h=>?_)
  ·refine xle ?_
   refine Qaz _ _ _ h (fun x2 hy=>(Qat h0_0 x1.2 (.inl x2) hy).a.fr [0] [] rfl rfl rfl) (fun z4 hy=>(Qat h0_0 x1.2 (.inr z4) hy).b.fr [0] [] rfl rfl rfl) (fun x2 hy h=>?_) (fun z4 hy h=>?_)
   ·refine xle ?_
    refine Qaz _ _ _ h (fun x5 hy=>(iQas true true x2.2 (.inl x5) hy).a.fr [0] [] rfl rfl rfl) (fun z7 hy=>(iQas true true x2.2 (.inr z7) hy).b.fr [0] [] rfl rfl rfl) (fun x5 hy h=>?_) (fun z7 hy h=>?_)
    ·refine Qaf h (fun hb h=>?_) (fun hb h=>?_)
     ·refine xle ?_
      refine Qaz _ _ _ h (fun x8 hy=>(iQas true false x5.2.2 (.inl x8) hy).a.fr [0] [] rfl rfl rfl) (fun z10 hy=>(iQas true false x5.2.2 (.inr z10) hy).b.fr [0] [] rfl rfl rfl) (fun x8 hy h=>?_) (fun z10 hy h=>?_)
      ·refine Exists.intro _ (And.intro (Le.refl _ _ _) ?_)
       exact Qcx (t:=Qbr) (ss:=fun(o:Qab×Int)=>⟨[[.p (.sl false (h0_0.map Qac)),.p (iV o.2)]],[]⟩) h ⟨[],rfl,.refl _,.refl _,rfl⟩
      ·refine xle ?_
       exact Qbq (sp:=fun(o:Int)=>⟨[[.p (.sl false (h0_0.map Qac)),.p (iV o)]],[]⟩) h ⟨[],rfl,.refl _,.refl _,rfl⟩
     ·refine Exists.intro _ (And.intro (Le.refl _ _ _) ?_)
      exact Qcx (t:=Qbr) (ss:=fun(o:Qab×Int)=>⟨[[.p (.sl false (h0_0.map Qac)),.p (iV o.2)]],[]⟩) h ⟨[],rfl,.p (.agg' (.cons (.refl _) (.cons (.refl _) (.cons (.refl _) (.cons (.refl _) (.cons (.refl _) (.cons (.refl _) (.cons (.not) (.nil))))))))),.refl _,rfl⟩
    ·refine xle ?_
     exact Qbq (sp:=fun(o:Int)=>⟨[[.p (.sl false (h0_0.map Qac)),.p (iV o)]],[]⟩) h ⟨[],rfl,.refl _,.refl _,rfl⟩
   ·refine xle ?_
    exact Qbq (sp:=fun(o:Int)=>⟨[[.p (.sl false (h0_0.map Qac)),.p (iV o)]],[]⟩) h ⟨[],rfl,.refl _,.refl _,rfl⟩
  ·refine Qar _ _ h (fun x11 hy=>((Qaw [101,97,99,104] h0_0 x1.2 x11 hy).fr [0] [] rfl rfl rfl)) (fun x11 hy h=>?_)
   refine Qaf h (fun hb h=>?_) (fun hb h=>?_)
   ·refine xle ?_
    refine Qaz _ _ _ h (fun x12 hy=>(Qbc h0_0 x11.2 (.inl x12) hy).a.fr [0] [] rfl rfl rfl) (fun z14 hy=>(Qbc h0_0 x11.2 (.inr z14) hy).b.fr [0] [] rfl rfl rfl) (fun x12 hy h=>?_) (fun z14 hy h=>?_)
    ·refine xle ?_
     refine Qar _ _ h (fun x15 hy=>((Qaw [105,110] h0_0 x12.2 x15 hy).fr [0] [] rfl rfl rfl)) (fun x15 hy h=>?_)
     refine Qaz _ _ _ h (fun x16 hy=>(Qav x15.1 h0_0 x15.2 (.inl x16) hy).a.fr [0] [] rfl rfl rfl) (fun z18 hy=>(Qav x15.1 h0_0 x15.2 (.inr z18) hy).b.fr [0] [] rfl rfl rfl) (fun x16 hy h=>?_) (fun z18 hy h=>?_)
     ·refine xle ?_
      refine Qaz _ _ _ h (fun x19 hy=>(Qat h0_0 x15.2 (.inl x19) hy).a.fr [0] [] rfl rfl rfl) (fun z21 hy=>(Qat h0_0 x15.2 (.inr z21) hy).b.fr [0] [] rfl rfl rfl) (fun x19 hy h=>?_) (fun z21 hy h=>?_)
      ·refine xle ?_
       refine Qaz _ _ _ h (fun x22 hy=>(iQas true false x19.2 (.inl x22) hy).a.fr [0] [] rfl rfl rfl) (fun z24 hy=>(iQas true false x19.2 (.inr z24) hy).b.fr [0] [] rfl rfl rfl) (fun x22 hy h=>?_) (fun z24 hy h=>?_)
       ·refine Exists.intro _ (And.intro (Le.refl _ _ _) ?_)
        exact Qcx (t:=Qbr) (ss:=fun(o:Qab×Int)=>⟨[[.p (.sl false (h0_0.map Qac)),.p (iV o.2)]],[]⟩) h ⟨[],rfl,.p (.agg' (.cons (.refl _) (.cons (.refl _) (.cons (.refl _) (.cons (.refl _) (.cons (.refl _) (.cons (.refl _) (.cons (.not) (.nil))))))))),.refl _,rfl⟩
       ·refine xle ?_
        exact Qbq (sp:=fun(o:Int)=>⟨[[.p (.sl false (h0_0.map Qac)),.p (iV o)]],[]⟩) h ⟨[],rfl,.refl _,.refl _,rfl⟩
      ·refine xle ?_
       exact Qbq (sp:=fun(o:Int)=>⟨[[.p (.sl false (h0_0.map Qac)),.p (iV o)]],[]⟩) h ⟨[],rfl,.refl _,.refl _,rfl⟩
     ·refine xle ?_
      exact Qbq (sp:=fun(o:Int)=>⟨[[.p (.sl false (h0_0.map Qac)),.p (iV o)]],[]⟩) h ⟨[],rfl,.refl _,.refl _,rfl⟩
    ·refine xle ?_
     exact Qbq (sp:=fun(o:Int)=>⟨[[.p (.sl false (h0_0.map Qac)),.p (iV o)]],[]⟩) h ⟨[],rfl,.refl _,.refl _,rfl⟩
   ·refine Qar _ _ h (fun x25 hy=>((Qaw [108,101,116] h0_0 x11.2 x25 hy).fr [0] [] rfl rfl rfl)) (fun x25 hy h=>?_)
    refine Qaf h (fun hb h=>?_) (fun hb h=>?_)
    ·refine xle ?_
     refine Qaz _ _ _ h (fun x26 hy=>(Qbc h0_0 x25.2 (.inl x26) hy).a.fr [0] [] rfl rfl rfl) (fun z28 hy=>(Qbc h0_0 x25.2 (.inr z28) hy).b.fr [0] [] rfl rfl rfl) (fun x26 hy h=>?_) (fun z28 hy h=>?_)
     ·refine xle ?_
      refine Qaz _ _ _ h (fun x29 hy=>(Qag 11 h0_0 x26.2 (.inl x29) hy).a.fr [0] [] rfl rfl rfl) (fun z31 hy=>(Qag 11 h0_0 x26.2 (.inr z31) hy).b.fr [0] [] rfl rfl rfl) (fun x29 hy h=>?_) (fun z31 hy h=>?_)
      ·refine xle ?_
       refine Qaz _ _ _ h (fun x32 hy=>(Qat h0_0 x29.2 (.inl x32) hy).a.fr [0] [] rfl rfl rfl) (fun z34 hy=>(Qat h0_0 x29.2 (.inr z34) hy).b.fr [0] [] rfl rfl rfl) (fun x32 hy h=>?_) (fun z34 hy h=>?_)
       ·refine xle ?_
        refine Qaz _ _ _ h (fun x35 hy=>(iQas true false x32.2 (.inl x35) hy).a.fr [0] [] rfl rfl rfl) (fun z37 hy=>(iQas true false x32.2 (.inr z37) hy).b.fr [0] [] rfl rfl rfl) (fun x35 hy h=>?_) (fun z37 hy h=>?_)
        ·refine Exists.intro _ (And.intro (Le.refl _ _ _) ?_)
         exact Qcx (t:=Qbr) (ss:=fun(o:Qab×Int)=>⟨[[.p (.sl false (h0_0.map Qac)),.p (iV o.2)]],[]⟩) h ⟨[],rfl,.p (.agg' (.cons (.refl _) (.cons (.refl _) (.cons (.refl _) (.cons (.refl _) (.cons (.refl _) (.cons (.refl _) (.cons (.not) (.nil))))))))),.refl _,rfl⟩
        ·refine xle ?_
         exact Qbq (sp:=fun(o:Int)=>⟨[[.p (.sl false (h0_0.map Qac)),.p (iV o)]],[]⟩) h ⟨[],rfl,.refl _,.refl _,rfl⟩
       ·refine xle ?_
        exact Qbq (sp:=fun(o:Int)=>⟨[[.p (.sl false (h0_0.map Qac)),.p (iV o)]],[]⟩) h ⟨[],rfl,.refl _,.refl _,rfl⟩
      ·refine xle ?_
       exact Qbq (sp:=fun(o:Int)=>⟨[[.p (.sl false (h0_0.map Qac)),.p (iV o)]],[]⟩) h ⟨[],rfl,.refl _,.refl _,rfl⟩
     ·refine xle ?_
      exact Qbq (sp:=fun(o:Int)=>⟨[[.p (.sl false (h0_0.map Qac)),.p (iV o)]],[]⟩) h ⟨[],rfl,.refl _,.refl _,rfl⟩
    ·refine Qar _ _ h (fun x38 hy=>((Qaw [117,115,101] h0_0 x25.2 x38 hy).fr [0] [] rfl rfl rfl)) (fun x38 hy h=>?_)
     refine Qaf h (fun hb h=>?_) (fun hb h=>?_)
     ·refine xle ?_
      refine Qaz _ _ _ h (fun x39 hy=>(Qbc h0_0 x38.2 (.inl x39) hy).a.fr [0] [] rfl rfl rfl) (fun z41 hy=>(Qbc h0_0 x38.2 (.inr z41) hy).b.fr [0] [] rfl rfl rfl) (fun x39 hy h=>?_) (fun z41 hy h=>?_)
      ·refine xle ?_
       refine Qaz _ _ _ h (fun x42 hy=>(Qat h0_0 x39.2 (.inl x42) hy).a.fr [0] [] rfl rfl rfl) (fun z44 hy=>(Qat h0_0 x39.2 (.inr z44) hy).b.fr [0] [] rfl rfl rfl) (fun x42 hy h=>?_) (fun z44 hy h=>?_)
       ·refine Exists.intro _ (And.intro (Le.refl _ _ _) ?_)
        exact Qcx (t:=Qbr) (ss:=fun(o:Qab×Int)=>⟨[[.p (.sl false (h0_0.map Qac)),.p (iV o.2)]],[]⟩) h ⟨[],rfl,.p (.agg' (.cons (.refl _) (.cons (.refl _) (.cons (.refl _) (.cons (.refl _) (.cons (.refl _) (.cons (.not) (.cons (.not) (.nil))))))))),.refl _,rfl⟩
       ·refine xle ?_
        exact Qbq (sp:=fun(o:Int)=>⟨[[.p (.sl false (h0_0.map Qac)),.p (iV o)]],[]⟩) h ⟨[],rfl,.refl _,.refl _,rfl⟩
      ·refine xle ?_
       exact Qbq (sp:=fun(o:Int)=>⟨[[.p (.sl false (h0_0.map Qac)),.p (iV o)]],[]⟩) h ⟨[],rfl,.refl _,.refl _,rfl⟩
     ·refine xle ?_
      refine Qaz _ _ _ h (fun x45 hy=>(Qat h0_0 x38.2 (.inl x45) hy).a.fr [0] [] rfl rfl rfl) (fun z47 hy=>(Qat h0_0 x38.2 (.inr z47) hy).b.fr [0] [] rfl rfl rfl) (fun x45 hy h=>?_) (fun z47 hy h=>?_)
      ·refine Exists.intro _ (And.intro (Le.refl _ _ _) ?_)
       exact Qcx (t:=Qbr) (ss:=fun(o:Qab×Int)=>⟨[[.p (.sl false (h0_0.map Qac)),.p (iV o.2)]],[]⟩) h ⟨[],rfl,.p (.agg' (.cons (.refl _) (.cons (.refl _) (.cons (.refl _) (.cons (.refl _) (.cons (.refl _) (.cons (.not) (.cons (.not) (.nil))))))))),.refl _,rfl⟩
      ·refine xle ?_
       exact Qbq (sp:=fun(o:Int)=>⟨[[.p (.sl false (h0_0.map Qac)),.p (iV o)]],[]⟩) h ⟨[],rfl,.refl _,.refl _,rfl⟩
theorem Qgo:∀ (p1:Bool) (p2:Bool) (h0_0:(List Qaa)) (h0_1:Int) (o:((List Qab)×Int×Int)⊕(Int)),Qas p1 p2 h0_0 h0_1=some o→CallS Tryd.prog 50 [.ptr 0 0,.p (bV p1),.p (bV p2)] ⟨[[.p (.sl false (h0_0.map Qac)),.p (iV h0_1)]],[]⟩ Qem (fun(o:(List Qab)×Int×Int)=>⟨[[.p (.sl false (h0_0.map Qac)),.p (iV o.2.2)]],[]⟩) (fun(o:Int)=>⟨[[.p (.sl false (h0_0.map Qac)),.p (iV o)]],[]⟩) o:=fun p1 p2 h0_0 h0_1=>(Qjp h0_0).1 p1 p2 h0_1
noncomputable def Qcn (p1:(List UInt8)) (h0_0:(List Qaa)) (h0_1:Int):Option (Int) :=
 if(h0_1==(h0_0.length:Int)) then
  some (p1.length:Int)
 else
  idx h0_0 h0_1>>=fun x1 =>
  some x1.From
theorem Qj8:∀ (p1:(List UInt8)) (h0_0:(List Qaa)) (h0_1:Int) (o:Int),Qcn p1 h0_0 h0_1=some o→CallOK Tryd.prog 49 [.ptr 0 0,.p (sV p1)] ⟨[[.p (.sl false (h0_0.map Qac)),.p (iV h0_1)]],[]⟩ (Qen o) ⟨[[.p (.sl false (h0_0.map Qac)),.p (iV h0_1)]],[]⟩:=by
 intro p1 h0_0 h0_1 o h
 unfold Qcn at h
 refine CallOK.ofB mixed tbOk Qj0 Tryd.func49 rfl (by kernel_rfl) (Nat.le_of_ble_eq_true rfl) rfl rfl rfl ?_
 refine And.intro (by decide +kernel) (And.intro rfl ?_)
 refine view (lenMap _ _) rfl ?_
 refine Qaf h (fun hb h=>?_) (fun hb h=>?_)
 ·refine vrfl ?_
  refine Exists.intro _ (And.intro (Le.refl _ _ _) ?_)
  exact Qb4 (t:=Qen) (ss:=fun o=>⟨[[.p (.sl false (h0_0.map Qac)),.p (iV h0_1)]],[]⟩) h ⟨[],rfl,.refl _,.refl _,rfl⟩
 ·refine And.intro (by decide +kernel) (And.intro rfl ?_)
  refine Qm9 (l:=h0_0) (c:=Qac) (c' := Qac) h (fun _=>rfl) (fun _=>rfl) (by decide) (fun x1 hi h=>?_)
  refine Exists.intro _ (And.intro (Le.refl _ _ _) ?_)
  exact Qb4 (t:=Qen) (ss:=fun o=>⟨[[.p (.sl false (h0_0.map Qac)),.p (iV h0_1)]],[]⟩) h ⟨[],rfl,.refl _,.refl _,rfl⟩
noncomputable def Qco (x1:(List Qab)×Int) (l4:(List (Qab×Int))) (h0_0:Int):Option (Int) :=
 match l4 with
 | [] =>
  some h0_0
 | x2::r3 =>
  Qco x1 r3 (wr (h0_0+1))
 partial_fixpoint
theorem Qmz:∀ (x1:(List Qab)×Int),(∀ (l4:(List (Qab×Int))) (h0_0:Int) (o6:Int),Qco x1 l4 h0_0=some o6→RL 1 0 Tryd.prog 11 (rgP Qc1) (rgA Qc1) (rgB Qc1) (Qck x1 h0_0).env (JP1 (0,0) 11 o6 .normal (Qgz x1)) (l4.map Qa5) (Qck x1 h0_0).s):=by
 intro x1
 refine Qco.partial_correctness x1 _ ?_
 intro Qco' iQco l4 h0_0 o6 h
 cases l4 with
 | nil =>
  refine Qyi ?_
  exact JP1.a h (Le.tz 1 0 rfl rfl rfl)
 | cons x2 r3 =>
  refine Quj (Qan mixed tbOk (lv:=Qi5) _ _ _ ?_)
  refine And.intro rfl (Qan mixed tbOk (lv:=Qi5) _ _ _ ?_)
  exact Exists.intro (Qck x1 (wr (h0_0+1))).s (And.intro (Le.tz 1 0 rfl rfl rfl) (And.intro rfl (And.intro rfl ((iQco r3 (wr (h0_0+1)) _ h)))))
theorem Qnk:∀ (x1:(List Qab)×Int) (l4:(List (Qab×Int))) (h0_0:Int) (o6:Int),Qco x1 l4 h0_0=some o6→RL 1 0 Tryd.prog 11 (rgP Qc1) (rgA Qc1) (rgB Qc1) (Qck x1 h0_0).env (JP1 (0,0) 11 o6 .normal (Qgz x1)) (l4.map Qa5) (Qck x1 h0_0).s:=fun x1 l4 h0_0=>(Qmz x1) l4 h0_0
noncomputable def Qgb (p0:(List Qab)) (p1:Int):Option ((List Qab)×Int) :=
 some (p0,p1)
theorem Qlp:∀ (p0:(List Qab)) (p1:Int) (o:(List Qab)×Int),Qgb p0 p1=some o→PCall Tryd.prog 86 [.sl false (p0.map Qae),iV p1] (Qii o):=by
 intro p0 p1 o h
 unfold Qgb at h
 refine PCall.ofM mixed tbOk Qut Tryd.func86 rfl (by kernel_rfl) (Nat.le_of_ble_eq_true rfl) ?_
 refine Qbw (t:=Qii) h ?_
 exact .refl _
noncomputable def Qcp (p0:(List Qab)) (p1:Int) (v12:Int) (x3:Qab) (v28:Int) (x7:(List Qab)×Int) (l10:(List (Qab×Int))):Option ((List (Qab×Int))×(Unit)) :=
 match l10 with
 | [] =>
  some ([],())
 | x8::r9 =>
  ( Qcp p0 p1 v12 x3 v28 x7 r9 )>>=fun q=>some (((Qab.mk x8.1.Kind x8.1.Name x8.1.Text x8.1.N x8.1.L x8.1.Then x8.1.Else),x8.2)::q.1,q.2)
 partial_fixpoint
theorem Qm0:∀ (p0:(List Qab)) (p1:Int) (v12:Int) (x3:Qab) (v28:Int) (x7:(List Qab)×Int),(∀ (l10:(List (Qab×Int))) (o13:(List (Qab×Int))×(Unit)),Qcp p0 p1 v12 x3 v28 x7 l10=some o13→∀ (gxs gp gpost gq12:List (List V)),gxs=gp++(o13.1.map Qa5++gpost)→gxs=gq12++gpost→RL 2 1 Tryd.prog 44 (rgP Qc3) (rgA Qc3) (rgB Qc3) (Qcl p0 p1 v12 x3 v28 x7 gxs gp).env (Qs (0,1) 44 gxs (JP1 (0,1) 44 o13.2 .normal (Qg0 p0 p1 v12 x3 v28 x7 gxs gq12))) (l10.map Qa5) (Qcl p0 p1 v12 x3 v28 x7 gxs gp).s):=by
 intro p0 p1 v12 x3 v28 x7
 refine Qcp.partial_correctness p0 p1 v12 x3 v28 x7 _ ?_
 intro Qcp' iQcp l10 o13 h
 intro gxs gp gpost gq12 hx hq
 cases l10 with
 | nil =>
  refine Qyi ?_
  exact .inl (JP1.a (sndI h) (Le.tz 2 1 rfl rfl (liveQ h hx hq rfl)))
 | cons x8 r9 =>
  refine Quj (Qan mixed tbOk (lv:=Qfp) _ _ _ ?_)
  refine And.intro rfl (Qan mixed tbOk (lv:=Qfp) _ _ _ ?_)
  refine Q01 (c:=Qa5) h hx (.refl _) (by exact rfl) (by exact rfl) (fun _ h hx=>?_) ?_
  ·refine bF ?_
   exact Exists.intro (Qcl p0 p1 v12 x3 v28 x7  gxs (gp++[Qa5 ((Qab.mk x8.1.Kind x8.1.Name x8.1.Text x8.1.N x8.1.L x8.1.Then x8.1.Else),x8.2)])).s (And.intro (Le.tz 2 1 rfl rfl rfl) (And.intro rfl (And.intro rfl ((iQcp r9 _ h) _ _ _ _ hx hq))))
  ·refine bT ?_
   exact⟨_,(Le.env0 _).trans (Le.tow 2 1 rfl .nil (.refl _) rfl),rfl,rfl,.inr ⟨rfl,Q0h rfl⟩⟩
theorem Qnl:∀ (p0:(List Qab)) (p1:Int) (v12:Int) (x3:Qab) (v28:Int) (x7:(List Qab)×Int) (l10:(List (Qab×Int))) (o13:(List (Qab×Int))×(Unit)),Qcp p0 p1 v12 x3 v28 x7 l10=some o13→∀ (gxs gp gpost gq12:List (List V)),gxs=gp++(o13.1.map Qa5++gpost)→gxs=gq12++gpost→RL 2 1 Tryd.prog 44 (rgP Qc3) (rgA Qc3) (rgB Qc3) (Qcl p0 p1 v12 x3 v28 x7 gxs gp).env (Qs (0,1) 44 gxs (JP1 (0,1) 44 o13.2 .normal (Qg0 p0 p1 v12 x3 v28 x7 gxs gq12))) (l10.map Qa5) (Qcl p0 p1 v12 x3 v28 x7 gxs gp).s:=fun p0 p1 v12 x3 v28 x7 l10=>(Qm0 p0 p1 v12 x3 v28 x7) l10
mutual
noncomputable def Qdt (p0 : (List Qab)) (p1 : Int) : Option ((List (Qab × Int)) × Unit) :=
  ( Qdi p0 p1 0) >>= fun o2 => (
    some ([], ())) >>= fun q => some (o2.1 ++ q.1, q.2)
  partial_fixpoint
noncomputable def Qdi (p0 : (List Qab)) (p1 : Int) (v12 : Int) : Option ((List (Qab × Int)) × (Unit)) :=
  if (decide (v12 < (p0.length : Int))) then
    idx p0 v12 >>= fun x3 =>
    ( ( Qbp p0 p1 v12 x3 0) >>= fun o5 => (
        Qdi p0 p1 (wr (v12 + 1))) >>= fun q => some (o5.1 ++ q.1, q.2)) >>= fun q => some ((x3, p1) :: q.1, q.2)
  else
    some ([], ())
  partial_fixpoint
noncomputable def Qbp (p0 : (List Qab)) (p1 : Int) (v12 : Int) (x3 : Qab) (v28 : Int) : Option ((List (Qab × Int)) × (Unit)) :=
  if (decide (v28 < 3)) then
    idx ([x3.L, x3.Then, x3.Else] : List (List Qab)) v28 >>= fun x6 =>
    Qgb x6 (wr (p1 + 1)) >>= fun x7 =>
    Qdt x7.1 x7.2 >>= fun y11 =>
    ( Qcp p0 p1 v12 x3 v28 x7 y11.1) >>= fun o13 => (
      Qbp p0 p1 v12 x3 (wr (v28 + 1))) >>= fun q => some (o13.1 ++ q.1, q.2)
  else
    some ([], ())
  partial_fixpoint
end
theorem Qpx:(∀ (p0:(List Qab)) (p1:Int) (o:(List (Qab×Int))×Unit),Qdt p0 p1=some o→∀ gxs:List (List V),gxs=o.1.map Qa5→IterOK Tryd.prog 116 [.ep [.sl false (p0.map Qae)],.ep [iV p1]] gxs)∧(∀ (p0:(List Qab)) (p1:Int) (v12:Int) (o2:(List (Qab×Int))×(Unit)),Qdi p0 p1 v12=some o2→∀ (gxs gp gpost gq1:List (List V)),gxs=gp++(o2.1.map Qa5++gpost)→gxs=gq1++gpost→TL (0,1) Tryd.prog 44 Qoy (Qs (0,1) 44 gxs (JP1 (0,1) 44 o2.2 (.exit 0) (Qjd p0 p1 gxs gq1))) (Qg2 p0 p1 v12 gxs gp))∧(∀ (p0:(List Qab)) (p1:Int) (v12:Int) (x3:Qab) (v28:Int) (o5:(List (Qab×Int))×(Unit)),Qbp p0 p1 v12 x3 v28=some o5→∀ (gxs gp gpost gq4:List (List V)),gxs=gp++(o5.1.map Qa5++gpost)→gxs=gq4++gpost→TL (0,1) Tryd.prog 44 Qox (Qs (0,1) 44 gxs (JP1 (0,1) 44 o5.2 (.exit 2) (Qjc p0 p1 v12 x3 gxs gq4))) (Qg1 p0 p1 v12 x3 v28 gxs gp)):=by
 refine Qdt.mutual_partial_correctness _ _ _ ?_ ?_ ?_
 ·intro Qdi' iQdi p0 p1 o h
  intro gxs hg
  have hx:gxs=[]++(o.1.map Qa5++[]):=by simp[hg]
  refine IterOK.ofB mixed tbOk Qfp Tryd.func116 rfl (by kernel_rfl) (Nat.le_of_ble_eq_true rfl) rfl ?_
  refine view (lenMap _ _) rfl ?_
  refine Qrd h hx (fun o2 lgq1 gq1 ho hk hxa hjgq1=>?_)
  refine Exists.intro (Qs _ _ gxs (JP1 _ _ o2.2 (.exit 0) (Qjd p0 p1 gxs gq1))) (And.intro (T_le (τ := Qg2 p0 p1 0 gxs ([]:List (List V))) ?_ (TL.loop ((iQdi p0 p1 0 o2 ho) _ _ _ _ hxa hjgq1))) (joinS (join1 ?_) ?_))
  ·exact Le.tz 1 1 rfl rfl rfl
  ·have h:=hk
   have hx:=hjgq1
   exact Q1e h hx (.inl rfl) rfl
  ·exact fun s1 h1 h2 hs=>Q0i (.inr rfl) hs
 ·intro Qdi' Qbp' iQdi iQbp p0 p1 v12 o2 h
  intro gxs gp gpost gq1 hx hq
  refine TL.round (Qan mixed tbOk (lv:=Qfp) _ _ _ ?_)
  refine Qaf h (fun hb h=>?_) (fun hb h=>?_)
  ·refine Qm9 (l:=p0) (c:=Qae) (c' := Qdq) h Qau (fun _=>rfl) (by decide) (fun x3 hi h=>?_)
   refine Q01 (c:=Qa5) h hx (.refl _) (by exact rfl) (by exact rfl) (fun _ h hx=>?_) ?_
   ·refine bF ?_
    refine Qrd h hx (fun o5 lgq4 gq4 ho hk hxa hjgq4=>?_)
    refine Exists.intro (Qs _ _ gxs (JP1 _ _ o5.2 (.exit 2) (Qjc p0 p1 v12 x3 gxs gq4))) (And.intro (T_le (τ := Qg1 p0 p1 v12 x3 0 gxs (gp++[Qa5 (x3,p1)])) ?_ (TL.loop ((iQbp p0 p1 v12 x3 0 o5 ho) _ _ _ _ hxa hjgq4))) (joinS (join1 ?_) ?_))
    ·exact Le.tz 2 1 rfl rfl rfl
    ·have h:=hk
     have hx:=hjgq4
     refine TL.le (τ := Qg2 p0 p1 (wr (v12+1)) gxs gq4) ?_ ((iQdi p0 p1 (wr (v12+1)) _ h) _ _ _ _ hx hq)
     exact Le.tz 1 1 rfl rfl rfl
    ·exact fun s1 h1 h2 hs =>.inr ⟨rfl,s1,.refl _ _ _,h1,h2,hs⟩
   ·refine bT ?_
    exact .inr ⟨rfl,_,(Le.env0 _).trans (Le.tow 0 1 rfl .nil (.refl _) rfl),rfl,rfl,rfl⟩
  ·exact .inl (JP1.a (sndI h) (Le.tz 1 1 rfl rfl (liveQ h hx hq rfl)))
 ·intro Qdt' Qbp' iQdt iQbp p0 p1 v12 x3 v28 o5 h
  intro gxs gp gpost gq4 hx hq
  refine TL.round (Qan mixed tbOk (lv:=Qfp) _ _ _ ?_)
  refine Qaf h (fun hb h=>?_) (fun hb h=>?_)
  ·refine Q1f (l:=([x3.L,x3.Then,x3.Else]:List (List Qab))) (c:=fun x6 =>.sl false (x6.map Qae)) h rfl rfl rfl rfl (fun x6 hi h=>?_)
   refine Qax [.sl false (x6.map Qae),iV (wr (p1+1))] Qii h (fun x7 hy=>(Qlp x6 (wr (p1+1)) x7 hy)) (fun x7 hy h=>?_)
   refine Qah h (fun y11 hy11 h=>?_)
   refine Qrd h hx (fun o13 lgq12 gq12 ho hk hxa hjgq12=>?_)
   refine Exists.intro (Qs _ _ gxs (JP1 _ _ o13.2 .normal (Qg0 p0 p1 v12 x3 v28 x7 gxs gq12))) (And.intro (T_le (τ := Qcl p0 p1 v12 x3 v28 x7 gxs gp) ?_ (Qub (g:=116) (cap:=[.ep [.sl false (x7.1.map Qae)],.ep [iV x7.2]]) rfl ((iQdt x7.1 x7.2 y11 hy11) _ rfl) (mapSize fun _=>rfl) rfl (Nat.le_of_ble_eq_true rfl) (Nat.le_of_ble_eq_true rfl) ((Qnl p0 p1 v12 x3 v28 x7 y11.1 o13 ho) _ _ _ _ hxa hjgq12))) (joinS (join1 ?_) ?_))
   ·exact Le.tz 2 1 rfl rfl rfl
   ·have h:=hk
    have hx:=hjgq12
    refine TL.le (τ := Qg1 p0 p1 v12 x3 (wr (v28+1)) gxs gq12) ?_ ((iQbp p0 p1 v12 x3 (wr (v28+1)) _ h) _ _ _ _ hx hq)
    exact Le.tz 2 1 rfl rfl rfl
   ·exact fun s1 h1 h2 hs =>.inr ⟨rfl,s1,.refl _ _ _,h1,h2,hs⟩
  ·exact .inl (JP1.a (sndI h) (Le.tz 2 1 rfl rfl (liveQ h hx hq rfl)))
theorem Ql9:∀ (p0:(List Qab)) (p1:Int) (o:(List (Qab×Int))×Unit),Qdt p0 p1=some o→∀ gxs:List (List V),gxs=o.1.map Qa5→IterOK Tryd.prog 116 [.ep [.sl false (p0.map Qae)],.ep [iV p1]] gxs:=fun p0 p1=>Qpx.1 p0 p1
noncomputable def Qim (p0:(List Qab)):Option (Int) :=
 Qgb p0 1>>=fun x1 =>
 Qdt x1.1 x1.2>>=fun y5 =>
 (Qco x1 y5.1 0)>>=fun o6 =>
 some o6
theorem Qru:∀ (p0:(List Qab)) (o:Int),Qim p0=some o→PCall Tryd.prog 51 [.sl false (p0.map Qae)] (Qj1 o):=by
 intro p0 o h
 unfold Qim at h
 refine PCall.ofB mixed tbOk Qi5 Tryd.func51 rfl (by kernel_rfl) (Nat.le_of_ble_eq_true rfl) ?_
 refine Qax [.sl false (p0.map Qae),iV 1] Qii h (fun x1 hy=>(Qlp p0 1 x1 hy)) (fun x1 hy h=>?_)
 refine Qah h (fun y5 hy5 h=>?_)
 refine Qah h (fun o6 ho hk=>?_)
 refine Exists.intro (JP1 _ _ o6 .normal (Qgz x1)) (And.intro (T_le (τ := Qck x1 0) ?_ (Qub (g:=116) (cap:=[.ep [.sl false (x1.1.map Qae)],.ep [iV x1.2]]) rfl ((Ql9 x1.1 x1.2 y5 hy5) _ rfl) (mapSize fun _=>rfl) rfl (Nat.le_of_ble_eq_true rfl) (Nat.le_of_ble_eq_true rfl) (Qnk x1 y5.1 0 o6 ho))) (join1 ?_))
 ·exact Le.tz 1 0 rfl rfl rfl
 have h:=hk
 refine Qbw (t:=Qj1) h ?_
 exact .refl _
noncomputable def Qdd (x1:(List Qab)×Int) (l4:(List (Qab×Int))) (h0_0:Int):Option (Int) :=
 match l4 with
 | [] =>
  some h0_0
 | x2::r3 =>
  Qdd x1 r3 (if x2.2>h0_0 then x2.2 else h0_0)
 partial_fixpoint
theorem Qnm:∀ (x1:(List Qab)×Int),(∀ (l4:(List (Qab×Int))) (h0_0:Int) (o6:Int),Qdd x1 l4 h0_0=some o6→RL 1 0 Tryd.prog 14 (rgP Qds) (rgA Qds) (rgB Qds) (Qc2 x1 h0_0).env (JP1 (0,0) 14 o6 .normal (Qht x1)) (l4.map Qa5) (Qc2 x1 h0_0).s):=by
 intro x1
 refine Qdd.partial_correctness x1 _ ?_
 intro Qdd' iQdd l4 h0_0 o6 h
 cases l4 with
 | nil =>
  refine Qyi ?_
  exact JP1.a h (Le.tz 1 0 rfl rfl rfl)
 | cons x2 r3 =>
  refine Quj (Qan mixed tbOk (lv:=Qj2) _ _ _ ?_)
  refine And.intro rfl (Qan mixed tbOk (lv:=Qj2) _ _ _ ?_)
  exact Exists.intro (Qc2 x1 (if x2.2>h0_0 then x2.2 else h0_0)).s (And.intro (Le.tz 1 0 rfl rfl rfl) (And.intro rfl (And.intro rfl ((iQdd r3 (if x2.2>h0_0 then x2.2 else h0_0) _ h)))))
theorem Qpb:∀ (x1:(List Qab)×Int) (l4:(List (Qab×Int))) (h0_0:Int) (o6:Int),Qdd x1 l4 h0_0=some o6→RL 1 0 Tryd.prog 14 (rgP Qds) (rgA Qds) (rgB Qds) (Qc2 x1 h0_0).env (JP1 (0,0) 14 o6 .normal (Qht x1)) (l4.map Qa5) (Qc2 x1 h0_0).s:=fun x1 l4 h0_0=>(Qnm x1) l4 h0_0
noncomputable def Qj9 (p0:(List Qab)):Option (Int) :=
 Qgb p0 1>>=fun x1 =>
 Qdt x1.1 x1.2>>=fun y5 =>
 (Qdd x1 y5.1 0)>>=fun o6 =>
 some o6
theorem Qtg:∀ (p0:(List Qab)) (o:Int),Qj9 p0=some o→PCall Tryd.prog 52 [.sl false (p0.map Qae)] (Qli o):=by
 intro p0 o h
 unfold Qj9 at h
 refine PCall.ofB mixed tbOk Qj2 Tryd.func52 rfl (by kernel_rfl) (Nat.le_of_ble_eq_true rfl) ?_
 refine Qax [.sl false (p0.map Qae),iV 1] Qii h (fun x1 hy=>(Qlp p0 1 x1 hy)) (fun x1 hy h=>?_)
 refine Qah h (fun y5 hy5 h=>?_)
 refine Qah h (fun o6 ho hk=>?_)
 refine Exists.intro (JP1 _ _ o6 .normal (Qht x1)) (And.intro (T_le (τ := Qc2 x1 0) ?_ (Qub (g:=116) (cap:=[.ep [.sl false (x1.1.map Qae)],.ep [iV x1.2]]) rfl ((Ql9 x1.1 x1.2 y5 hy5) _ rfl) (mapSize fun _=>rfl) rfl (Nat.le_of_ble_eq_true rfl) (Nat.le_of_ble_eq_true rfl) (Qpb x1 y5.1 0 o6 ho))) (join1 ?_))
 ·exact Le.tz 1 0 rfl rfl rfl
 have h:=hk
 refine Qbw (t:=Qli) h ?_
 exact .refl _
noncomputable def Qcs (p0:(List UInt8)):Option ((List Qab)×Int×Int) :=
 Qik p0>>=fun x1 =>
 if(x1.2.2 != 0) then
  some ([],x1.2.1,x1.2.2)
 else
  Qas false false x1.1 0>>=fun o3 =>
  match o3 with
  | .inl x2 =>
   Qim x2.1>>=fun x5 =>
   if(decide (x5>1024)) then
    some ([],0,5)
   else
    Qj9 x2.1>>=fun x6 =>
    if(decide (x6>12)) then
     some ([],0,8)
    else
     some (x2.1,0,0)
  | .inr z4 =>
   Qcn p0 x1.1 z4>>=fun x7 =>
   some ([],x7,7)
theorem Qdu:∀ (p0:(List UInt8)) (o:(List Qab)×Int×Int),Qcs p0=some o→PCall Tryd.prog 22 [sV p0] (Qbo o):=by
 intro p0 o h
 unfold Qcs at h
 refine Qys (lv:=Qps) ?_
 refine Qax [sV p0] Qjv h (fun x1 hy=>(Qrt p0 x1 hy)) (fun x1 hy h=>?_)
 refine Qaf h (fun hb h=>?_) (fun hb h=>?_)
 ·refine Exists.intro (.op 0 (.op 1 (.op 2 (.op 3 (.op 4 (.nil) (.nil)) (.nil)) (.nil)) (.op 2 (.op 1 (.op 3 (.op 4 (.nil) (.nil)) (.nil)) (.op 3 (.op 1 (.op 4 (.nil) (.nil)) (.nil)) (.nil))) (.nil))) (.op 1 (.op 0 (.op 2 (.op 3 (.op 4 (.nil) (.nil)) (.nil)) (.nil)) (.op 2 (.op 0 (.op 3 (.op 4 (.nil) (.nil)) (.nil)) (.nil)) (.nil))) (.op 2 (.op 0 (.op 1 (.op 3 (.op 4 (.nil) (.nil)) (.nil)) (.op 3 (.op 1 (.op 4 (.nil) (.nil)) (.nil)) (.nil))) (.op 1 (.op 0 (.op 3 (.op 4 (.nil) (.nil)) (.nil)) (.nil)) (.nil))) (.nil))):PT) (Exists.intro _ (And.intro (by decide +kernel) (And.intro (And.intro (And.intro (And.intro (And.intro (And.intro (rfl) (trivial)) (trivial)) (trivial)) (And.intro (And.intro (And.intro (And.intro (rfl) (trivial)) (trivial)) (And.intro (And.intro (And.intro (rfl) (trivial)) (trivial)) (trivial))) (trivial))) (And.intro (And.intro (And.intro (And.intro (And.intro (rfl) (trivial)) (trivial)) (trivial)) (And.intro (And.intro (And.intro (And.intro (rfl) (trivial)) (trivial)) (trivial)) (trivial))) (And.intro (And.intro (And.intro (And.intro (And.intro (rfl) (trivial)) (trivial)) (And.intro (And.intro (And.intro (rfl) (trivial)) (trivial)) (trivial))) (And.intro (And.intro (And.intro (And.intro (rfl) (trivial)) (trivial)) (trivial)) (trivial))) (trivial)))) ?_)))
  refine Qbw (t:=Qbo) h ?_
  exact .tup (xs:=[.sl true [],iV x1.2.1,iV x1.2.2]) (ys:=[.sl false [],iV x1.2.1,iV x1.2.2]) (.cons (.not) (.cons (.refl _) (.cons (.refl _) (.nil))))
 ·refine And.intro rfl (And.intro rfl (And.intro rfl (And.intro rfl (And.intro rfl (And.intro rfl (And.intro rfl ?_))))))
  refine xle ?_
  refine Qaz _ _ _ h (fun x2 hy=>(Qgo false false x1.1 0 (.inl x2) hy).a.fr [4] [] rfl rfl rfl) (fun z4 hy=>(Qgo false false x1.1 0 (.inr z4) hy).b.fr [4] [] rfl rfl rfl) (fun x2 hy h=>?_) (fun z4 hy h=>?_)
  ·refine Qax [.sl false (x2.1.map Qae)] Qj1 h (fun x5 hy=>(Qru x2.1 x5 hy)) (fun x5 hy h=>?_)
   refine Qaf h (fun hb h=>?_) (fun hb h=>?_)
   ·refine Qbw (t:=Qbo) h ?_
    exact .tup (xs:=[.sl true [],iV 0,iV 5]) (ys:=[.sl false [],iV 0,iV 5]) (.cons (.not) (.cons (.refl _) (.cons (.refl _) (.nil))))
   ·refine Qax [.sl false (x2.1.map Qae)] Qli h (fun x6 hy=>(Qtg x2.1 x6 hy)) (fun x6 hy h=>?_)
    refine Qaf h (fun hb h=>?_) (fun hb h=>?_)
    ·refine Qbw (t:=Qbo) h ?_
     exact .tup (xs:=[.sl true [],iV 0,iV 8]) (ys:=[.sl false [],iV 0,iV 8]) (.cons (.not) (.cons (.refl _) (.cons (.refl _) (.nil))))
    ·refine Qbw (t:=Qbo) h ?_
     exact .refl _
  ·refine And.intro rfl (And.intro rfl (And.intro rfl (And.intro rfl (And.intro rfl (And.intro rfl ?_)))))
   refine Qar _ _ h (fun x7 hy=>((Qj8 p0 x1.1 z4 x7 hy).fr [4] [] rfl rfl rfl)) (fun x7 hy h=>?_)
   refine And.intro rfl ?_
   refine Qbw (t:=Qbo) h ?_
   exact .tup (xs:=[.sl true [],iV x7,iV 7]) (ys:=[.sl false [],iV x7,iV 7]) (.cons (.not) (.cons (.refl _) (.cons (.refl _) (.nil))))
noncomputable def Qbu:Option (Bool) :=
 Qcs [123,123,32,105,102,32,120,46,121,32,125,125,97,123,123,32,101,110,100,32,125,125]>>=fun x1 =>
 Qcs [123,123,32,101,110,100,32,125,125]>>=fun x2 =>
 Qcs [123,123,32,105,102,32,120,32,125,125]>>=fun x3 =>
 ( if(x1.2.2==0) then
   if((x1.1.length:Int)==1) then
    idx x1.1 0>>=fun x5 =>
    if(x5.Kind==10) then
     idx x1.1 0>>=fun x6 =>
     if((x6.Then.length:Int)==1) then
      if(x2.2.2==7) then
       if(x2.2.1==3) then
        if(x3.2.2==7) then
         some (x3.2.1==10)
        else
         some false
       else
        some false
      else
       some false
     else
      some false
    else
     some false
   else
    some false
  else
   some false:Option (Bool))>>=fun o4 =>
 some o4
theorem Qeo:∀ (o:Bool),Qbu  = some o→PCall Tryd.prog 21 [] (Qce o):=by
 intro o h
 unfold Qbu at h
 refine PCall.ofB mixed tbOk Qkv Tryd.func21 rfl (by kernel_rfl) (Nat.le_of_ble_eq_true rfl) ?_
 refine Qax [sV [123,123,32,105,102,32,120,46,121,32,125,125,97,123,123,32,101,110,100,32,125,125]] Qbo h (fun x1 hy=>(Qdu [123,123,32,105,102,32,120,46,121,32,125,125,97,123,123,32,101,110,100,32,125,125] x1 hy)) (fun x1 hy h=>?_)
 refine Qax [sV [123,123,32,101,110,100,32,125,125]] Qbo h (fun x2 hy=>(Qdu [123,123,32,101,110,100,32,125,125] x2 hy)) (fun x2 hy h=>?_)
 refine Qax [sV [123,123,32,105,102,32,120,32,125,125]] Qbo h (fun x3 hy=>(Qdu [123,123,32,105,102,32,120,32,125,125] x3 hy)) (fun x3 hy h=>?_)
 refine Qah h (fun o4 ho hk=>?_)
 refine Exists.intro (JP1 _ _ o4 .normal (Qjh )) (And.intro ?_ (join1 ?_))
 ·have h:=ho
  refine Qaf h (fun hb h=>?_) (fun hb h=>?_)
  ·refine view (lenMap _ _) rfl ?_
   refine Qaf h (fun hb h=>?_) (fun hb h=>?_)
   ·refine Qm9 (l:=x1.1) (c:=Qae) (c' := Qdq) h Qau (fun _=>rfl) (by decide) (fun x5 hi h=>?_)
    refine Qaf h (fun hb h=>?_) (fun hb h=>?_)
    ·refine Qm9 (l:=x1.1) (c:=Qae) (c' := Qdq) h Qau (fun _=>rfl) (by decide) (fun x6 hi h=>?_)
     refine view (lenMap _ _) rfl ?_
     refine Qaf h (fun hb h=>?_) (fun hb h=>?_)
     ·refine Qaf h (fun hb h=>?_) (fun hb h=>?_)
      ·refine Qaf h (fun hb h=>?_) (fun hb h=>?_)
       ·refine Qaf h (fun hb h=>?_) (fun hb h=>?_)
        ·refine JP1.a h ?_
         exact Le.tz 0 0 rfl rfl rfl
        ·refine JP1.a h ?_
         exact Le.tz 0 0 rfl rfl rfl
       ·refine bF ?_
        refine JP1.a h ?_
        exact Le.tz 0 0 rfl rfl rfl
      ·refine bF ?_
       refine bF ?_
       refine JP1.a h ?_
       exact Le.tz 0 0 rfl rfl rfl
     ·refine bF ?_
      refine bF ?_
      refine bF ?_
      refine JP1.a h ?_
      exact Le.tz 0 0 rfl rfl rfl
    ·refine bF ?_
     refine bF ?_
     refine bF ?_
     refine bF ?_
     refine JP1.a h ?_
     exact Le.tz 0 0 rfl rfl rfl
   ·refine bF ?_
    refine bF ?_
    refine bF ?_
    refine bF ?_
    refine bF ?_
    refine JP1.a h ?_
    exact Le.tz 0 0 rfl rfl rfl
  ·refine bF ?_
   refine bF ?_
   refine bF ?_
   refine bF ?_
   refine bF ?_
   refine bF ?_
   refine JP1.a h ?_
   exact Le.tz 0 0 rfl rfl rfl
 ·have h:=hk
  refine Qbw (t:=Qce) h ?_
  exact .refl _
noncomputable def Qaj (p2:Bool) (x1:(List UInt8)) (x2:(List UInt8)) (v7:(List Int)) (v8:Int):Option ((List Int)) :=
 if(decide (v8<(x2.length:Int))) then
  idx x2 v8>>=fun x4 =>
  if((x4.toNat:Int) != 125) then
   idx x2 v8>>=fun x5 =>
   appL 1 v7 [(x5.toNat:Int)]>>=fun x6 =>
   Qaj p2 x1 x2 x6 (wr (v8+1))
  else
   Qaj p2 x1 x2 v7 (wr (v8+1))
 else
  some v7
 partial_fixpoint
theorem Qf5:∀ (p2:Bool) (x1:(List UInt8)) (x2:(List UInt8)),(∀ (v7:(List Int)) (v8:Int) (o3:(List Int)),Qaj p2 x1 x2 v7 v8=some o3→TL (0,0) Tryd.prog 120 Qdl (JP1 (0,0) 120 o3 (.exit 0) (Qb8 p2 x1 x2)) (Qa4 p2 x1 x2 v7 v8)):=by
 intro p2 x1 x2
 refine Qaj.partial_correctness p2 x1 x2 _ ?_
 intro Qaj' iQaj v7 v8 o3 h
 refine TL.round (Qan mixed tbOk (lv:=Qea) _ _ _ ?_)
 refine vrfl ?_
 refine Qaf h (fun hb h=>?_) (fun hb h=>?_)
 ·refine Qff h (fun x4 hi h=>?_)
  refine Qaf h (fun hb h=>?_) (fun hb h=>?_)
  ·refine Qff h (fun x5 hi h=>?_)
   refine Qrc (a:=v7) (b:=[(x5.toNat:Int)]) (c:=(cNum .u8)) h (.refl _) (fun _=>rfl) rfl (fun x6 hi h=>?_)
   refine TL.le (τ := Qa4 p2 x1 x2 x6 (wr (v8+1))) ?_ ((iQaj x6 (wr (v8+1)) _ h))
   exact Le.tz 0 1 rfl rfl rfl
  ·refine TL.le (τ := Qa4 p2 x1 x2 v7 (wr (v8+1))) ?_ ((iQaj v7 (wr (v8+1)) _ h))
   exact Le.tz 0 1 rfl rfl rfl
 ·exact JP1.a h (Le.tz 0 1 rfl rfl rfl)
theorem Qgp:∀ (p2:Bool) (x1:(List UInt8)) (x2:(List UInt8)) (v7:(List Int)) (v8:Int) (o3:(List Int)),Qaj p2 x1 x2 v7 v8=some o3→TL (0,0) Tryd.prog 120 Qdl (JP1 (0,0) 120 o3 (.exit 0) (Qb8 p2 x1 x2)) (Qa4 p2 x1 x2 v7 v8):=fun p2 x1 x2 v7 v8=>(Qf5 p2 x1 x2) v7 v8
noncomputable def Qc5 (p0:(List UInt8)):Option ((List UInt8)) :=
 cutL p0 0 (if 400<(p0.length:Int) then 400 else(p0.length:Int))>>=fun x1 =>
 some x1
theorem Qh6:∀ (p0:(List UInt8)) (o:(List UInt8)),Qc5 p0=some o→PCall Tryd.prog 24 [sV p0] (Qeh o):=by
 intro p0 o h
 unfold Qc5 at h
 refine PCall.ofB mixed tbOk Ql2 Tryd.func24 rfl (by kernel_rfl) (Nat.le_of_ble_eq_true rfl) ?_
 refine vrfl ?_
 refine Qhn none (some (if 400<(p0.length:Int) then 400 else(p0.length:Int))) h (fun x1 hi h=>?_)
 refine Qbw (t:=Qeh) h ?_
 exact .refl _
noncomputable def Qbv (p0:(List UInt8)) (p1:(List UInt8)) (p2:Bool):Option (Bool) :=
 Qc5 p0>>=fun x1 =>
 Qc5 p1>>=fun x2 =>
 (Qaj p2 x1 x2 [] 0)>>=fun o3 =>
 b2s o3>>=fun x7 =>
 need ([123,123,32,35,32].length+x7.length≤9223372036854775807)>>=fun _ =>
 need (([123,123,32,35,32]++x7).length+[125,125].length≤9223372036854775807)>>=fun _ =>
 ( if p2 then
   some [123,123,32,125,125]
  else
   some (([123,123,32,35,32]++x7)++[125,125]):Option ((List UInt8)))>>=fun o8 =>
 Qcs x1>>=fun x9 =>
 need (o8.length+x1.length≤9223372036854775807)>>=fun _ =>
 Qcs (o8++x1)>>=fun x10 =>
 ( if(x9.2.2 != x10.2.2) then
   some true
  else
   Qes x9.1 x10.1>>=fun x12 =>
   some (!x12):Option (Bool))>>=fun o11 =>
 if o11 then
  some false
 else
  if(x9.2.2==7) then
   ( if(x10.2.1==(wr (x9.2.1+(o8.length:Int)))) then
     Qbu>>=fun x14 =>
     some x14
    else
     some false:Option (Bool))>>=fun o13 =>
   some o13
  else
   need (x1.length+o8.length≤9223372036854775807)>>=fun _ =>
   Qcs (x1++o8)>>=fun x15 =>
   ( if(decide ((x1.length:Int)>0)) then
     idx x1 (wr ((x1.length:Int)-1))>>=fun x17 =>
     some ((x17.toNat:Int)==123)
    else
     some false:Option (Bool))>>=fun o16 =>
   if o16 then
    ( if(x10.2.1==x9.2.1) then
      Qbu>>=fun x19 =>
      some x19
     else
      some false:Option (Bool))>>=fun o18 =>
    some o18
   else
    ( if(x10.2.1==x9.2.1) then
      if(x15.2.2==x9.2.2) then
       Qes x9.1 x15.1>>=fun x21 =>
       if x21 then
        Qbu>>=fun x22 =>
        some x22
       else
        some false
      else
       some false
     else
      some false:Option (Bool))>>=fun o20 =>
    some o20
theorem Qhw:∀ (p0:(List UInt8)) (p1:(List UInt8)) (p2:Bool) (o:Bool),Qbv p0 p1 p2=some o→PCall Tryd.prog 8 [sV p0,sV p1,bV p2] (Qbj o):=by
 intro p0 p1 p2 o h
 unfold Qbv at h
 refine PCall.ofB mixed tbOk Qea Tryd.func8 rfl (by kernel_rfl) (Nat.le_of_ble_eq_true rfl) ?_
 refine Qax [sV p0] Qeh h (fun x1 hy=>(Qh6 p0 x1 hy)) (fun x1 hy h=>?_)
 refine Qax [sV p1] Qeh h (fun x2 hy=>(Qh6 p1 x2 hy)) (fun x2 hy h=>?_)
 refine Qah h (fun o3 ho hk=>?_)
 refine Exists.intro (JP1 _ _ o3 (.exit 0) (Qb8 p2 x1 x2)) (And.intro (T_le (τ := Qa4 p2 x1 x2 [] 0) ?_ (TL.loop (Qgp p2 x1 x2 [] 0 o3 ho))) (join1 ?_))
 ·exact Le.trans (τ := ⟨[(0,.p (sV x1)),(1,.p (sV x2)),(2,.p (bV p2)),(7,.p (.sl true [])),(8,.p (iV 0))],⟨[],[]⟩⟩) (Le.tz 0 0 rfl rfl rfl) ((Le.own 7 5 1 rfl sizeNil).trans (Le.tz 0 1 rfl rfl rfl))
 have h:=hk
 refine Q1u (l:=o3) h (fun x7 hi h=>?_)
 refine Qoj h (fun h=>?_)
 refine Qoj h (fun h=>?_)
 refine Qah h (fun o8 ho hk=>?_)
 refine Exists.intro (JP1 _ _ o8 .normal (Qgs x1 o3)) (And.intro ?_ (join1 ?_))
 ·have h:=ho
  refine Qaf h (fun hb h=>?_) (fun hb h=>?_)
  ·refine JP1.a h ?_
   exact Le.tz 0 1 rfl rfl rfl
  ·refine JP1.a h ?_
   exact Le.tz 0 1 rfl rfl rfl
 ·have h:=hk
  refine Qax [sV x1] Qbo h (fun x9 hy=>(Qdu x1 x9 hy)) (fun x9 hy h=>?_)
  refine Qoj h (fun h=>?_)
  refine Qax [sV (o8++x1)] Qbo h (fun x10 hy=>(Qdu (o8++x1) x10 hy)) (fun x10 hy h=>?_)
  refine Qah h (fun o11 ho hk=>?_)
  refine Exists.intro (JP1 _ _ o11 .normal (Qgt x1 o3 o8 x9 x10)) (And.intro ?_ (join1 ?_))
  ·have h:=ho
   refine Qaf h (fun hb h=>?_) (fun hb h=>?_)
   ·refine JP1.a h ?_
    exact Le.tz 0 1 rfl rfl rfl
   ·refine Qax [.sl false (x9.1.map Qae),.sl false (x10.1.map Qae)] Qdr h (fun x12 hy=>(Qo7 x9.1 x10.1 x12 hy)) (fun x12 hy h=>?_)
    refine JP1.a h ?_
    exact Le.tz 0 1 rfl rfl rfl
  ·have h:=hk
   refine Qaf h (fun hb h=>?_) (fun hb h=>?_)
   ·refine Qbw (t:=Qbj) h ?_
    exact .refl _
   ·refine Qaf h (fun hb h=>?_) (fun hb h=>?_)
    ·refine Qah h (fun o13 ho hk=>?_)
     refine Exists.intro (JP1 _ _ o13 .normal (Qgu o3)) (And.intro ?_ (join1 ?_))
     ·have h:=ho
      refine vrfl ?_
      refine Qaf h (fun hb h=>?_) (fun hb h=>?_)
      ·refine Qax [] Qce h (fun x14 hy=>(Qeo x14 hy)) (fun x14 hy h=>?_)
       refine JP1.a h ?_
       exact Le.tz 0 1 rfl rfl rfl
      ·refine JP1.a h ?_
       exact Le.tz 0 1 rfl rfl rfl
     ·have h:=hk
      refine Qbw (t:=Qbj) h ?_
      exact .refl _
    ·refine Qoj h (fun h=>?_)
     refine Qax [sV (x1++o8)] Qbo h (fun x15 hy=>(Qdu (x1++o8) x15 hy)) (fun x15 hy h=>?_)
     refine Qah h (fun o16 ho hk=>?_)
     refine Exists.intro (JP1 _ _ o16 .normal (Qgv o3 x9 x10 x15)) (And.intro ?_ (join1 ?_))
     ·have h:=ho
      refine vrfl ?_
      refine Qaf h (fun hb h=>?_) (fun hb h=>?_)
      ·refine vrfl ?_
       refine Qff h (fun x17 hi h=>?_)
       refine JP1.a h ?_
       exact Le.tz 0 1 rfl rfl rfl
      ·refine JP1.a h ?_
       exact Le.tz 0 1 rfl rfl rfl
     ·have h:=hk
      refine Qaf h (fun hb h=>?_) (fun hb h=>?_)
      ·refine Qah h (fun o18 ho hk=>?_)
       refine Exists.intro (JP1 _ _ o18 .normal (Qgw o3)) (And.intro ?_ (join1 ?_))
       ·have h:=ho
        refine Qaf h (fun hb h=>?_) (fun hb h=>?_)
        ·refine Qax [] Qce h (fun x19 hy=>(Qeo x19 hy)) (fun x19 hy h=>?_)
         refine JP1.a h ?_
         exact Le.tz 0 1 rfl rfl rfl
        ·refine JP1.a h ?_
         exact Le.tz 0 1 rfl rfl rfl
       ·have h:=hk
        refine Qbw (t:=Qbj) h ?_
        exact .refl _
      ·refine Qah h (fun o20 ho hk=>?_)
       refine Exists.intro (JP1 _ _ o20 .normal (Qgx o3)) (And.intro ?_ (join1 ?_))
       ·have h:=ho
        refine Qaf h (fun hb h=>?_) (fun hb h=>?_)
        ·refine Qaf h (fun hb h=>?_) (fun hb h=>?_)
         ·refine Qax [.sl false (x9.1.map Qae),.sl false (x15.1.map Qae)] Qdr h (fun x21 hy=>(Qo7 x9.1 x15.1 x21 hy)) (fun x21 hy h=>?_)
          refine Qaf h (fun hb h=>?_) (fun hb h=>?_)
          ·refine Qax [] Qce h (fun x22 hy=>(Qeo x22 hy)) (fun x22 hy h=>?_)
           refine JP1.a h ?_
           exact Le.tz 0 1 rfl rfl rfl
          ·refine JP1.a h ?_
           exact Le.tz 0 1 rfl rfl rfl
         ·refine bF ?_
          refine JP1.a h ?_
          exact Le.tz 0 1 rfl rfl rfl
        ·refine bF ?_
         refine bF ?_
         refine JP1.a h ?_
         exact Le.tz 0 1 rfl rfl rfl
       ·have h:=hk
        refine Qbw (t:=Qbj) h ?_
        exact .refl _
end Go.Proofs.YtagokkpnfceidaaDoor
end

section
namespace Go.Proofs.YtagokkpnfceidaaDoor
open Go.RowKit
mutual
def nn:Qab→Nat
 | ⟨_,_,_,_,a,b,c⟩=>1+nns a+nns b+nns c
def nns:List Qab→Nat
 | []=>0
 | x::r=>nn x+nns r
end
mutual
def dp:Qab→Nat
 | ⟨_,_,_,_,a,b,c⟩=>1+max (dps a) (max (dps b) (dps c))
def dps:List Qab→Nat
 | []=>0
 | x::r=>max (dp x) (dps r)
end
theorem nn_eq (x:Qab):nn x=1+nns x.L+nns x.Then+nns x.Else:=by cases x; rw[nn]
theorem dp_eq (x:Qab):dp x=1+max (dps x.L) (max (dps x.Then) (dps x.Else)):=by cases x; rw[dp]
theorem Q03 (x:Qab):1≤nn x:=by rw[nn_eq]; omega
theorem Qpc:∀ l:List Qab,l.length≤nns l
 | []=>by simp[nns]
 | x::r=>by have:=Qpc r; have:=Q03 x; simp[nns]; omega
theorem Quy:∀ {l:List Qab} {x:Qab},x ∈ l→nn x≤nns l
 | y::r,x,h=>by
  rcases List.mem_cons.1 h with rfl | h
  ·simp[nns]
  ·have:=Quy h; simp[nns]; omega
theorem Qrv:∀ a b:List Qab,nns (a++b)=nns a+nns b
 | [],b=>by simp[nns]
 | x::r,b=>by simp[nns,Qrv r b]; omega
theorem takeMin {l:List UInt8} {k:Nat}:(l.take (if(k:Int)<(l.length:Int) then(k:Int) else(l.length:Int)).toNat).drop (0:Int).toNat=l.take k:=by
 split
 ·simp
 ·simp
  rw[List.take_of_length_le (by omega)]
theorem cutMin (l:List UInt8) (k:Nat):cutL l 0 (if(k:Int)<(l.length:Int) then(k:Int) else(l.length:Int))=some (l.take k):=by
 rw[Qle (by omega) (by split<;>omega) (by split<;>omega),takeMin]
mutual
def sameN:Qab→Qab→Bool
 | ⟨k,s,t,n,a,b,c⟩,y=>k==y.Kind&&(s==y.Name&&(t==y.Text&&(n==y.N&&(sameL a y.L&&(sameL b y.Then&&sameL c y.Else)))))
def sameL:List Qab→List Qab→Bool
 | [],m=>m.isEmpty
 | x::r,m=>match m with
  | []=>false
  | y::q=>sameN x y&&sameL r q
end
theorem Qv5 (x y:Qab):sameN x y=(x.Kind==y.Kind&&(x.Name==y.Name&&(x.Text==y.Text&&(x.N==y.N&&(sameL x.L y.L&&(sameL x.Then y.Then&&sameL x.Else y.Else)))))):=by cases x; rw[sameN]
theorem Qql:∀ n (l:List Qab),nns l≤n→sameL l l=true:=by
 intro n
 induction n with
 | zero=>intro l h; cases l with
  | nil=>simp[sameL]
  | cons x r=>have:=Q03 x; simp[nns] at h; omega
 | succ n ih =>
  intro l
  induction l with
  | nil=>intro _; simp[sameL]
  | cons x r ihr =>
   intro h
   rw[nns,nn_eq] at h
   rw[sameL,Qv5,ih _ (by omega:nns x.L≤n),ih _ (by omega:nns x.Then≤n),ih _ (by omega:nns x.Else≤n),ihr (by omega)]
   simp
theorem Qth:∀ (a b:List Qab),a.length≠b.length→sameL a b=false
 | [],[],h=>absurd rfl h
 | [],y::q,_=>by simp[sameL]
 | x::r,[],_=>by simp[sameL]
 | x::r,y::q,h=>by
  rw[sameL,Qth r q (by simpa using h)]
  simp
section
end
theorem neI (a b:Nat):((a:Int) != (b:Int))=(a != b):=by
 by_cases h:a=b
 ·subst h; simp
 ·have:(a:Int)≠b:=by omega
  rw[bne_iff_ne.2 h,bne_iff_ne.2 this]
section
variable (n:Nat) (ih:∀ a b:List Qab,nns a≤n→Qes a b=some (sameL a b))
include ih
theorem rSameL (a b:List Qab) (hl:a.length=b.length) (h:nns a≤n+1) (hlen:a.length<9223372036854775807):∀ k,k≤a.length →
  Qe6 a b k=some (if sameL (a.drop k) (b.drop k) then .inl () else .inr ()):=by
 refine upto ?_ fun k hk ihk=>?_
 ·rw[Qe6]
  rw[hl,List.drop_length,← hl,List.drop_length]
  simp[sameL]
 ·have hk2:k<b.length:=by omega
  have hx:=Quy (List.getElem_mem hk)
  rw[nn_eq] at hx
  rw[Qe6,Qd8 (by omega),ihk]
  simp only[ltI,hk,decide_true,if_true,Qcw,getE hk,getE hk2,Qad]
  rw[ih a[k].L b[k].L (by omega),ih a[k].Then b[k].Then (by omega),ih a[k].Else b[k].Else (by omega)]
  simp only[Qad]
  rw[dropE hk,dropE hk2,sameL,Qv5]
  have e:∀ p q:Int,(p != q) = !(p==q):=fun p q=>rfl
  simp only[e]
  cases (a[k].Kind==b[k].Kind)<;>cases (a[k].Name==b[k].Name)<;>cases (a[k].Text==b[k].Text)<;>cases (a[k].N==b[k].N)<;>cases (sameL a[k].L b[k].L)<;>cases (sameL a[k].Then b[k].Then)<;>cases (sameL a[k].Else b[k].Else)<;>rfl
end
theorem rSame:∀ n (a b:List Qab),n<9223372036854775807→nns a≤n→Qes a b=some (sameL a b):=by
 intro n
 induction n with
 | zero =>
  intro a b _ h
  have ha:a=[]:=List.eq_nil_of_length_eq_zero (by have:=Qpc a; omega)
  subst ha
  rw[Qes,neI]
  cases b with
  | nil=>rw[show(0:Int)=((0:Nat):Int) from rfl,Qe6]; simp[sameL]
  | cons y q=>simp[sameL]
 | succ n ih =>
  intro a b hn h
  rw[Qes,neI]
  by_cases hl:a.length=b.length
  ·have:=rSameL n (fun a b=>ih a b (by omega)) a b hl h (by have:=Qpc a; omega) 0 (by omega)
   rw[show(0:Int)=((0:Nat):Int) from rfl,this]
   simp only[hl,bne_self_eq_false,Bool.false_eq_true,if_false,Qad,List.drop_zero]
   cases sameL a b<;>rfl
  ·rw[Qth a b hl,bne_iff_ne.2 hl]
   rfl
end Go.Proofs.YtagokkpnfceidaaDoor
end

section
namespace Go.Proofs.YtagokkpnfceidaaDoor
open Go.RowKit
def smallB (c:UInt8):Bool:=decide (97≤c.toNat)&&decide (c.toNat≤122)
def digB (c:UInt8):Bool:=decide (48≤c.toNat)&&decide (c.toNat≤57)
def letB (c:UInt8):Bool:=smallB c||(digB c||c.toNat==95)
def headB:List UInt8→Bool
 | []=>false
 | c::_=>decide (97≤c.toNat)
theorem Qqm (c:UInt8) (r:List UInt8):headB (c::r)=decide (97≤c.toNat):=rfl
def wordP (s:List UInt8):Bool := !(s==[])&&(decide (s.length≤32)&&(headB s&&s.all letB))
theorem geN (n k:Nat):decide ((n:Int) ≥ (k:Int))=decide (k≤n):=by
 by_cases h:k≤n
 ·rw[decide_eq_true h,decide_eq_true (by omega:(n:Int) ≥ k)]
 ·rw[decide_eq_false h,decide_eq_false (by omega)]
theorem leN (n k:Nat):decide ((n:Int)≤(k:Int))=decide (n≤k):=by
 by_cases h:n≤k
 ·rw[decide_eq_true h,decide_eq_true (by omega:(n:Int)≤k)]
 ·rw[decide_eq_false h,decide_eq_false (by omega)]
theorem eqN (n k:Nat):((n:Int)==(k:Int))=(n==k):=by
 by_cases h:n=k
 ·subst h; simp
 ·rw[beq_eq_false_iff_ne.2 h,beq_eq_false_iff_ne.2 (by omega)]
theorem lDigit (c:UInt8):Qgm (c.toNat:Int)=some (digB c):=by
 have a:=geN c.toNat 48
 have b:=leN c.toNat 57
 rw[Qgm]
 rw[show(48:Int)=((48:Nat):Int) from rfl,show(57:Int)=((57:Nat):Int) from rfl,a,b,digB]
 cases decide (48≤c.toNat)<;>rfl
theorem lLetter (c:UInt8):Qf3 (c.toNat:Int)=some (letB c):=by
 have a:=geN c.toNat 97
 have b:=leN c.toNat 122
 have d:=eqN c.toNat 95
 rw[Qf3,lDigit]
 rw[show(97:Int)=((97:Nat):Int) from rfl,show(122:Int)=((122:Nat):Int) from rfl,show(95:Int)=((95:Nat):Int) from rfl,a,b,d,letB,smallB]
 simp only[Qad]
 cases decide (97≤c.toNat)<;>cases decide (c.toNat≤122)<;>cases digB c<;>cases (c.toNat==95)<;>rfl
theorem lWordL (s:List UInt8) (hs:s.length<9223372036854775807):∀ k,k≤s.length→Qec s k=some (if(s.drop k).all letB then .inl () else .inr ()):=by
 refine upto ?_ fun k hk ih=>?_
 ·rw[Qec]; simp
 ·rw[Qec,Qd8 (by omega),ih]
  simp only[ltI,hk,decide_true,if_true,Qcw,getE hk,Qad,lLetter]
  rw[dropE hk,List.all_cons]
  cases letB s[k]<;>rfl
theorem lWord (s:List UInt8) (hs:s.length<9223372036854775807):Qh5 s=some (wordP s):=by
 have h:=lWordL s hs 0 (by omega)
 rw[Qh5,show(0:Int)=((0:Nat):Int) from rfl,h,List.drop_zero,wordP]
 have e:=leN s.length 32
 rw[show(32:Int)=((32:Nat):Int) from rfl,e]
 cases ha:s.all letB with
 | false=>cases (s==[])<;>cases decide (s.length≤32)<;>cases headB s<;>rfl
 | true =>
  cases s with
  | nil=>rfl
  | cons c r =>
   have g:=geN c.toNat 97
   rw[show(97:Int)=((97:Nat):Int) from rfl]
   simp only[if_true,Qad,Qcw,List.getElem?_cons_zero,g,Qqm]
   have e0:((c::r)==([]:List UInt8))=false:=rfl
   rw[e0]
   cases decide ((c::r).length≤32)<;>simp
theorem Qrw (a b:List UInt8):s2b (a++b)=s2b a++s2b b:=by simp[s2b]
theorem Qka (a:List UInt8):(s2b a).length=a.length:=by simp[s2b]
theorem Qyy (l:List UInt8):b2s (s2b l)=some l:=by
 unfold b2s s2b
 rw[if_pos]
 ·rw[List.map_map]
  congr 1
  have:∀ c:UInt8,((fun n:Int=>UInt8.ofNat n.toNat) ∘ fun c:UInt8=>(c.toNat:Int)) c=c:=fun c=>by simp
  rw[show((fun n:Int=>UInt8.ofNat n.toNat) ∘ fun c:UInt8=>(c.toNat:Int))=id from funext this,List.map_id]
 ·rw[List.all_eq_true]
  intro n hn
  obtain⟨c,-,rfl⟩:=List.mem_map.1 hn
  have:=c.toNat_lt
  simp only[decide_eq_true_eq]
  omega
end Go.Proofs.YtagokkpnfceidaaDoor
end

section
namespace Go.Proofs.YtagokkpnfceidaaDoor
open Go.RowKit
def kws:List (List UInt8):=[[105,102],[101,108,115,101],[101,110,100],[101,97,99,104],[105,110],[108,101,116],[117,115,101],[116,114,117,101],[102,97,108,115,101],[115,101,99,114,101,116]]
def nameP (s:List UInt8):Bool := !(kws.any (· == s))&&wordP s
theorem tName (s:List UInt8) (hs:s.length<9223372036854775807):Qj6 s=some (nameP s):=by
 have c:∀ a:List UInt8,(a==s)=(s==a):=fun a=>by rw[Bool.beq_comm]
 rw[Qj6,lWord s hs,nameP]
 simp only[kws,List.any_cons,List.any_nil,c]
 generalize (s==[105,102])=a1
 generalize (s==[101,108,115,101])=a2
 generalize (s==[101,110,100])=a3
 generalize (s==[101,97,99,104])=a4
 generalize (s==[105,110])=a5
 generalize (s==[108,101,116])=a6
 generalize (s==[117,115,101])=a7
 generalize (s==[116,114,117,101])=a8
 generalize (s==[102,97,108,115,101])=a9
 generalize (s==[115,101,99,114,101,116])=a10
 generalize wordP s=b
 cases a1
 ·cases a2
  ·cases a3
   ·cases a4
    ·cases a5
     ·cases a6
      ·cases a7
       ·cases a8
        ·cases a9
         ·cases a10<;>cases b<;>rfl
         ·rfl
        ·rfl
       ·rfl
      ·rfl
     ·rfl
    ·rfl
   ·rfl
  ·rfl
 ·rfl
def hasB:List UInt8→Bool
 | []=>false
 | c::r=>(c==123&&r.head? == some 123)||hasB r
def endB (s:List UInt8):Bool:=s.getLast? == some 123
end Go.Proofs.YtagokkpnfceidaaDoor
end

section
namespace Go.Proofs.YtagokkpnfceidaaDoor
open Go.RowKit
mutual
def allN (Q:Qab→Prop):Qab→Prop
 | ⟨k,s,t,n,a,b,c⟩=>Q ⟨k,s,t,n,a,b,c⟩∧allL Q a∧allL Q b∧allL Q c
def allL (Q:Qab→Prop):List Qab→Prop
 | []=>True
 | x::r=>allN Q x∧allL Q r
end
structure okNd (x:Qab):Prop where
 nm:x.Name.length≤1000000
 tx:x.Text.length≤1000000
 rg : -9223372036854775808≤x.N∧x.N≤9223372036854775807
 qt:x.Kind=1→∃ q,Ql4 x.Text=some q∧Ql4 x.Text=some q
noncomputable def quoteP (s:List UInt8):List UInt8×Bool:=(Ql4 s).getD ([],false)
def zl (l:List Qab):Bool:=l.length==0
mutual
noncomputable def exprP:Qab→Bool
 | ⟨k,s,t,n,a,b,c⟩ =>
  if k==1 then(quoteP t).2&&(s==[]&&(n==0&&(zl a&&(zl b&&zl c)))) else
  if k==2 then s==[]&&(t==[]&&(zl a&&(zl b&&zl c))) else
  if k==3 then(n==0||n==1)&&(s==[]&&(t==[]&&(zl a&&(zl b&&zl c)))) else
  if k==4 then nameP s&&(t==[]&&(n==0&&(zl a&&(zl b&&zl c)))) else
  if k==5 then wordP s&&(a.length==1&&(exprsP a&&(t==[]&&(n==0&&(zl b&&zl c))))) else
  if k==6 then nameP s&&(decide (a.length≤3)&&(exprsP a&&(t==[]&&(n==0&&(zl b&&zl c))))) else
  if k==7 then wordP s&&(t==[]&&(n==0&&(zl a&&(zl b&&zl c)))) else false
noncomputable def exprsP:List Qab→Bool
 | []=>true
 | x::r=>exprP x&&exprsP r
end
section
end
section
variable (n:Nat) (ih:∀ x:Qab,nn x≤n→allN okNd x→Qv3 x=some (exprP x))
include ih
end
def litB:List Qab→Bool
 | []=>false
 | x::_=>x.Kind==8
def badSt (x:Qab) (r:List Qab) (inn:Bool):Bool:=x.Kind==8&&(litB r||((!r.isEmpty||inn)&&endB x.Text))
mutual
noncomputable def stmtP:Qab→Bool
 | ⟨k,s,t,n,a,b,c⟩ =>
  if k==8 then !(t==[])&&(!(hasB t)&&(s==[]&&(n==0&&(zl a&&(zl b&&zl c))))) else
  if k==9 then(a.length==1&&exprsP a)&&(s==[]&&(t==[]&&(n==0&&(zl b&&zl c)))) else
  if k==10 then(a.length==1&&exprsP a)&&((blockP b true&&blockP c true)&&(s==[]&&(t==[]&&n==0))) else
  if k==11||k==12 then nameP s&&((a.length==1&&exprsP a)&&(blockP b true&&(t==[]&&(n==0&&zl c)))) else
  if k==13 then nameP s&&((a.length==1&&exprsP a)&&(t==[]&&(n==0&&(zl b&&zl c)))) else false
noncomputable def blockP:List Qab→Bool→Bool
 | [],_=>true
 | x::r,inn=>stmtP x&&(!(badSt x r inn)&&blockP r inn)
end
end Go.Proofs.YtagokkpnfceidaaDoor
end

section
namespace Go.Proofs.YtagokkpnfceidaaDoor
open Go.RowKit
def maxD (l:List (Qab×Int)) (m:Int):Int:=l.foldl (fun m x=>if x.2>m then x.2 else m) m
theorem Qny (a b:List (Qab×Int)) (m:Int):maxD (a++b) m=maxD b (maxD a m):=by unfold maxD; rw[List.foldl_append]
theorem tDeepL (x1:List Qab×Int):∀ (l:List (Qab×Int)) (m:Int),Qdd x1 l m=some (maxD l m)
 | [],m=>by rw[Qdd]; rfl
 | x::r,m=>by rw[Qdd,tDeepL x1 r]; rfl
theorem tCountL (x1:List Qab×Int):∀ (l:List (Qab×Int)) (m:Nat),m+l.length<9223372036854775807→Qco x1 l m=some ((m+l.length:Nat):Int)
 | [],m,_=>by rw[Qco]; rfl
 | x::r,m,h=>by
  simp at h
  rw[Qco,Qd8 (by omega),tCountL x1 r (m+1) (by omega)]
  simp; omega
theorem tAll3 (p0:List Qab) (p1 v12:Int) (x3:Qab) (v28:Int) (x7:List Qab×Int):∀ l:List (Qab×Int),Qcp p0 p1 v12 x3 v28 x7 l=some (l,())
 | []=>by rw[Qcp]
 | x::r=>by
  obtain⟨⟨k,s,t,n,a,b,c⟩,d⟩:=x
  rw[Qcp,tAll3 p0 p1 v12 x3 v28 x7 r]; rfl
def AllIs (d:Nat) (k dep:Nat) (o:Option (List (Qab×Int)×Unit)):Prop:=∃ out,o=some (out,())∧out.length=k∧∀ m:Int,(d:Int)-1≤m→maxD out m=max m ((d:Int)-1+dep)
section
variable (n:Nat) (ih:∀ (l:List Qab) (d:Nat),nns l≤n→n+d≤1000000000→AllIs d (nns l) (dps l) (Qdt l d))
include ih
theorem tAll2 (l:List Qab) (d:Nat) (v:Int) (x:Qab) (hx:nn x≤n+1) (hd:n+1+d≤1000000000) :
  AllIs (d+1) (nns x.L+nns x.Then+nns x.Else) (max (dps x.L) (max (dps x.Then) (dps x.Else))) (Qbp l d v x 0):=by
 rw[nn_eq] at hx
 have ed:wr ((d:Int)+1)=((d+1:Nat):Int):=Qd8 (by omega)
 obtain⟨o1,a1,a2,a3⟩:=ih x.L (d+1) (by omega) (by omega)
 obtain⟨o2,b1,b2,b3⟩:=ih x.Then (d+1) (by omega) (by omega)
 obtain⟨o3,c1,c2,c3⟩:=ih x.Else (d+1) (by omega) (by omega)
 have s3:Qbp l d v x 3=some ([],()):=by rw[Qbp]; rfl
 have s2:Qbp l d v x 2=some (o3++[],()):=by
  rw[Qbp]
  have e:wr ((2:Int)+1)=3:=by rw[wr_in (by omega) (by omega)]; rfl
  have g:idx ([x.L,x.Then,x.Else]:List (List Qab)) 2=some x.Else:=Qul _ 2
  rw[g,e,s3]
  simp only[Qad,Qgb,ed,c1,tAll3,show decide ((2:Int)<3)=true from rfl,if_true]
 have s1:Qbp l d v x 1=some (o2++(o3++[]),()):=by
  rw[Qbp]
  have e:wr ((1:Int)+1)=2:=by rw[wr_in (by omega) (by omega)]; rfl
  have g:idx ([x.L,x.Then,x.Else]:List (List Qab)) 1=some x.Then:=Qul _ 1
  rw[g,e,s2]
  simp only[Qad,Qgb,ed,b1,tAll3,show decide ((1:Int)<3)=true from rfl,if_true]
 have s0:Qbp l d v x 0=some (o1++(o2++(o3++[])),()):=by
  rw[Qbp]
  have e:wr ((0:Int)+1)=1:=by rw[wr_in (by omega) (by omega)]; rfl
  have g:idx ([x.L,x.Then,x.Else]:List (List Qab)) 0=some x.L:=Qul _ 0
  rw[g,e,s1]
  simp only[Qad,Qgb,ed,a1,tAll3,show decide ((0:Int)<3)=true from rfl,if_true]
 refine⟨_,s0,by simp; omega,fun m hm=>?_⟩
 rw[List.append_nil,Qny,Qny,a3 m hm,b3 _ (by omega),c3 _ (by omega)]
 omega
theorem tAll1 (l:List Qab) (d:Nat) (hl:nns l≤n+1) (hd:n+1+d≤1000000000):∀ k,k≤l.length→AllIs d (nns (l.drop k)) (dps (l.drop k)) (Qdi l d k):=by
 have hlen:=Qpc l
 refine upto ?_ fun k hk ihk=>?_
 ·rw[Qdi,List.drop_length]
  refine⟨[],by simp,by simp[nns],fun m hm=>?_⟩
  simp[maxD,dps]; omega
 ·have hx:=Quy (List.getElem_mem hk)
  obtain⟨o1,a1,a2,a3⟩:=tAll2 n ih l d k l[k] (by omega) hd
  obtain⟨o2,b1,b2,b3⟩:=ihk
  rw[Qdi,Qd8 (by omega)]
  simp only[ltI,hk,decide_true,if_true,Qcw,getE hk,Qad,a1,b1]
  rw[dropE hk]
  refine⟨_,rfl,?_,fun m hm=>?_⟩
  ·simp[nns,nn_eq,a2,b2]; omega
  ·show maxD ([(l[k],(d:Int))]++(o1++o2)) m=_
   have e0:maxD [(l[k],(d:Int))] m=max m d:=by
    show(if(d:Int)>m then(d:Int) else m)=_
    split<;>omega
   rw[Qny,Qny,e0,a3 _ (by omega),b3 _ (by omega),dps,dp_eq]
   omega
end
theorem tAll:∀ n (l:List Qab) (d:Nat),nns l≤n→n+d≤1000000000→AllIs d (nns l) (dps l) (Qdt l d):=by
 intro n
 induction n with
 | zero =>
  intro l d h _
  have hl:l=[]:=List.eq_nil_of_length_eq_zero (by have:=Qpc l; omega)
  subst hl
  rw[Qdt,Qdi]
  refine⟨[],by simp,by simp[nns],fun m hm=>?_⟩
  simp[maxD,dps]; omega
 | succ n ih =>
  intro l d h hd
  obtain⟨o,a1,a2,a3⟩:=tAll1 n ih l d h hd 0 (by omega)
  rw[List.drop_zero] at a2 a3
  refine⟨o,?_,a2,a3⟩
  rw[Qdt,show(0:Int)=((0:Nat):Int) from rfl,a1]
  simp
theorem tDeep (l:List Qab) (h:nns l≤900000000):Qj9 l=some (dps l:Int):=by
 obtain⟨o,a1,a2,a3⟩:=tAll 900000000 l 1 h (by omega)
 rw[Qj9,Qgb]
 simp only[Qad]
 rw[show(1:Int)=((1:Nat):Int) from rfl,a1]
 simp only[Qad,tDeepL]
 rw[a3 0 (by omega)]
 congr 1
 omega
theorem tCount (l:List Qab) (h:nns l≤900000000):Qim l=some (nns l:Int):=by
 obtain⟨o,a1,a2,a3⟩:=tAll 900000000 l 1 h (by omega)
 have:=tCountL (l,((1:Nat):Int)) o 0 (by omega)
 rw[Qim,Qgb]
 simp only[Qad]
 rw[show(1:Int)=((1:Nat):Int) from rfl,a1]
 simp only[Qad]
 rw[show(0:Int)=((0:Nat):Int) from rfl,this]
 simp[a2]
section
variable (n:Nat) (hn:n≤900000000) (ih:∀ l:List Qab,nns l≤n→Qnw l=some (dps l:Int)∧Ql5 l=some (nns l:Int))
include hn ih
end
end Go.Proofs.YtagokkpnfceidaaDoor
end

section
namespace Go.Proofs.YtagokkpnfceidaaDoor
open Go.RowKit
set_option linter.unusedSimpArgs false
set_option linter.unusedVariables false
abbrev Tk0:Qaa:=⟨0,[],0,0,0⟩
def hd (l:List Qaa):Qaa:=l.headD Tk0
def kd (l:List Qaa):Int:=(hd l).Kind
@[simp] theorem Q12:hd []=Tk0:=rfl
@[simp] theorem Quz (t:Qaa) (r:List Qaa):hd (t::r)=t:=rfl
@[simp] theorem Q1w:kd []=0:=rfl
@[simp] theorem Qu0 (t:Qaa) (r:List Qaa):kd (t::r)=t.Kind:=rfl
inductive Rs (α : Type) where
 | ok (x : α) (l:List Qaa)
 | bad (l:List Qaa)
def Rs.bind {α β : Type} (r:Rs α) (f : α → List Qaa→Rs β):Rs β := match r with
 | .ok x l=>f x l
 | .bad l =>.bad l
def isW (w:List UInt8) (l:List Qaa):Bool:=kd l==4&&(hd l).Text==w
def want (k:Int) (l:List Qaa):Rs Qaa:=if kd l=k then .ok (hd l) l.tail else .bad l
def wantW (w:List UInt8) (l:List Qaa):Rs Unit:=if isW w l=true then .ok () l.tail else .bad l
def nameR (l:List Qaa):Rs (List UInt8):=if kd l=4∧nameP (hd l).Text=true then .ok (hd l).Text l.tail else .bad l
def endW (w:List UInt8) (l:List Qaa):Rs Unit:=(want 2 l).bind fun _ l1=>(wantW w l1).bind fun _ l2=>(want 3 l2).bind fun _ l3 =>.ok () l3
def ahead (w:List UInt8) (l:List Qaa):Bool:=kd l==2&&isW w l.tail
abbrev wIf:List UInt8:=[105,102]
abbrev wElse:List UInt8:=[101,108,115,101]
abbrev wEnd:List UInt8:=[101,110,100]
abbrev wEach:List UInt8:=[101,97,99,104]
abbrev wIn:List UInt8:=[105,110]
abbrev wLet:List UInt8:=[108,101,116]
abbrev wUse:List UInt8:=[117,115,101]
abbrev wTrue:List UInt8:=[116,114,117,101]
abbrev wFalse:List UInt8:=[102,97,108,115,101]
abbrev wSecret:List UInt8:=[115,101,99,114,101,116]
def secretR (l:List Qaa):Rs Qab:=(want 8 l).bind fun _ l1 =>
 if kd l1=5∧wordP (hd l1).Text=true then(want 9 l1.tail).bind fun _ l2 =>.ok ⟨7,(hd l1).Text,[],0,[],[],[]⟩ l2 else .bad l1
def argsR (E:List Qaa→Rs Qab) (l:List Qaa):Rs (List Qab) :=
 if kd l=9 then .ok [] l.tail else(E l).bind fun x1 l1 =>
  if kd l1=10 then(E l1.tail).bind fun x2 l2 =>
   if kd l2=10 then(E l2.tail).bind fun x3 l3=>(want 9 l3).bind fun _ l4 =>.ok [x1,x2,x3] l4
   else(want 9 l2).bind fun _ l4 =>.ok [x1,x2] l4
  else(want 9 l1).bind fun _ l4 =>.ok [x1] l4
def firstR (E:List Qaa→Rs Qab) (l:List Qaa):Rs Qab :=
 if kd l=5 then .ok ⟨1,[],(hd l).Text,0,[],[],[]⟩ l.tail
 else if kd l=6 then .ok ⟨2,[],[],(hd l).N,[],[],[]⟩ l.tail
 else if isW wTrue l=true then .ok ⟨3,[],[],1,[],[],[]⟩ l.tail
 else if isW wFalse l=true then .ok ⟨3,[],[],0,[],[],[]⟩ l.tail
 else if isW wSecret l=true then secretR l.tail
 else(nameR l).bind fun s l1=>if kd l1=8 then(argsR E l1.tail).bind fun xs l2 =>.ok ⟨6,s,[],0,xs,[],[]⟩ l2 else .ok ⟨4,s,[],0,[],[],[]⟩ l1
def dotsR:Nat→Qab→List Qaa→Rs Qab
 | 0,x,l =>.ok x l
 | n+1,x,l=>if kd l=7 then(want 4 l.tail).bind fun t l2=>dotsR n ⟨5,t.Text,[],0,[x],[],[]⟩ l2 else .ok x l
def exprR:Nat→List Qaa→Rs Qab
 | 0,l =>.bad l
 | f+1,l=>(firstR (exprR f) l).bind fun x l1=>dotsR l1.length x l1
def ex20 (l:List Qaa):Rs Qab:=exprR (l.length+1) l
def closedR (l:List Qaa):Rs Qab:=(ex20 l).bind fun x l1=>(want 3 l1).bind fun _ l2 =>.ok x l2
def addLit (out:List Qab) (s:List UInt8):List Qab:=match out.getLast? with
 | some x=>if x.Kind=8 then out.set (out.length-1) ⟨x.Kind,x.Name,x.Text++s,x.N,x.L,x.Then,x.Else⟩ else out++[⟨8,[],s,0,[],[],[]⟩]
 | none=>out++[⟨8,[],s,0,[],[],[]⟩]
def actR (B:Bool→Bool→List Qaa→Rs (List Qab)) (l:List Qaa):Rs Qab :=
 if isW wIf l=true then(closedR l.tail).bind fun x l1=>(B true true l1).bind fun y l2 =>
  if ahead wElse l2=true then(endW wElse l2).bind fun _ l3=>(B true false l3).bind fun z l4=>(endW wEnd l4).bind fun _ l5 =>.ok ⟨10,[],[],0,[x],y,z⟩ l5
  else(endW wEnd l2).bind fun _ l5 =>.ok ⟨10,[],[],0,[x],y,[]⟩ l5
 else if isW wEach l=true then(nameR l.tail).bind fun s l1=>(wantW wIn l1).bind fun _ l2=>(closedR l2).bind fun x l3=>(B true false l3).bind fun y l4=>(endW wEnd l4).bind fun _ l5 =>.ok ⟨11,s,[],0,[x],y,[]⟩ l5
 else if isW wLet l=true then(nameR l.tail).bind fun s l1=>(want 11 l1).bind fun _ l2=>(closedR l2).bind fun x l3=>(B true false l3).bind fun y l4=>(endW wEnd l4).bind fun _ l5 =>.ok ⟨12,s,[],0,[x],y,[]⟩ l5
 else if isW wUse l=true then(nameR l.tail).bind fun s l1=>(closedR l1).bind fun x l2 =>.ok ⟨13,s,[],0,[x],[],[]⟩ l2
 else(closedR l).bind fun x l2 =>.ok ⟨9,[],[],0,[x],[],[]⟩ l2
def loopR:Nat→Bool→Bool→List Qab→List Qaa→Rs (List Qab)
 | 0,_,_,_,l =>.bad l
 | f+1,i,o,out,l=>if l=[] then .ok out l else
  if kd l=1 then loopR f i o (addLit out (hd l).Text) l.tail
  else if((i&&ahead wEnd l)||(o&&ahead wElse l))=true then .ok out l
  else if kd l=2 then
   (if kd l.tail=3 then loopR f i o out l.tail.tail else(actR (fun i o l=>loopR f i o [] l) l.tail).bind fun x l2=>loopR f i o (out++[x]) l2)
  else .bad l
def bl20 (i o:Bool) (l:List Qaa):Rs (List Qab):=loopR (l.length+1) i o [] l
end Go.Proofs.YtagokkpnfceidaaDoor
end

section
namespace Go.Proofs.YtagokkpnfceidaaDoor
open Go.RowKit
set_option linter.unusedSimpArgs false
set_option linter.unusedVariables false
def pos (L l:List Qaa):Int:=((L.length-l.length:Nat):Int)
structure Toks (L:List Qaa):Prop where
 len:L.length≤200000
 sum:(L.map (·.Text.length)).sum≤200000
theorem Qyz {t:Qaa}:∀ {L:List Qaa},t ∈ L→t.Text.length≤(L.map (·.Text.length)).sum
 | x::r,h=>by
  rw[List.map_cons,List.sum_cons]
  rcases List.mem_cons.1 h with rfl | h
  ·omega
  ·have:=Qyz h; omega
theorem Q0q {L l:List Qaa} (h:l <:+ L):L.drop (L.length-l.length)=l:=by
 obtain⟨p,rfl⟩:=h
 simp
theorem Qcj {L l:List Qaa} (h:l <:+ L):l.tail <:+ L:=(List.tail_suffix l).trans h
theorem Qy0 {L l:List Qaa} (hL:Toks L) (h:l <:+ L):(hd l).Text.length≤200000:=by
 cases l with
 | nil=>simp[hd]
 | cons t r=>have:=Qyz (h.subset (List.mem_cons_self)); have:=hL.sum; simp only[Quz]; omega
theorem Qma {L l:List Qaa} (hL:Toks L) (h:l <:+ L) (hne:l≠[]):wr (pos L l+1)=pos L l.tail:=by
 have h1:=h.length_le
 have h2:=hL.len
 have h3:0<l.length:=List.length_pos_iff.2 hne
 unfold pos
 rw[Qd8 (by omega),List.length_tail]
 congr 1; omega
theorem Qy1 {L l:List Qaa} (h:l <:+ L) (hne:l≠[]):(pos L l==(L.length:Int))=false∧idx L (pos L l)=some (hd l)∧decide (pos L l<(L.length:Int))=true:=by
 have h1:=h.length_le
 have h3:0<l.length:=List.length_pos_iff.2 hne
 refine⟨?_,?_,?_⟩
 ·unfold pos; simp; omega
 ·unfold pos
  rw[Qcw]
  have:=Q0q h
  have e:L[L.length-l.length]? = (L.drop (L.length-l.length)).head? := by simp[List.head?_drop]
  rw[e,this]
  cases l with
  | nil=>exact absurd rfl hne
  | cons t r=>rfl
 ·unfold pos; simp; omega
theorem Qu1 (L:List Qaa):pos L []=(L.length:Int):=by simp[pos]
theorem kd_ne {l:List Qaa} {k:Int} (hk:k≠0) (h:kd l=k):l≠[]:=fun e=>by subst e; exact hk h.symm
theorem Qd6 {l:List Qaa} {w:List UInt8} (h:isW w l=true):l≠[]:=fun e=>by subst e; simp[isW] at h
section
variable {L l:List Qaa} (hL:Toks L) (h:l <:+ L)
include hL h
theorem pNext:Qay L (pos L l)=some (hd l):=by
 have _:=hL
 unfold Qay
 by_cases hne:l=[]
 ·subst hne; simp[Qu1]
 ·obtain⟨h1,h2,-⟩:=Qy1 h hne
  rw[h1,h2]; rfl
theorem pSign (k:Int) (hk:k≠0):Qa9 k L (pos L l)=some (if kd l=k then(true,pos L l.tail) else(false,pos L l)):=by
 unfold Qa9
 rw[pNext hL h]
 by_cases hkd:kd l=k
 ·have:((hd l).Kind != k)=false:=by simpa [kd] using hkd
  simp only[Qad,this,if_pos hkd,Qma hL h (kd_ne hk hkd)]; rfl
 ·have:((hd l).Kind != k)=true:=by simpa [kd] using hkd
  simp only[Qad,this,if_neg hkd]; rfl
theorem pWant (k:Int) (hk:k≠0):Qai k L (pos L l)=some (if kd l=k then .inl (hd l,pos L l.tail) else .inr ()):=by
 unfold Qai Qaq
 rw[pNext hL h]
 by_cases hkd:kd l=k
 ·have:((hd l).Kind==k)=true:=by simpa [kd] using hkd
  simp only[Qad,this,mustO,if_pos hkd,Qma hL h (kd_ne hk hkd)]; rfl
 ·have:((hd l).Kind==k)=false:=by simpa [kd] using hkd
  simp only[Qad,this,mustO,if_neg hkd]; rfl
theorem pWord (w:List UInt8):Qak w L (pos L l)=some (if isW w l=true then(true,pos L l.tail) else(false,pos L l)):=by
 unfold Qak
 rw[pNext hL h]
 by_cases hw:isW w l=true
 ·have h4:(hd l).Kind=4∧(hd l).Text=w:=by simpa [isW,kd] using hw
  simp[h4.1,h4.2,hw,Qma hL h (Qd6 hw)]
 ·rw[if_neg hw]
  have hw' : isW w l=false:=by simpa using hw
  by_cases h4:(hd l).Kind=4
  ·have:((hd l).Text==w)=false:=by simpa [isW,kd,h4] using hw'
   simp[h4,this]
  ·simp[h4]
theorem pName:Qbs L (pos L l)=some (match nameR l with | .ok s r =>.inl (s,pos L r) | .bad _ =>.inr ()):=by
 unfold Qbs Qaq nameR
 have ht:=Qy0 hL h
 rw[pNext hL h,Qad,tName _ (by omega),Qad,pWant hL h 4 (by decide)]
 by_cases hn:nameP (hd l).Text=true
 ·by_cases hk:kd l=4
  ·simp[hn,hk,mustO]
  ·simp[hn,hk,mustO]
 ·simp[hn,mustO]
end
def cP {α : Type} (L:List Qaa):Rs α → (α × Int)⊕Int
 | .ok x l =>.inl (x,pos L l)
 | .bad l =>.inr (pos L l)
def Suf {α : Type} (l:List Qaa):Rs α → Prop
 | .ok _ l' => l' <:+ l∧l'.length<l.length
 | .bad l' => l' <:+ l
theorem Qca {l:List Qaa} (h:l≠[]):l.tail.length<l.length:=by
 have:=List.length_pos_iff.2 h
 rw[List.length_tail]; omega
theorem Suf.mono {α : Type} {l l' : List Qaa} {r:Rs α} (h:Suf l' r) (hs:l' <:+ l):Suf l r:=by
 have:=hs.length_le
 cases r with
 | ok x l2=>exact⟨h.1.trans hs,by have:=h.2; omega⟩
 | bad l2=>exact List.IsSuffix.trans h hs
theorem Suf.bind {α β : Type} {l:List Qaa} {r:Rs α} {f : α → List Qaa→Rs β} (h:Suf l r) (hf:∀ x l', r = .ok x l' → Suf l' (f x l')∨∃ y,f x l' = .ok y l'):Suf l (r.bind f):=by
 cases r with
 | ok x l' =>
  rcases hf x l' rfl with k | ⟨y,k⟩
  ·exact k.mono h.1
  ·show Suf l (f x l'); rw[k]; exact h
 | bad l' => exact h
theorem Qeu {k:Int} (hk:k≠0) (l:List Qaa):Suf l (want k l):=by
 unfold want
 split
 ·rename_i h; exact⟨List.tail_suffix l,Qca (kd_ne hk h)⟩
 ·exact List.suffix_refl l
theorem Qmb (w:List UInt8) (l:List Qaa):Suf l (wantW w l):=by
 unfold wantW
 split
 ·rename_i h; exact⟨List.tail_suffix l,Qca (Qd6 h)⟩
 ·exact List.suffix_refl l
theorem Qc6 (l:List Qaa):Suf l (nameR l):=by
 unfold nameR
 split
 ·rename_i h; exact⟨List.tail_suffix l,Qca (kd_ne (by decide) h.1)⟩
 ·exact List.suffix_refl l
theorem Qmc (w:List UInt8) (l:List Qaa):Suf l (endW w l) :=
 Suf.bind (Qeu (by decide) l) fun _ l1 _ =>.inl (Suf.bind (Qmb w l1) fun _ l2 _ =>.inl (Suf.bind (Qeu (by decide) l2) fun _ l3 _ =>.inr ⟨_,rfl⟩))
theorem Qd7 {α : Type} {l:List Qaa} {f:Rs α} (h:Suf l.tail f):Suf l f:=h.mono (List.tail_suffix l)
theorem Qu2 (l:List Qaa):Suf l (secretR l):=Suf.bind (Qeu (by decide) l) fun _ l1 _ =>.inl (by
 split
 ·exact Qd7 (Suf.bind (Qeu (by decide) _) fun _ _ _ =>.inr ⟨_,rfl⟩)
 ·exact List.suffix_refl l1)
theorem Qy2 {E:List Qaa→Rs Qab} (hE:∀ l,Suf l (E l)) (l:List Qaa):Suf l (argsR E l):=by
 unfold argsR
 split
 ·rename_i h; exact⟨List.tail_suffix l,Qca (kd_ne (by decide) h)⟩
 ·refine Suf.bind (hE l) fun x1 l1 _ =>.inl ?_
  split
  ·refine Qd7 (Suf.bind (hE _) fun x2 l2 _ =>.inl ?_)
   split
   ·exact Qd7 (Suf.bind (hE _) fun x3 l3 _ =>.inl (Suf.bind (Qeu (by decide) _) fun _ _ _ =>.inr ⟨_,rfl⟩))
   ·exact Suf.bind (Qeu (by decide) _) fun _ _ _ =>.inr ⟨_,rfl⟩
  ·exact Suf.bind (Qeu (by decide) _) fun _ _ _ =>.inr ⟨_,rfl⟩
theorem Qqn {E:List Qaa→Rs Qab} (hE:∀ l,Suf l (E l)) (l:List Qaa):Suf l (firstR E l):=by
 unfold firstR
 split
 ·rename_i h; exact⟨List.tail_suffix l,Qca (kd_ne (by decide) h)⟩
 split
 ·rename_i h; exact⟨List.tail_suffix l,Qca (kd_ne (by decide) h)⟩
 split
 ·rename_i h; exact⟨List.tail_suffix l,Qca (Qd6 h)⟩
 split
 ·rename_i h; exact⟨List.tail_suffix l,Qca (Qd6 h)⟩
 split
 ·exact Qd7 (Qu2 _)
 ·refine Suf.bind (Qc6 l) fun s l1 _=>?_
  by_cases h:kd l1=8
  ·simp only[if_pos h]
   exact .inl (Qd7 (Suf.bind (Qy2 hE _) fun _ _ _ =>.inr ⟨_,rfl⟩))
  ·simp only[if_neg h]
   exact .inr ⟨_,rfl⟩
theorem Qti:∀ (n:Nat) (x:Qab) (l:List Qaa),Suf l (dotsR n x l)∨∃ y,dotsR n x l = .ok y l
 | 0,x,l =>.inr ⟨x,rfl⟩
 | n+1,x,l=>by
  unfold dotsR
  split
  ·refine .inl (Qd7 (Suf.bind (Qeu (by decide) _) fun t l2 _=>Qti n _ l2))
  ·exact .inr ⟨x,rfl⟩
theorem Qkb:∀ (f:Nat) (l:List Qaa),Suf l (exprR f l)
 | 0,l=>List.suffix_refl l
 | f+1,l=>Suf.bind (Qqn (Qkb f) l) fun x l1 _=>Qti _ x l1
theorem Qbm (l:List Qaa):Suf l (closedR l):=Suf.bind (Qkb _ l) fun x l1 _ =>.inl (Suf.bind (Qeu (by decide) _) fun _ _ _ =>.inr ⟨_,rfl⟩)
end Go.Proofs.YtagokkpnfceidaaDoor
end

section
namespace Go.Proofs.YtagokkpnfceidaaDoor
open Go.RowKit
set_option linter.unusedSimpArgs false
set_option linter.unusedVariables false
section
variable {L:List Qaa} (hL:Toks L)
include hL
theorem Qkc {k:Int} {l:List Qaa} (h:kd l=k):want k l = .ok (hd l) l.tail:=by have _:=hL; unfold want; rw[if_pos h]
theorem Qh7 {k:Int} {l:List Qaa} (h:¬ kd l=k):want k l = .bad l:=by have _:=hL; unfold want; rw[if_neg h]
theorem pSecret {l:List Qaa} (h:l <:+ L):(Qai 8 L (pos L l)>>=fun o6 =>
      match o6 with
      | .inl x5 =>
       Qay L x5.2>>=fun x8 =>
       Qh5 x8.Text>>=fun x9 =>
       Qaq x9 L x5.2>>=fun o11 =>
       match o11 with
       | .inl x10 =>
        Qai 5 L x5.2>>=fun o14 =>
        match o14 with
        | .inl x13 =>
         Qai 9 L x13.2>>=fun o17 =>
         match o17 with
         | .inl x16 =>
          some (.inl ((Qab.mk 7 x13.1.Text [] 0 [] [] []),x16.2))
         | .inr z18 =>
          some (.inr x13.2)
        | .inr z15 =>
         some (.inr x5.2)
       | .inr z12 =>
        some (.inr x5.2)
      | .inr z7 =>
       some (.inr (pos L l)):Option ((Qab×Int)⊕Int))=some (cP L (secretR l)):=by
 rw[pWant hL h 8 (by decide)]
 by_cases h8:kd l=8
 ·have h1:=Qcj h
  simp only[if_pos h8,Qad,secretR,Qkc hL h8,Rs.bind,pNext hL h1]
  rw[lWord _ (by have:=Qy0 hL h1; omega)]
  by_cases hw:wordP (hd l.tail).Text=true
  ·simp only[Qad,hw,Qaq,mustO,if_true]
   rw[pWant hL h1 5 (by decide)]
   by_cases h5:kd l.tail=5
   ·have h2:=Qcj h1
    simp only[if_pos h5,Qad,h5,and_self,if_true]
    rw[pWant hL h2 9 (by decide)]
    by_cases h9:kd l.tail.tail=9
    ·simp[if_pos h9,Qkc hL h9,cP]
    ·simp[if_neg h9,Qh7 hL h9,cP]
   ·simp[if_neg h5,h5,cP]
  ·have hw' : wordP (hd l.tail).Text=false:=by simpa using hw
   simp[hw', Qaq,mustO,cP]
 ·simp[if_neg h8,secretR,Qh7 hL h8,Rs.bind,cP]
def PE (L:List Qaa) (n:Nat) (E:List Qaa→Rs Qab):Prop:=∀ l,l <:+ L→l.length<n→Qbt L (pos L l)=some (cP L (E l))
theorem pArgsStop (v:List Qab) {l:List Qaa} (h:l <:+ L) (hs:¬ v.length<3∨¬ kd l=10):Qbd L v (pos L l)=some (.inl (v,pos L l)):=by
 rw[Qbd]
 by_cases hv:v.length<3
 ·have h10:¬ kd l=10:=hs.resolve_left (fun k=>k hv)
  have e:decide ((v.length:Int)<3)=true:=by simp; omega
  simp[e,pSign hL h 10 (by decide),h10]
 ·have e:decide ((v.length:Int)<3)=false:=by simp; omega
  simp[e]
theorem pArgsStep (v:List Qab) {n:Nat} {E:List Qaa→Rs Qab} (hE:PE L n E) {l:List Qaa} (h:l <:+ L) (hn:l.length≤n) (hv:v.length<3) (h10:kd l=10) :
  Qbd L v (pos L l)=match E l.tail with | .ok x l2=>Qbd L (v++[x]) (pos L l2) | .bad l2=>some (.inr (pos L l2)):=by
 rw[Qbd]
 have e:decide ((v.length:Int)<3)=true:=by simp; omega
 have hne:=kd_ne (by decide) h10
 have:=Qca hne
 simp only[e,if_true,pSign hL h 10 (by decide),if_pos h10,Qad,hE l.tail (Qcj h) (by omega)]
 cases hx:E l.tail with
 | ok x l2=>simp only[cP,Qad,Qld (show(v.length+[x].length)*120≤140737488355328 by simp; omega) (by simp; omega)]
 | bad l2=>simp[cP]
theorem pFin (xs:List Qab) {l:List Qaa} (h:l <:+ L):(Qai 9 L (pos L l)>>=fun o15 =>
    match o15 with
    | .inl x14=>some (.inl (xs,x14.2))
    | .inr z16=>some (.inr (pos L l)):Option ((List Qab×Int)⊕Int))=some (cP L ((want 9 l).bind fun _ l4 =>.ok xs l4)):=by
 rw[pWant hL h 9 (by decide)]
 by_cases h9:kd l=9
 ·simp[if_pos h9,Qkc hL h9,cP,Rs.bind]
 ·simp[if_neg h9,Qh7 hL h9,cP,Rs.bind]
theorem pArgs {n:Nat} {E:List Qaa→Rs Qab} (hE:PE L n E) (hS:∀ l,Suf l (E l)) {l:List Qaa} (h:l <:+ L) (hn:l.length<n):Qc4 L (pos L l)=some (cP L (argsR E l)):=by
 rw[Qc4,pSign hL h 9 (by decide)]
 by_cases h9:kd l=9
 ·simp[if_pos h9,argsR,cP]
 ·simp only[if_neg h9,Qad,argsR,Bool.false_eq_true,if_false,hE l h hn]
  have s1:=hS l
  cases hx:E l with
  | bad l2=>simp[cP,Rs.bind]
  | ok x1 l1 =>
   rw[hx] at s1
   have t1:l1 <:+ L:=s1.1.trans h
   simp only[cP,Qad,Rs.bind]
   by_cases h10:kd l1=10
   ·rw[pArgsStep hL [x1] hE t1 (by have:=s1.2; omega) (by simp) h10,if_pos h10]
    have s2:=hS l1.tail
    cases hx2:E l1.tail with
    | bad l2=>simp[cP,Rs.bind]
    | ok x2 l2 =>
     rw[hx2] at s2
     have t2:l2 <:+ L:=s2.1.trans (Qcj t1)
     have n2:l2.length≤n:=by have:=s2.2; have:=Qca (kd_ne (by decide) h10); have:=s1.2; omega
     simp only[Rs.bind]
     by_cases h102:kd l2=10
     ·rw[pArgsStep hL ([x1]++[x2]) hE t2 n2 (by simp) h102,if_pos h102]
      have s3:=hS l2.tail
      cases hx3:E l2.tail with
      | bad l3=>simp[cP,Rs.bind]
      | ok x3 l3 =>
       rw[hx3] at s3
       have t3:l3 <:+ L:=s3.1.trans (Qcj t2)
       simp only[Rs.bind]
       rw[pArgsStop hL ([x1]++[x2]++[x3]) t3 (.inl (by simp)),Qad]
       exact pFin hL [x1,x2,x3] t3
     ·rw[if_neg h102]
      rw[pArgsStop hL ([x1]++[x2]) t2 (.inr h102),Qad]
      exact pFin hL [x1,x2] t2
   ·rw[pArgsStop hL [x1] t1 (.inr h10),if_neg h10,Qad]
    exact pFin hL [x1] t1
theorem pFirst {n:Nat} {E:List Qaa→Rs Qab} (hE:PE L n E) (hS:∀ l,Suf l (E l)) {l:List Qaa} (h:l <:+ L) (hn:l.length≤n):Qd5 L (pos L l)=some (cP L (firstR E l)):=by
 rw[Qd5,pNext hL h,Qad]
 by_cases h5:kd l=5
 ·have e:((hd l).Kind==5)=true:=by simpa [kd] using h5
  simp only[e,if_true,firstR,if_pos h5,cP,Qma hL h (kd_ne (by decide) h5)]
 have e5:((hd l).Kind==5)=false:=by simpa [kd] using h5
 by_cases h6:kd l=6
 ·have e:((hd l).Kind==6)=true:=by simpa [kd] using h6
  simp only[e5,e,if_true,Bool.false_eq_true,if_false,firstR,if_neg h5,if_pos h6,cP,Qma hL h (kd_ne (by decide) h6)]
 have e6:((hd l).Kind==6)=false:=by simpa [kd] using h6
 simp only[e5,e6,Bool.false_eq_true,if_false,firstR,if_neg h5,if_neg h6,pWord hL h,Qad]
 by_cases w1:isW wTrue l=true
 ·simp only[if_pos w1,if_true,cP]
 rw[if_neg w1,if_neg (show ¬ isW [116,114,117,101] l=true from w1)]
 simp only[Bool.false_eq_true,if_false,pWord hL h,Qad]
 by_cases w2:isW wFalse l=true
 ·simp only[if_pos w2,if_true,cP]
 rw[if_neg w2,if_neg (show ¬ isW [102,97,108,115,101] l=true from w2)]
 simp only[Bool.false_eq_true,if_false,pWord hL h,Qad]
 by_cases w3:isW wSecret l=true
 ·rw[if_pos w3,if_pos (show isW [115,101,99,114,101,116] l=true from w3)]
  simp only[if_true]
  exact pSecret hL (Qcj h)
 rw[if_neg w3,if_neg (show ¬ isW [115,101,99,114,101,116] l=true from w3)]
 simp only[Bool.false_eq_true,if_false,pName hL h,Qad]
 have s1:=Qc6 l
 cases hx:nameR l with
 | bad l1 =>
  have:l1=l:=by unfold nameR at hx; split at hx<;>cases hx; rfl
  subst this
  simp[Rs.bind,cP]
 | ok s l1 =>
  rw[hx] at s1
  have t1:l1 <:+ L:=s1.1.trans h
  simp only[Rs.bind]
  rw[pSign hL t1 8 (by decide)]
  by_cases h8:kd l1=8
  ·have:=Qca (kd_ne (by decide) h8)
   simp only[if_pos h8,Qad,if_true]
   rw[pArgs hL hE hS (Qcj t1) (by have:=s1.2; omega)]
   cases hy:argsR E l1.tail with
   | ok xs l2=>simp[cP]
   | bad l2=>simp[cP]
  ·simp[if_neg h8,cP]
theorem pDots:∀ (n:Nat) (x:Qab) (l:List Qaa),l <:+ L→l.length≤n →
  (Qbb L (pos L l) x.Kind x.Name x.Text x.N x.L x.Then x.Else>>=fun o4 =>
  match o4 with
  | .inl y5 =>
   some (.inl ((Qab.mk y5.2.1 y5.2.2.1 y5.2.2.2.1 y5.2.2.2.2.1 y5.2.2.2.2.2.1 y5.2.2.2.2.2.2.1 y5.2.2.2.2.2.2.2),y5.1))
  | .inr y6 =>
   some (.inr y6.1):Option ((Qab×Int)⊕Int))=some (cP L (dotsR n x l)):=by
 intro n
 induction n with
 | zero =>
  intro x l h hn
  have:l=[]:=List.eq_nil_of_length_eq_zero (by omega)
  subst this
  rw[Qbb,pSign hL h 7 (by decide)]
  simp only[Q1w,show ¬ (0:Int)=7 by decide,if_false,Qad,cP,dotsR,Bool.false_eq_true]
  cases x; rfl
 | succ n ih =>
  intro x l h hn
  rw[Qbb,pSign hL h 7 (by decide)]
  by_cases h7:kd l=7
  ·have h1:=Qcj h
   have:=Qca (kd_ne (by decide) h7)
   simp only[if_pos h7,Qad,if_true,dotsR]
   rw[pWant hL h1 4 (by decide)]
   by_cases h4:kd l.tail=4
   ·have:=Qca (kd_ne (by decide) h4)
    simp only[if_pos h4,Qad,Qkc hL h4,Rs.bind]
    have:=ih ⟨5,(hd l.tail).Text,[],0,[x],[],[]⟩ l.tail.tail (Qcj h1) (by omega)
    cases x
    exact this
   ·simp[if_neg h4,Qh7 hL h4,Rs.bind,cP]
  ·simp only[if_neg h7,Qad,cP,dotsR,Bool.false_eq_true,if_false]
   cases x; rfl
theorem pExpr:∀ (f:Nat),PE L f (exprR f)
 | 0=>fun l h hn=>absurd hn (by omega)
 | f+1=>fun l h hn=>by
  rw[Qbt,pFirst hL (pExpr f) (Qkb f) h (by omega),Qad,exprR]
  have s1:=Qqn (Qkb f) l
  cases hx:firstR (exprR f) l with
  | bad l1=>simp[cP,Rs.bind]
  | ok x l1 =>
   rw[hx] at s1
   simp only[cP,Rs.bind]
   exact pDots hL l1.length x l1 (s1.1.trans h) (Nat.le_refl _)
theorem pEx {l:List Qaa} (h:l <:+ L):Qbt L (pos L l)=some (cP L (ex20 l)):=pExpr hL (l.length+1) l h (by omega)
theorem pClosed {l:List Qaa} (h:l <:+ L):Qa7 L (pos L l)=some (match closedR l with | .ok x l' =>.inl ([x],pos L l') | .bad l' =>.inr (pos L l')):=by
 rw[Qa7,pEx hL h,Qad]
 have s1:=Qkb (l.length+1) l
 unfold closedR
 cases hx:ex20 l with
 | bad l1=>simp[cP,Rs.bind]
 | ok x l1 =>
  unfold ex20 at hx
  rw[hx] at s1
  simp only[cP,Rs.bind]
  rw[pWant hL (s1.1.trans h) 3 (by decide)]
  by_cases h3:kd l1=3
  ·simp[if_pos h3,Qkc hL h3]
  ·simp[if_neg h3,Qh7 hL h3]
end
end Go.Proofs.YtagokkpnfceidaaDoor
end

section
namespace Go.Proofs.YtagokkpnfceidaaDoor
open Go.RowKit
set_option linter.unusedSimpArgs false
set_option linter.unusedVariables false
def tsum (l:List Qaa):Nat:=(l.map (·.Text.length)).sum
theorem Qtj (l:List Qaa):(hd l).Text.length+tsum l.tail=tsum l:=by cases l<;>simp[tsum,hd]
theorem Qrx {l L:List Qaa} (h:l <:+ L):tsum l≤tsum L:=by
 obtain⟨p,rfl⟩:=h
 simp[tsum]
def lastT (out:List Qab):Nat:=match out.getLast? with
 | some x=>if x.Kind=8 then x.Text.length else 0
 | none=>0
structure BD (out:List Qab) (l:List Qaa):Prop where
 len:out.length+l.length≤400000
 txt:lastT out+tsum l≤400000
theorem Qxl (out:List Qab) (s:List UInt8):(addLit out s).length≤out.length+1:=by
 unfold addLit
 split
 ·split<;>simp
 ·simp
theorem Qu3 (out:List Qab) (s:List UInt8):lastT (addLit out s)≤lastT out+s.length:=by
 unfold addLit
 cases hx:out.getLast? with
 | none=>simp[lastT]
 | some x =>
  have hne:out≠[]:=fun e=>by subst e; simp at hx
  simp only
  split
  ·rename_i h8
   have hl:lastT out=x.Text.length:=by simp[lastT,hx,h8]
   have:(out.set (out.length-1) ⟨x.Kind,x.Name,x.Text++s,x.N,x.L,x.Then,x.Else⟩).getLast? = some ⟨x.Kind,x.Name,x.Text++s,x.N,x.L,x.Then,x.Else⟩:=by
    have h0:0<out.length:=List.length_pos_iff.2 hne
    rw[List.getLast?_eq_getElem?]
    simp[List.getElem?_set]
    omega
   rw[lastT,this]
   simp[h8,hl]
  ·simp[lastT]
theorem BD.lit {out:List Qab} {l:List Qaa} (h:BD out l) (hne:l≠[]):BD (addLit out (hd l).Text) l.tail:=by
 have h1:=Qxl out (hd l).Text
 have h2:=Qu3 out (hd l).Text
 have h3:=Qtj l
 have h4:=Qca hne
 exact⟨by have:=h.len; omega,by have:=h.txt; omega⟩
theorem BD.app {out:List Qab} {l l' : List Qaa} (h:BD out l) {x:Qab} (hx:x.Kind≠8) (hs:l' <:+ l) (hl:l'.length<l.length):BD (out++[x]) l' := by
 have h1:=Qrx hs
 refine⟨by have:=h.len; simp; omega,?_⟩
 have:lastT (out++[x])=0:=by simp[lastT,hx]
 have:=h.txt
 omega
theorem BD.suf {out:List Qab} {l l' : List Qaa} (h:BD out l) (hs:l' <:+ l):BD out l' := by
 have h1:=Qrx hs
 have h2:=hs.length_le
 exact⟨by have:=h.len; omega,by have:=h.txt; omega⟩
theorem BD.nil {L l:List Qaa} (hL:Toks L) (h:l <:+ L):BD [] l:=by
 have h1:=Qrx h
 have h2:=h.length_le
 have h3:=hL.len
 have h4:=hL.sum
 refine⟨by simp; omega,?_⟩
 have:tsum L≤200000:=h4
 simp only[lastT,List.getLast?_nil]
 omega
theorem litO {R:Type} (v:List Qab) (s:List UInt8) (K:List Qab→Option R) (h1:v.length≤400000) (h2:lastT v+s.length≤400000) :
  (( if(decide ((wr ((v.length:Int)-1)) ≥ 0)) then
     idx v (wr ((v.length:Int)-1))>>=fun x11 =>
     some (x11.Kind==8)
    else
     some false:Option (Bool))>>=fun o10 =>
   if o10 then
    idx v (wr ((v.length:Int)-1))>>=fun x12 =>
    need (x12.Text.length+s.length≤9223372036854775807)>>=fun _ =>
    idx v (wr ((v.length:Int)-1))>>=fun x13 =>
    K (v.set ((wr ((v.length:Int)-1)).toNat) (Qab.mk x13.Kind x13.Name (x12.Text++s) x13.N x13.L x13.Then x13.Else))
   else
    appL 120 v ([(Qab.mk 8 [] s 0 [] [] [])])>>=fun x14 =>
    K x14)=K (addLit v s):=by
 have ea:appL 120 v ([(Qab.mk 8 [] s 0 [] [] [])])=some (v++[(Qab.mk 8 [] s 0 [] [] [])]):=Qld (by simp; omega) (by simp; omega)
 unfold addLit
 cases hx:v.getLast? with
 | none =>
  have:v=[]:=by simpa using hx
  subst this
  have e:decide ((wr ((([]:List Qab).length:Int)-1)) ≥ 0)=false:=by decide
  simp only[e,Bool.false_eq_true,if_false,Qad,ea]
 | some x =>
  have hne:v≠[]:=fun e=>by subst e; simp at hx
  have h0:0<v.length:=List.length_pos_iff.2 hne
  have ew:wr ((v.length:Int)-1)=((v.length-1:Nat):Int):=by rw[wr_in (by omega) (by omega)]; omega
  have ei:idx v (wr ((v.length:Int)-1))=some x:=by
   rw[ew,Qcw,← List.getLast?_eq_getElem?,hx]
  have e:decide ((wr ((v.length:Int)-1)) ≥ 0)=true:=by rw[ew]; simp
  simp only[e,if_true,ei,Qad]
  by_cases h8:x.Kind=8
  ·have hl:lastT v=x.Text.length:=by simp[lastT,hx,h8]
   have e8:(x.Kind==8)=true:=by simpa using h8
   simp only[e8,if_true,if_pos h8,Qad,Qiz (show x.Text.length+s.length≤9223372036854775807 by omega),ew,Int.toNat_natCast]
  ·have e8:(x.Kind==8)=false:=by simpa using h8
   simp only[e8,Bool.false_eq_true,if_false,if_neg h8,ea,Qad]
theorem Qy3 {B:Bool→Bool→List Qaa→Rs (List Qab)} {l:List Qaa} {x:Qab} {l' : List Qaa} (h:actR B l = .ok x l'):x.Kind≠8:=by
 have hb:∀ {α β : Type} {r:Rs α} {f : α → List Qaa→Rs β} {y : β} {l' : List Qaa},r.bind f = .ok y l' → ∃ a l1,r = .ok a l1∧f a l1 = .ok y l' := fun {α β r f y l'} h=>by
  cases r with
  | ok a l1=>exact⟨a,l1,rfl,h⟩
  | bad l1=>cases h
 unfold actR at h
 split at h
 ·obtain⟨a,l1,-,h⟩:=hb h
  obtain⟨b,l2,-,h⟩:=hb h
  split at h
  ·obtain⟨c,l3,-,h⟩:=hb h
   obtain⟨d,l4,-,h⟩:=hb h
   obtain⟨e,l5,-,h⟩:=hb h
   cases h; simp
  ·obtain⟨e,l5,-,h⟩:=hb h
   cases h; simp
 split at h
 ·obtain⟨a,l1,-,h⟩:=hb h
  obtain⟨b,l2,-,h⟩:=hb h
  obtain⟨c,l3,-,h⟩:=hb h
  obtain⟨d,l4,-,h⟩:=hb h
  obtain⟨e,l5,-,h⟩:=hb h
  cases h; simp
 split at h
 ·obtain⟨a,l1,-,h⟩:=hb h
  obtain⟨b,l2,-,h⟩:=hb h
  obtain⟨c,l3,-,h⟩:=hb h
  obtain⟨d,l4,-,h⟩:=hb h
  obtain⟨e,l5,-,h⟩:=hb h
  cases h; simp
 split at h
 ·obtain⟨a,l1,-,h⟩:=hb h
  obtain⟨b,l2,-,h⟩:=hb h
  cases h; simp
 ·obtain⟨a,l1,-,h⟩:=hb h
  cases h; simp
def Suf0 {α : Type} (l:List Qaa):Rs α → Prop
 | .ok _ l' => l' <:+ l
 | .bad l' => l' <:+ l
theorem Suf.suf0 {α : Type} {l:List Qaa} {r:Rs α} (h:Suf l r):Suf0 l r:=by
 cases r with
 | ok x l' => exact h.1
 | bad l' => exact h
theorem Suf0.mono {α : Type} {l l' : List Qaa} {r:Rs α} (h:Suf0 l' r) (hs:l' <:+ l):Suf0 l r:=by
 cases r with
 | ok x l2=>exact List.IsSuffix.trans h hs
 | bad l2=>exact List.IsSuffix.trans h hs
theorem Suf.bind0 {α β : Type} {l:List Qaa} {r:Rs α} {f : α → List Qaa→Rs β} (h:Suf l r) (hf:∀ x l', Suf0 l' (f x l')):Suf l (r.bind f):=by
 cases r with
 | ok x l' =>
  have:=hf x l'
  show Suf l (f x l')
  cases hx:f x l' with
  | ok y l2=>rw[hx] at this; exact⟨List.IsSuffix.trans this h.1,by have:=List.IsSuffix.length_le this; have:=h.2; omega⟩
  | bad l2=>rw[hx] at this; exact List.IsSuffix.trans this h.1
 | bad l' => exact h
theorem Suf0.bind {α β : Type} {l:List Qaa} {r:Rs α} {f : α → List Qaa→Rs β} (h:Suf0 l r) (hf:∀ x l', Suf0 l' (f x l')):Suf0 l (r.bind f):=by
 cases r with
 | ok x l' => exact(hf x l').mono h
 | bad l' => exact h
theorem Suf0.ret {α : Type} (x : α) (l:List Qaa):Suf0 l (.ok x l):=List.suffix_refl l
theorem Qv6 {B:Bool→Bool→List Qaa→Rs (List Qab)} (hB:∀ i o l,Suf0 l (B i o l)) (l:List Qaa):Suf l (actR B l):=by
 have e0:=fun w l=>(Qmc w l).suf0
 unfold actR
 split
 ·refine Qd7 (Suf.bind0 (Qbm _) fun x l1=>Suf0.bind (hB _ _ _) fun y l2=>?_)
  split
  ·exact Suf0.bind (e0 _ _) fun _ l3=>Suf0.bind (hB _ _ _) fun _ l4=>Suf0.bind (e0 _ _) fun _ _ =>.ret _ _
  ·exact Suf0.bind (e0 _ _) fun _ _ =>.ret _ _
 split
 ·exact Qd7 (Suf.bind0 (Qc6 _) fun _ _=>Suf0.bind (Qmb _ _).suf0 fun _ _=>Suf0.bind (Qbm _).suf0 fun _ _=>Suf0.bind (hB _ _ _) fun _ _=>Suf0.bind (e0 _ _) fun _ _ =>.ret _ _)
 split
 ·exact Qd7 (Suf.bind0 (Qc6 _) fun _ _=>Suf0.bind (Qeu (by decide) _).suf0 fun _ _=>Suf0.bind (Qbm _).suf0 fun _ _=>Suf0.bind (hB _ _ _) fun _ _=>Suf0.bind (e0 _ _) fun _ _ =>.ret _ _)
 split
 ·exact Qd7 (Suf.bind0 (Qc6 _) fun _ _=>Suf0.bind (Qbm _).suf0 fun _ _ =>.ret _ _)
 ·exact Suf.bind0 (Qbm _) fun _ _ =>.ret _ _
theorem Qc7:∀ (f:Nat) (i o:Bool) (out:List Qab) (l:List Qaa),Suf0 l (loopR f i o out l)
 | 0,_,_,_,l=>List.suffix_refl l
 | f+1,i,o,out,l=>by
  unfold loopR
  split
  ·exact .ret _ _
  split
  ·exact(Qc7 f _ _ _ _).mono (List.tail_suffix l)
  split
  ·exact .ret _ _
  split
  ·split
   ·exact(Qc7 f _ _ _ _).mono ((List.tail_suffix _).trans (List.tail_suffix l))
   ·exact Suf0.bind ((Qv6 (fun i o l=>Qc7 f i o [] l) _).suf0.mono (List.tail_suffix l)) fun _ _=>Qc7 f _ _ _ _
  ·exact List.suffix_refl l
def Stops (i o:Bool):Rs (List Qab)→Prop
 | .ok _ l=>l=[]∨(i&&ahead wEnd l)=true∨(o&&ahead wElse l)=true
 | .bad _=>True
theorem Qhh:∀ (f:Nat) (i o:Bool) (out:List Qab) (l:List Qaa),Stops i o (loopR f i o out l)
 | 0,_,_,_,l=>trivial
 | f+1,i,o,out,l=>by
  unfold loopR
  split
  ·rename_i h; exact .inl h
  split
  ·exact Qhh f _ _ _ _
  split
  ·rename_i h
   simp only[Bool.or_eq_true] at h
   exact .inr h
  split
  ·split
   ·exact Qhh f _ _ _ _
   ·cases actR (fun i o l=>loopR f i o [] l) l.tail with
    | ok x l2=>exact Qhh f _ _ _ _
    | bad l2=>trivial
  ·trivial
theorem Qkd {w:List UInt8} {l:List Qaa} (h:ahead w l=true):kd l=2∧isW w l.tail=true:=by
 simp only[ahead,Bool.and_eq_true,beq_iff_eq] at h
 exact h
theorem Qy4 {w v:List UInt8} {l:List Qaa} (h:isW w l=true) (hv:isW v l=true):w=v:=by
 simp only[isW,Bool.and_eq_true,beq_iff_eq] at h hv
 exact h.2.symm.trans hv.2
theorem Qqo {w:List UInt8} {l:List Qaa} (h:ahead w l=true):endW w l=(want 3 l.tail.tail).bind fun _ l3 =>.ok () l3:=by
 obtain⟨h1,h2⟩:=Qkd h
 simp only[endW,want,if_pos h1,Rs.bind,wantW,if_pos h2]
theorem Qv7 (w:List UInt8):endW w [] = .bad []:=by simp[endW,want,Rs.bind]
def cBlk (i:Bool) (L:List Qaa):Rs (List Qab)→((List Qab)×Int×Int)⊕Int
 | .bad l' =>.inr (pos L l')
 | .ok out l' => if l' = [] then(if i=true then .inr (pos L []) else .inl (out,2,pos L [])) else match want 3 l'.tail.tail with
  | .ok _ l2 =>.inl (out,(if(i&&ahead wEnd l')=true then 0 else 1),pos L l2)
  | .bad l2 =>.inr (pos L l2)
theorem Qtk {L:List Qaa} {o:Bool} {y:List Qab} {l2:List Qaa} (h:Stops true o (.ok y l2)):cBlk true L (.ok y l2) =
  if ahead wElse l2=true then(match endW wElse l2 with | .ok _ l3 =>.inl (y,1,pos L l3) | .bad l3 =>.inr (pos L l3)) else(match endW wEnd l2 with | .ok _ l3 =>.inl (y,0,pos L l3) | .bad l3 =>.inr (pos L l3)):=by
 simp only[cBlk]
 by_cases hn:l2=[]
 ·subst hn
  have:ahead wElse []=false:=rfl
  simp[this,Qv7]
 ·rw[if_neg hn]
  by_cases he:ahead wElse l2=true
  ·have hnd:ahead wEnd l2=false:=by
    cases hh:ahead wEnd l2 with
    | false=>rfl
    | true=>exact absurd (Qy4 (Qkd he).2 (Qkd hh).2) (by decide)
   rw[if_pos he,Qqo he]
   simp only[hnd,Bool.and_false,Bool.false_eq_true,if_false]
   cases want 3 l2.tail.tail<;>rfl
  ·have hd:ahead wEnd l2=true:=by
    rcases h with h | h | h
    ·exact absurd h hn
    ·simpa using h
    ·simp only[Bool.and_eq_true] at h; exact absurd h.2 he
   rw[if_neg he,Qqo hd]
   simp only[hd,Bool.and_true,if_true]
   cases want 3 l2.tail.tail<;>rfl
theorem Qv8 {L:List Qaa} {y:List Qab} {l2:List Qaa} (h:Stops true false (.ok y l2)):cBlk true L (.ok y l2)=match endW wEnd l2 with | .ok _ l3 =>.inl (y,0,pos L l3) | .bad l3 =>.inr (pos L l3):=by
 rw[Qtk h]
 have:¬ ahead wElse l2=true:=fun he=>by
  rcases h with h | h | h
  ·subst h; simp[ahead] at he
  ·simp only[Bool.and_eq_true] at h
   exact absurd (Qy4 (Qkd he).2 (Qkd h.2).2) (by decide)
  ·simp at h
 rw[if_neg this]
def cB (i:Bool) (L:List Qaa):Rs (List Qab)→((List Qab)×Int)⊕((List Qab)×Int×Int)⊕Int
 | .bad l' =>.inr (.inr (pos L l'))
 | .ok out l' => if l' = [] then .inl (out,pos L []) else match want 3 l'.tail.tail with
  | .ok _ l2 =>.inr (.inl (out,(if(i&&ahead wEnd l')=true then 0 else 1),pos L l2))
  | .bad l2 =>.inr (.inr (pos L l2))
section
variable {L:List Qaa} (hL:Toks L)
include hL
def PB (L:List Qaa) (n:Nat) (B:Bool→Bool→List Qaa→Rs (List Qab)):Prop:=∀ i o l,l <:+ L→l.length<n→Qas i o L (pos L l)=some (cBlk i L (B i o l))
theorem pStmt {n:Nat} {B:Bool→Bool→List Qaa→Rs (List Qab)} (hB:PB L n B) (hS:∀ i o l,Suf0 l (B i o l)) (hT:∀ i o l,Stops i o (B i o l)) {l:List Qaa} (h:l <:+ L) (hn:l.length≤n):Qej L (pos L l)=some (cP L (actR B l)):=by
 rw[Qej,pWord hL h,Qad]
 unfold actR
 have hblk:∀ (k:Int) (s:List UInt8) (x:Qab) (l3:List Qaa),l3 <:+ L→l3.length<n→(Qas true false L (pos L l3)>>=fun o23 =>
      match o23 with
      | .inl x22 =>
       some (.inl ((Qab.mk k s [] 0 [x] x22.1 []),x22.2.2))
      | .inr z24 =>
       some (.inr z24):Option ((Qab×Int)⊕Int))=some (cP L ((B true false l3).bind fun y l4=>(endW wEnd l4).bind fun _ l5 =>.ok ⟨k,s,[],0,[x],y,[]⟩ l5)):=fun k s x l3 t3 n3=>by
  rw[hB true false l3 t3 n3,Qad]
  have st:=hT true false l3
  cases hb:B true false l3 with
  | bad l4=>simp[cBlk,Rs.bind,cP]
  | ok y l4 =>
   rw[hb] at st
   rw[Qv8 st]
   simp only[Rs.bind]
   cases endW wEnd l4 with
   | ok u l5=>simp[cP]
   | bad l5=>simp[cP]
 by_cases w1:isW wIf l=true
 ·have t1:=Qcj h
  have n1:=Qca (Qd6 w1)
  simp only[if_pos w1,if_true,pClosed hL t1,Qad]
  have s1:=Qbm l.tail
  cases hc:closedR l.tail with
  | bad l1=>simp[Rs.bind,cP]
  | ok x l1 =>
   rw[hc] at s1
   have t2:l1 <:+ L:=s1.1.trans t1
   have n2:l1.length<n:=by have:=s1.2; omega
   simp only[Rs.bind,hB true true l1 t2 n2,Qad]
   have st:=hT true true l1
   have s2:=hS true true l1
   cases hb:B true true l1 with
   | bad l2=>simp[cBlk,cP]
   | ok y l2 =>
    rw[hb] at st s2
    rw[Qtk st]
    simp only
    have t3:l2 <:+ L:=List.IsSuffix.trans s2 t2
    by_cases he:ahead wElse l2=true
    ·rw[if_pos he,if_pos he]
     have s3:=Qmc wElse l2
     cases hz:endW wElse l2 with
     | bad l3=>simp[cP]
     | ok u l3 =>
      rw[hz] at s3
      have t4:l3 <:+ L:=s3.1.trans t3
      have n4:l3.length<n:=by have:=s3.2; have:=List.IsSuffix.length_le s2; omega
      simp only[beq_self_eq_true,if_true,hB true false l3 t4 n4,Qad]
      have st2:=hT true false l3
      cases hb2:B true false l3 with
      | bad l4=>simp[cBlk,cP]
      | ok z l4 =>
       rw[hb2] at st2
       rw[Qv8 st2]
       simp only
       cases endW wEnd l4 with
       | ok u l5=>simp[cP]
       | bad l5=>simp[cP]
    ·rw[if_neg he,if_neg he]
     cases hz:endW wEnd l2 with
     | bad l3=>simp[cP]
     | ok u l3 =>
      have e01:((0:Int)==1)=false:=rfl
      simp only[e01,Bool.false_eq_true,if_false,cP]
 simp only[if_neg w1,Bool.false_eq_true,if_false,pWord hL h,Qad]
 by_cases w2:isW wEach l=true
 ·have t1:=Qcj h
  have n1:=Qca (Qd6 w2)
  simp only[if_pos w2,if_true,pName hL t1,Qad]
  have s1:=Qc6 l.tail
  cases hc:nameR l.tail with
  | bad l1 =>
   have:l1=l.tail:=by unfold nameR at hc; split at hc<;>cases hc; rfl
   subst this
   simp[Rs.bind,cP]
  | ok s l1 =>
   rw[hc] at s1
   have t2:l1 <:+ L:=s1.1.trans t1
   simp only[Rs.bind,pWord hL t2,Qad,Qaq,mustO,wantW]
   by_cases wi:isW wIn l1=true
   ·have t3:=Qcj t2
    have n3:=Qca (Qd6 wi)
    simp only[if_pos wi,if_true,pClosed hL t3,Qad]
    have s3:=Qbm l1.tail
    cases hc2:closedR l1.tail with
    | bad l3=>simp[cP]
    | ok x l3 =>
     rw[hc2] at s3
     simp only
     exact hblk 11 s x l3 (s3.1.trans t3) (by have:=s3.2; have:=s1.2; omega)
   ·simp[if_neg wi,cP]
 simp only[if_neg w2,Bool.false_eq_true,if_false,pWord hL h,Qad]
 by_cases w3:isW wLet l=true
 ·have t1:=Qcj h
  have n1:=Qca (Qd6 w3)
  simp only[if_pos w3,if_true,pName hL t1,Qad]
  have s1:=Qc6 l.tail
  cases hc:nameR l.tail with
  | bad l1 =>
   have:l1=l.tail:=by unfold nameR at hc; split at hc<;>cases hc; rfl
   subst this
   simp[Rs.bind,cP]
  | ok s l1 =>
   rw[hc] at s1
   have t2:l1 <:+ L:=s1.1.trans t1
   simp only[Rs.bind,pWant hL t2 11 (by decide),Qad]
   by_cases wi:kd l1=11
   ·have t3:=Qcj t2
    have n3:=Qca (kd_ne (by decide) wi)
    simp only[if_pos wi,Qkc hL wi,pClosed hL t3,Qad]
    have s3:=Qbm l1.tail
    cases hc2:closedR l1.tail with
    | bad l3=>simp[cP]
    | ok x l3 =>
     rw[hc2] at s3
     simp only
     exact hblk 12 s x l3 (s3.1.trans t3) (by have:=s3.2; have:=s1.2; omega)
   ·simp[if_neg wi,Qh7 hL wi,cP]
 simp only[if_neg w3,Bool.false_eq_true,if_false,pWord hL h,Qad]
 by_cases w4:isW wUse l=true
 ·have t1:=Qcj h
  simp only[if_pos w4,if_true,pName hL t1,Qad]
  have s1:=Qc6 l.tail
  cases hc:nameR l.tail with
  | bad l1 =>
   have:l1=l.tail:=by unfold nameR at hc; split at hc<;>cases hc; rfl
   subst this
   simp[Rs.bind,cP]
  | ok s l1 =>
   rw[hc] at s1
   have t2:l1 <:+ L:=s1.1.trans t1
   simp only[Rs.bind,pClosed hL t2,Qad]
   cases closedR l1 with
   | bad l3=>simp[cP]
   | ok x l3=>simp[cP]
 simp only[if_neg w4,Bool.false_eq_true,if_false,pClosed hL h,Qad]
 cases closedR l with
 | bad l3=>simp[cP,Rs.bind]
 | ok x l3=>simp[cP,Rs.bind]
theorem p1Step {f:Nat} (hB:PB L f (fun i o l=>loopR f i o [] l)) (ih:∀ (i o:Bool) (out:List Qab) (l:List Qaa),l <:+ L→l.length<f→BD out l→Qam i o L out (pos L l)=some (cB i L (loopR f i o out l)))
  (i o:Bool) (out:List Qab) (l:List Qaa) (h:l <:+ L) (hn:l.length<f+1) (hd0:BD out l):Qam i o L out (pos L l)=some (cB i L (loopR (f+1) i o out l)):=by
 rw[Qam,loopR]
 by_cases hne:l=[]
 ·subst hne
  have e:decide (pos L []<(L.length:Int))=false:=by rw[Qu1]; simp
  simp[e,cB]
 have e:decide (pos L l<(L.length:Int))=true:=(Qy1 h hne).2.2
 have t1:=Qcj h
 have n1:=Qca hne
 simp only[e,if_true,pNext hL h,Qad,if_neg hne,pSign hL h 1 (by decide)]
 by_cases k1:kd l=1
 ·simp only[if_pos k1,if_true]
  refine(litO out (hd l).Text (fun v=>Qam i o L v (pos L l.tail)) (by have:=hd0.len; omega) (by have:=hd0.txt; have:=Qtj l; omega)).trans ?_
  exact ih i o _ l.tail t1 (by omega) (hd0.lit hne)
 simp only[if_neg k1,Bool.false_eq_true,if_false,pWant hL h 2 (by decide),Qad]
 by_cases k2:kd l=2
 ·have ha:∀ w,ahead w l=isW w l.tail:=fun w=>by simp[ahead,k2]
  simp only[if_pos k2,pSign hL t1 3 (by decide),Qad,ha]
  by_cases k3:kd l.tail=3
  ·have hw:∀ w,isW w l.tail=false:=fun w=>by simp[isW,k3]
   have n2:=Qca (kd_ne (by decide) k3)
   simp only[if_pos k3,if_true,hw,Bool.and_false,Bool.or_self,Bool.false_eq_true,if_false]
   exact ih i o out l.tail.tail (Qcj t1) (by omega) (hd0.suf ((List.tail_suffix _).trans (List.tail_suffix l)))
  ·simp only[if_neg k3,Bool.false_eq_true,if_false]
   have t2:=Qcj t1
   by_cases c1:(i&&isW wEnd l.tail)=true
   ·simp only[Bool.and_eq_true] at c1
    obtain⟨ci,cw⟩:=c1
    subst ci
    have cw' : isW [101,110,100] l.tail=true:=cw
    simp only[if_true,pWord hL t1,cw', Qad,pWant hL t2 3 (by decide),Bool.true_and,cw,Bool.true_or]
    simp only[cB,if_neg hne,ha,Bool.true_and,cw,if_true]
    by_cases k4:kd l.tail.tail=3
    ·simp only[if_pos k4,Qkc hL k4]
    ·simp only[if_neg k4,Qh7 hL k4]
   have e19:(( if i then
       Qak [101,110,100] L (pos L l.tail)>>=fun x20 =>
       some (x20.1,x20.2)
      else
       some (false,(pos L l.tail)):Option ((Bool×Int))))=some (false,pos L l.tail):=by
    cases i with
    | false=>rfl
    | true =>
     have cw:¬ isW [101,110,100] l.tail=true:=by simpa using c1
     simp only[if_true,pWord hL t1,Qad,if_neg cw]
   simp only[e19,Qad,Bool.false_eq_true,if_false]
   have c1' : (i&&isW wEnd l.tail)=false:=by simpa using c1
   rw[c1', Bool.false_or]
   by_cases c2:(o&&isW wElse l.tail)=true
   ·simp only[Bool.and_eq_true] at c2
    obtain⟨co,cw⟩:=c2
    subst co
    have cw' : isW [101,108,115,101] l.tail=true:=cw
    simp only[if_true,pWord hL t1,cw', Qad,pWant hL t2 3 (by decide),Bool.true_and,cw]
    simp only[cB,if_neg hne,ha,c1', Bool.false_eq_true,if_false]
    by_cases k4:kd l.tail.tail=3
    ·simp only[if_pos k4,Qkc hL k4]
    ·simp only[if_neg k4,Qh7 hL k4]
   have e24:(( if o then
       Qak [101,108,115,101] L (pos L l.tail)>>=fun x25 =>
       some (x25.1,x25.2)
      else
       some (false,(pos L l.tail)):Option ((Bool×Int))))=some (false,pos L l.tail):=by
    cases o with
    | false=>rfl
    | true =>
     have cw:¬ isW [101,108,115,101] l.tail=true:=by simpa using c2
     simp only[if_true,pWord hL t1,Qad,if_neg cw]
   simp only[e24,Qad,Bool.false_eq_true,if_false,if_neg c2]
   rw[pStmt hL hB (fun i o l=>Qc7 f i o [] l) (fun i o l=>Qhh f i o [] l) t1 (by omega),Qad]
   have s1:=Qv6 (fun i o l=>Qc7 f i o [] l) l.tail
   cases hx:actR (fun i o l=>loopR f i o [] l) l.tail with
   | bad l2=>simp only[cP,Rs.bind,cB]
   | ok x l2 =>
    rw[hx] at s1
    have s2:l2 <:+ l:=s1.1.trans (List.tail_suffix l)
    simp only[cP,Rs.bind,Qld (show(out.length+[x].length)*120≤140737488355328 by have:=hd0.len; simp; omega) (by have:=hd0.len; simp; omega),Qad]
    exact ih i o (out++[x]) l2 (s2.trans h) (by have:=s1.2; omega) (hd0.app (Qy3 hx) s2 (by have:=s1.2; omega))
 ·have ha:∀ w,ahead w l=false:=fun w=>by simp[ahead,k2]
  simp only[if_neg k2,ha,Bool.and_false,Bool.or_self,Bool.false_eq_true,if_false,cB]
theorem pBlock1 {f:Nat} (hl:∀ (i o:Bool) (out:List Qab) (l:List Qaa),l <:+ L→l.length<f→BD out l→Qam i o L out (pos L l)=some (cB i L (loopR f i o out l))):PB L f (fun i o l=>loopR f i o [] l):=fun i o l h hn=>by
 show Qas i o L (pos L l)=some (cBlk i L (loopR f i o [] l))
 rw[Qas,Qdh,hl i o [] l h hn (.nil hL h),Qad]
 cases hx:loopR f i o [] l with
 | bad l' => simp only[cB,Qad,cBlk]
 | ok out l' =>
  simp only[cB,cBlk]
  by_cases hne:l' = []
  ·subst hne
   simp only[if_true]
   cases i with
   | false=>simp[Qaq,mustO]
   | true=>simp[Qaq,mustO]
  ·simp only[if_neg hne]
   cases want 3 l'.tail.tail with
   | ok u l2=>simp only[Qad]
   | bad l2=>simp only[Qad]
theorem pLoop:∀ (f:Nat) (i o:Bool) (out:List Qab) (l:List Qaa),l <:+ L→l.length<f→BD out l→Qam i o L out (pos L l)=some (cB i L (loopR f i o out l))
 | 0=>fun i o out l h hn _=>absurd hn (by omega)
 | f+1=>fun i o out l h hn hd=>p1Step hL (pBlock1 hL (pLoop f)) (pLoop f) i o out l h hn hd
theorem pBlk (i o:Bool) {l:List Qaa} (h:l <:+ L):Qas i o L (pos L l)=some (cBlk i L (bl20 i o l)) :=
 pBlock1 hL (pLoop hL (l.length+1)) i o l h (by omega)
end
end Go.Proofs.YtagokkpnfceidaaDoor
end

section
namespace Go.Proofs.YtagokkpnfceidaaDoor
open Go.RowKit
def contB (c:UInt8):Bool:=decide (128≤c.toNat)&&decide (c.toNat<192)
def runeB (n:Nat):Bool:=decide (n≤1114111) && !(decide (55296≤n)&&decide (n≤57343))
def nextC (c:UInt8) (r:List UInt8):Nat×Nat :=
  if c.toNat<128 then(c.toNat,1)
  else if 192≤c.toNat∧c.toNat<224 then
   match r with
   | c1::_=>if contB c1=true∧128≤(c.toNat-192)*64+(c1.toNat-128) then((c.toNat-192)*64+(c1.toNat-128),2) else(65533,1)
   | _=>(65533,1)
  else if 224≤c.toNat∧c.toNat<240 then
   match r with
   | c1::c2::_=>if contB c1=true∧contB c2=true∧2048≤((c.toNat-224)*64+(c1.toNat-128))*64+(c2.toNat-128)∧runeB (((c.toNat-224)*64+(c1.toNat-128))*64+(c2.toNat-128))=true then(((c.toNat-224)*64+(c1.toNat-128))*64+(c2.toNat-128),3) else(65533,1)
   | _=>(65533,1)
  else if 240≤c.toNat∧c.toNat<248 then
   match r with
   | c1::c2::c3::_=>if contB c1=true∧contB c2=true∧contB c3=true∧65536≤(((c.toNat-240)*64+(c1.toNat-128))*64+(c2.toNat-128))*64+(c3.toNat-128)∧runeB ((((c.toNat-240)*64+(c1.toNat-128))*64+(c2.toNat-128))*64+(c3.toNat-128))=true then((((c.toNat-240)*64+(c1.toNat-128))*64+(c2.toNat-128))*64+(c3.toNat-128),4) else(65533,1)
   | _=>(65533,1)
  else(65533,1)
def nextP:List UInt8→Nat×Nat
 | []=>(0,0)
 | c::r=>nextC c r
theorem Qpd {n:Int} (h1 : -2147483648≤n) (h2:n≤2147483647):IntKind.i32.wrap n=n:=by
 simp[IntKind.wrap,IntKind.bits,IntKind.signed]
 omega
theorem and63:∀ c:Fin 256,bits .and .u8 ((c.1:Nat):Int) 63=((c.1 % 64:Nat):Int):=by decide +kernel
theorem and192:∀ c:Fin 256,(bits .and .u8 ((c.1:Nat):Int) 192 != 128) = !(decide (128≤c.1)&&decide (c.1<192)):=by decide +kernel
theorem and31:∀ c:Fin 256,bits .and .u8 ((c.1:Nat):Int) 31=((c.1 % 32:Nat):Int):=by decide +kernel
theorem and15:∀ c:Fin 256,bits .and .u8 ((c.1:Nat):Int) 15=((c.1 % 16:Nat):Int):=by decide +kernel
theorem and7:∀ c:Fin 256,bits .and .u8 ((c.1:Nat):Int) 7=((c.1 % 8:Nat):Int):=by decide +kernel
theorem or64 (a b:Nat) (ha:a<1000000) (hb:b<64):bits .or .i32 (IntKind.i32.wrap ((a:Int)*2 ^ (min (6:Int).toNat (IntKind.i32.bits)))) (IntKind.i32.wrap (b:Int))=((a*64+b:Nat):Int):=by
 have e1:IntKind.i32.wrap ((a:Int)*2 ^ (min (6:Int).toNat (IntKind.i32.bits)))=((a*64:Nat):Int):=by
  have:(min (6:Int).toNat (IntKind.i32.bits))=6:=rfl
  rw[this,Qpd (by omega) (by omega)]; omega
 rw[e1,Qpd (by omega) (by omega)]
 have e2:(2:Nat) ^ 6*a+b=2 ^ 6*a ||| b:=Nat.two_pow_add_eq_or_of_lt (by omega) a
 have e3:a*64 ||| b=a*64+b:=by
  have:(2:Nat) ^ 6*a=a*64:=by omega
  rw[this] at e2; omega
 show IntKind.i32.wrap ((BitVec.ofInt 32 ((a*64:Nat):Int) ||| BitVec.ofInt 32 (b:Int)).toNat:Int)=_
 rw[BitVec.toNat_or,BitVec.ofInt_natCast,BitVec.ofInt_natCast,BitVec.toNat_ofNat,BitVec.toNat_ofNat,Nat.mod_eq_of_lt (by omega),Nat.mod_eq_of_lt (by omega),e3,Qpd (by omega) (by omega)]
theorem b63 (c:UInt8):bits .and .u8 (c.toNat:Int) 63=((c.toNat % 64:Nat):Int):=and63 ⟨c.toNat,c.toNat_lt⟩
theorem b192 (c:UInt8):(bits .and .u8 (c.toNat:Int) 192 != 128) = !contB c:=and192 ⟨c.toNat,c.toNat_lt⟩
theorem b31 (c:UInt8):bits .and .u8 (c.toNat:Int) 31=((c.toNat % 32:Nat):Int):=and31 ⟨c.toNat,c.toNat_lt⟩
theorem b15 (c:UInt8):bits .and .u8 (c.toNat:Int) 15=((c.toNat % 16:Nat):Int):=and15 ⟨c.toNat,c.toNat_lt⟩
theorem b7 (c:UInt8):bits .and .u8 (c.toNat:Int) 7=((c.toNat % 8:Nat):Int):=and7 ⟨c.toNat,c.toNat_lt⟩
theorem Q0r {c:UInt8} (h:contB c=true):c.toNat % 64=c.toNat-128:=by
 unfold contB at h
 simp at h
 omega
def tailP:Nat→List UInt8→Nat→Option Nat
 | 0,_,v=>some v
 | _+1,[],_=>none
 | m+1,c::r,v=>if contB c=true then tailP m r (v*64+(c.toNat-128)) else none
set_option maxRecDepth 20000 in
theorem tTailL (l:List UInt8) (m:Nat) (hm:m≤l.length) (hm3:m≤3):∀ (d k v:Nat),k+d=m→((k=0→v<64)∧(k≤1→v<4096)∧(k≤2→v<262144)) →
  Qeb l m v k=some (match tailP d (l.drop k) v with | some n =>.inl (n:Int) | none =>.inr ()):=by
 intro d
 induction d with
 | zero =>
  intro k v hk _
  rw[Qeb,ltI,decide_eq_false (by omega:¬ k<m)]
  rfl
 | succ d ih =>
  intro k v hk hv
  have hkl:k<l.length:=by omega
  have:decide ((k:Int)<(m:Int))=true:=decide_eq_true (by omega)
  rw[Qeb]
  simp only[this,if_true,Qcw,getE hkl,Qad,b192,b63]
  rw[or64 v _ (by omega) (Nat.mod_lt _ (by omega)),Qd8 (by omega),dropE hkl]
  unfold tailP
  cases hc:contB l[k] with
  | false=>rfl
  | true =>
   rw[Q0r hc]
   have hlt:l[k].toNat-128<64:=by unfold contB at hc; simp at hc; omega
   have hv2:(k+1=0→v*64+(l[k].toNat-128)<64)∧(k+1≤1→v*64+(l[k].toNat-128)<4096)∧(k+1≤2→v*64+(l[k].toNat-128)<262144):=by omega
   simp only[Bool.not_true,Bool.false_eq_true,if_false,if_true]
   exact ih (k+1) _ (by omega) hv2
theorem tTail (l:List UInt8) (m v:Nat) (hm3:m≤3) (hv:v<64):Qkt l v m=some (match (if l.length<m then none else tailP m l v) with | some n=>((n:Int),true) | none=>(0,false)):=by
 rw[Qkt,ltI]
 by_cases h:l.length<m
 ·rw[decide_eq_true h,if_pos h]; rfl
 ·rw[decide_eq_false h,if_neg h]
  have:=tTailL l m (by omega) hm3 m 0 v (by omega) (by omega)
  rw[List.drop_zero] at this
  rw[show(0:Int)=((0:Nat):Int) from rfl,this]
  cases tailP m l v<;>rfl
theorem tIsR (n:Nat):Qqi (n:Int)=some (runeB n):=by
 have a:decide ((n:Int) ≥ 0)=true:=decide_eq_true (by omega)
 have b:decide ((n:Int)≤1114111)=decide (n≤1114111):=by
  by_cases h:n≤1114111
  ·rw[decide_eq_true h,decide_eq_true (by omega)]
  ·rw[decide_eq_false h,decide_eq_false (by omega)]
 rw[Qqi,a,b,runeB]
 by_cases h1:n<55296
 ·rw[decide_eq_true (show(n:Int)<55296 by omega),decide_eq_true (show n≤1114111 by omega),decide_eq_false (show ¬ 55296≤n by omega)]; rfl
 ·rw[decide_eq_false (show ¬ (n:Int)<55296 by omega),decide_eq_true (show 55296≤n by omega)]
  by_cases h2:n≤57343
  ·rw[decide_eq_false (show ¬ (n:Int)>57343 by omega),decide_eq_true h2,decide_eq_true (show n≤1114111 by omega)]; rfl
  ·rw[decide_eq_true (show(n:Int)>57343 by omega),decide_eq_false h2]
   cases decide (n≤1114111)<;>rfl
theorem ltC (c:UInt8) (k:Nat):decide ((c.toNat:Int)<(k:Int))=decide (c.toNat<k):=ltI _ _
theorem geC (c:UInt8) (k:Nat):decide ((c.toNat:Int) ≥ (k:Int))=decide (k≤c.toNat):=by
 by_cases h:k≤c.toNat
 ·rw[decide_eq_true h,decide_eq_true (by omega)]
 ·rw[decide_eq_false h,decide_eq_false (by omega)]
def endP (o:Option Nat) (least m:Nat):Nat×Nat:=match o with
 | some n=>if least≤n∧runeB n=true then(n,m+1) else(65533,1)
 | none=>(65533,1)
set_option maxRecDepth 20000 in
theorem tNext (s:List UInt8) (k:Nat) (hk:k<s.length) (hs:s.length<9223372036854775807):Ql7 s k=some (((nextP (s.drop k)).1:Int),((nextP (s.drop k)).2:Int)):=by
 have d1:decide ((k:Int)<0)=false:=decide_eq_false (by omega)
 have d2:decide ((k:Int) ≥ (s.length:Int))=false:=decide_eq_false (by omega)
 have hc:=s[k].toNat_lt
 have hr:cutL s (wr ((k:Int)+1)) (s.length:Int)=some (s.drop (k+1)):=by
  rw[Qd8 (by omega),Qle (by omega) (by omega) (by omega)]
  simp
 rw[Ql7,d1,d2,hr,dropE hk]
 have l128:=ltC s[k] 128
 have g192:=geC s[k] 192
 have l224:=ltC s[k] 224
 have g224:=geC s[k] 224
 have l240:=ltC s[k] 240
 have g240:=geC s[k] 240
 have l248:=ltC s[k] 248
 have b1:∀ a b:Bool,(if a=true then some b else some false:Option Bool)=some (a&&b):=fun a b=>by cases a<;>rfl
 simp only[Bool.false_eq_true,if_false,Qad,Qcw,getE hk]
 rw[show(128:Int)=((128:Nat):Int) from rfl,show(192:Int)=((192:Nat):Int) from rfl,show(224:Int)=((224:Nat):Int) from rfl,show(240:Int)=((240:Nat):Int) from rfl,show(248:Int)=((248:Nat):Int) from rfl,l128,g192,l224,g224,l240,g240,l248]
 simp only[b1,Qad]
 rw[nextP]
 unfold nextC
 have fin:∀ (v least m:Nat),m≤3→v<64→(Qkt (s.drop (k+1)) (v:Int) (m:Int)>>=fun x10 =>
   (if(!x10.2)=true then some true else if decide (x10.1<(least:Int))=true then some true else Qqi x10.1>>=fun x12=>some (!x12):Option Bool)>>=fun o11 =>
   if o11=true then some ((65533:Int),(1:Int)) else some (x10.1,wr ((m:Int)+1))) =
   some (((endP (if(s.drop (k+1)).length<m then none else tailP m (s.drop (k+1)) v) least m).1:Int),((endP (if(s.drop (k+1)).length<m then none else tailP m (s.drop (k+1)) v) least m).2:Int)):=fun v least m hm hv=>by
  rw[tTail _ m v hm hv]
  cases (if(s.drop (k+1)).length<m then none else tailP m (s.drop (k+1)) v) with
  | none=>rfl
  | some n =>
   simp only[Qad,Bool.not_true,Bool.false_eq_true,if_false,ltI,tIsR,endP]
   by_cases h1:n<least
   ·rw[decide_eq_true h1,if_neg (fun h=>absurd h.1 (by omega):¬ (least≤n∧runeB n=true))]; rfl
   ·rw[decide_eq_false h1]
    cases hrn:runeB n with
    | true=>rw[if_pos (⟨by omega,rfl⟩:least≤n∧true=true),Qd8 (by omega)]; rfl
    | false=>rw[if_neg (fun h=>by cases h.2:¬ (least≤n∧false=true))]; rfl
 by_cases h1:s[k].toNat<128
 ·rw[decide_eq_true h1,if_pos h1]
  simp only[if_true,Qad]
  rw[Qpd (by omega) (by omega)]; rfl
 rw[decide_eq_false h1,if_neg h1]
 simp only[Bool.false_eq_true,if_false]
 have cc:∀ c:UInt8,contB c=true→c.toNat-128<64:=fun c h=>by unfold contB at h; simp at h; omega
 by_cases h2:192≤s[k].toNat∧s[k].toNat<224
 ·rw[decide_eq_true h2.1,decide_eq_true h2.2,if_pos h2,b31]
  simp only[Bool.and_true,if_true,Qad]
  rw[Qpd (by omega) (by omega)]
  have f:=fin (s[k].toNat % 32) 128 1 (by omega) (by omega)
  rw[show((1:Nat):Int)=1 from rfl] at f
  rw[f]
  have e:s[k].toNat % 32=s[k].toNat-192:=by omega
  rw[e]
  cases s.drop (k+1) with
  | nil=>rfl
  | cons c1 r1 =>
   simp only[List.length_cons,if_neg (by omega:¬ r1.length+1<1),tailP]
   cases h:contB c1 with
   | false=>rfl
   | true =>
    have:=cc c1 h
    have hr:runeB ((s[k].toNat-192)*64+(c1.toNat-128))=true:=by unfold runeB; rw[decide_eq_true (by omega),decide_eq_false (by omega)]; rfl
    simp only[if_true,endP,hr,and_true,true_and]
 rw[if_neg h2]
 have d2:(decide (192≤s[k].toNat)&&decide (s[k].toNat<224))=false:=by
  rw[Bool.and_eq_false_iff]
  by_cases h:192≤s[k].toNat
  ·exact .inr (decide_eq_false (by omega))
  ·exact .inl (decide_eq_false h)
 rw[d2]
 simp only[Bool.false_eq_true,if_false]
 by_cases h3:224≤s[k].toNat∧s[k].toNat<240
 ·rw[decide_eq_true h3.1,decide_eq_true h3.2,if_pos h3,b15]
  simp only[Bool.and_true,if_true,Qad]
  rw[Qpd (by omega) (by omega)]
  have f:=fin (s[k].toNat % 16) 2048 2 (by omega) (by omega)
  rw[show((2:Nat):Int)=2 from rfl,show((2048:Nat):Int)=2048 from rfl] at f
  rw[f]
  have e:s[k].toNat % 16=s[k].toNat-224:=by omega
  rw[e]
  match s.drop (k+1) with
  | []=>rfl
  | [c1]=>rfl
  | c1::c2::r1 =>
   simp only[List.length_cons,if_neg (by omega:¬ r1.length+1+1<2),tailP]
   cases h:contB c1 with
   | false=>rfl
   | true =>
    cases h' : contB c2 with
    | false=>simp[endP]
    | true=>simp only[if_true,endP,true_and]
 rw[if_neg h3]
 have d3:(decide (224≤s[k].toNat)&&decide (s[k].toNat<240))=false:=by
  rw[Bool.and_eq_false_iff]
  by_cases h:224≤s[k].toNat
  ·exact .inr (decide_eq_false (by omega))
  ·exact .inl (decide_eq_false h)
 rw[d3]
 simp only[Bool.false_eq_true,if_false]
 by_cases h4:240≤s[k].toNat∧s[k].toNat<248
 ·rw[decide_eq_true h4.1,decide_eq_true h4.2,if_pos h4,b7]
  simp only[Bool.and_true,if_true,Qad]
  rw[Qpd (by omega) (by omega)]
  have f:=fin (s[k].toNat % 8) 65536 3 (by omega) (by omega)
  rw[show((3:Nat):Int)=3 from rfl,show((65536:Nat):Int)=65536 from rfl] at f
  rw[f]
  have e:s[k].toNat % 8=s[k].toNat-240:=by omega
  rw[e]
  match s.drop (k+1) with
  | []=>rfl
  | [c1]=>rfl
  | [c1,c2]=>rfl
  | c1::c2::c3::r1 =>
   simp only[List.length_cons,if_neg (by omega:¬ r1.length+1+1+1<3),tailP]
   cases h:contB c1 with
   | false=>rfl
   | true =>
    cases h' : contB c2 with
    | false=>simp[endP]
    | true =>
     cases h'' : contB c3 with
     | false=>simp[endP]
     | true=>simp only[if_true,endP,true_and]
 rw[if_neg h4]
 have d4:(decide (240≤s[k].toNat)&&decide (s[k].toNat<248))=false:=by
  rw[Bool.and_eq_false_iff]
  by_cases h:240≤s[k].toNat
  ·exact .inr (decide_eq_false (by omega))
  ·exact .inl (decide_eq_false h)
 rw[d4]
 rfl
theorem Qqp (l:List UInt8) (h:l≠[]):1≤(nextP l).2∧(nextP l).2≤l.length:=by
 cases l with
 | nil=>exact absurd rfl h
 | cons c r =>
  rw[nextP]
  unfold nextC
  split
  ·simp
  ·split
   ·split
    ·split<;>simp
    ·simp
   ·split
    ·split
     ·split<;>simp
     ·simp
    ·split
     ·split
      ·split<;>simp
      ·simp
     ·simp
end Go.Proofs.YtagokkpnfceidaaDoor
end

section
namespace Go.Proofs.YtagokkpnfceidaaDoor
open Go.RowKit
theorem td (n k:Nat):((n:Int).tdiv (k:Int))=((n / k:Nat):Int):=by rw[Int.tdiv_eq_ediv_of_nonneg (by omega)]; rfl
theorem tm (n k:Nat):((n:Int).tmod (k:Int))=((n % k:Nat):Int):=by rw[Int.tmod_eq_emod_of_nonneg (by omega)]; rfl
end Go.Proofs.YtagokkpnfceidaaDoor
end

section
namespace Go.Proofs.YtagokkpnfceidaaDoor
open Go.RowKit
def utfF:Nat→List UInt8→Bool
 | 0,_=>true
 | n+1,l=>match l with
  | []=>true
  | _::_=>if(nextP l).1=65533∧(nextP l).2=1 then false else utfF n (l.drop (nextP l).2)
theorem badI (p:Nat×Nat):(if(((p.1:Nat):Int)==65533)=true then some (((p.2:Nat):Int)==1) else some false:Option Bool)=some (decide (p.1=65533∧p.2=1)):=by
 have a:=eqN p.1 65533
 have b:=eqN p.2 1
 rw[show(65533:Int)=((65533:Nat):Int) from rfl,show(1:Int)=((1:Nat):Int) from rfl,a,b]
 by_cases h1:p.1=65533
 ·rw[beq_iff_eq.2 h1,if_pos rfl]
  by_cases h2:p.2=1
  ·rw[beq_iff_eq.2 h2,decide_eq_true ⟨h1,h2⟩]
  ·rw[beq_eq_false_iff_ne.2 h2,decide_eq_false (fun h=>h2 h.2)]
 ·rw[beq_eq_false_iff_ne.2 h1,if_neg (by decide),decide_eq_false (fun h=>h1 h.1)]
theorem eqC (c:UInt8) (k:Nat) (hk:k<256):((c.toNat:Int)==(k:Int))=decide (c=UInt8.ofNat k):=by
 rw[eqN]
 by_cases h:c.toNat=k
 ·rw[beq_iff_eq.2 h,decide_eq_true]
  apply UInt8.toNat_inj.1
  rw[h,UInt8.toNat_ofNat', Nat.mod_eq_of_lt hk]
 ·rw[beq_eq_false_iff_ne.2 h,decide_eq_false]
  intro e; apply h; rw[e,UInt8.toNat_ofNat', Nat.mod_eq_of_lt hk]
end Go.Proofs.YtagokkpnfceidaaDoor
end
