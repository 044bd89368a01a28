/- The proof's texts, part 10 of 12: the walks by a logic in which data are by value, the plain laws, and at the end the law, for every input. -/
import Derived.Test.YtagokkpnfceidaaGreatDoorMgParseBounds9

section
set_option linter.unusedVariables false
set_option linter.unusedSimpArgs false
set_option maxRecDepth 100000
set_option maxHeartbeats 4000000
namespace Go.Proofs.YtagokkpnfceidaaGreatDoor
open Go.RowKit
theorem Qna:∀ (h0_0:(List Qac)),(∀ (p1:Bool) (p2:Bool) (h0_1:Int) (o:((List Qaa)×Int×Int)⊕(Int)),Qa1 p1 p2 h0_0 h0_1=some o→CallS Tryz.prog 17 [.ptr 0 0,.p (bV p1),.p (bV p2)] ⟨[[.p (.sl false (h0_0.map Qab)),.p (iV h0_1)]],[]⟩ Qfs (fun(o:(List Qaa)×Int×Int)=>⟨[[.p (.sl false (h0_0.map Qab)),.p (iV o.2.2)]],[]⟩) (fun(o:Int)=>⟨[[.p (.sl false (h0_0.map Qab)),.p (iV o)]],[]⟩) o)∧(∀ (p1:Bool) (p2:Bool) (h0_1:Int) (w0:Unit) (o1:((List Qaa)×Int×Int)⊕Int),Qeh p1 p2 h0_0 h0_1 w0=some o1→TG (1,0) Tryz.prog 87 Qg7 (behind Qg7 0) (JP2 (1,0) 87 o1 .ret (Qgu p1 p2 h0_0 h0_1) (.panic panCH) (Qgv p1 p2 h0_0 h0_1)) (Qfq p1 p2 h0_0 h0_1 w0))∧(∀ (p1:Bool) (p2:Bool) (v8:(List Qaa)) (h0_1_:Int) (o4:((List Qaa)×Int)⊕((List Qaa)×Int×Int)⊕Int),Qaw p1 p2 h0_0 v8 h0_1_=some o4→TL (1,0) Tryz.prog 87 Qmc (JP3 (1,0) 87 o4 (.exit 0) (Qgr p1 p2 h0_0) .ret (Qgs p1 p2 h0_0) (.panic panCH) (Qgt p1 p2 h0_0)) (Qbv p1 p2 h0_0 v8 h0_1_))∧(∀ (h0_1:Int) (o:(Qaa×Int)⊕(Int)),Qfp h0_0 h0_1=some o→CallS Tryz.prog 35 [.ptr 0 0] ⟨[[.p (.sl false (h0_0.map Qab)),.p (iV h0_1)]],[]⟩ Qce (fun(o:Qaa×Int)=>⟨[[.p (.sl false (h0_0.map Qab)),.p (iV o.2)]],[]⟩) (fun(o:Int)=>⟨[[.p (.sl false (h0_0.map Qab)),.p (iV o)]],[]⟩) o):=by
 intro h0_0
 refine Qa1.mutual_partial_correctness h0_0 _ _ _ _ ?_ ?_ ?_ ?_
 ·intro Qeh' iQeh p1 p2 h0_1 o h
  refine CallS.ofB mixed tbOk Qby Tryz.func17 rfl (by kernel_rfl) (Nat.le_of_ble_eq_true rfl) (fun _=>rfl) (fun _=>rfl) (fun _=>rfl) (fun _=>rfl) (fun _=>rfl) ?_
  refine Qai h (fun o1 ho hk=>?_)
  refine Exists.intro (JP2 _ _ o1 .ret (Qgu p1 p2 h0_0 h0_1) (.panic panCH) (Qgv p1 p2 h0_0 h0_1)) (And.intro (TG.scope ?_) (join2 (fun y2 hy=>?_) (fun y3 hy=>?_)))
  ·have h:=ho
   refine TG.seqb mixed tbOk (lv:=Qby) ?_
   refine TG.label (TG.le (τ := Qfq p1 p2 h0_0 h0_1 ()) ?_ ((iQeh p1 p2 h0_1 () _ h)))
   exact Le.tz 1 0 rfl rfl rfl
  ·have h:=(by rw[hy] at hk; exact hk)
   refine Exists.intro _ (And.intro (Le.refl _ _ _) ?_)
   exact Qdt (t:=Qfs) (ss:=fun(o:(List Qaa)×Int×Int)=>⟨[[.p (.sl false (h0_0.map Qab)),.p (iV o.2.2)]],[]⟩) h ⟨[],rfl,.refl _,.refl _,rfl⟩
  ·have h:=(by rw[hy] at hk; exact hk)
   refine xle ?_
   exact Qcd (sp:=fun(o:Int)=>⟨[[.p (.sl false (h0_0.map Qab)),.p (iV o)]],[]⟩) h ⟨[],rfl,.refl _,.refl _,rfl⟩
 ·intro Qaw' iQaw p1 p2 h0_1 w0 o1 h
  refine TG.seqb mixed tbOk (lv:=Qby) ?_
  refine Qai h (fun o4 ho hk=>?_)
  refine Exists.intro (JP3 _ _ o4 (.exit 0) (Qgr p1 p2 h0_0) .ret (Qgs p1 p2 h0_0) (.panic panCH) (Qgt p1 p2 h0_0)) (And.intro (T_le (τ := Qbv p1 p2 h0_0 [] h0_1) ?_ (TL.loop (iQaw p1 p2 [] h0_1 o4 ho))) (join3 (fun y5 hy=>?_) (fun y6 hy=>?_) (fun y7 hy=>?_)))
  ·exact(Le.xnil (.s 8) 37 7 rfl).trans (Le.tz 1 1 rfl rfl rfl)
  ·have h:=(by rw[hy] at hk; exact hk)
   refine TG.seqb mixed tbOk (lv:=Qby) ?_
   refine xle ?_
   refine Qbc _ _ _ h (fun x33 hy=>(Qa9 (!p1) h0_0 y5.2 (.inl x33) hy).a.fr [0] [] rfl rfl rfl) (fun z35 hy=>(Qa9 (!p1) h0_0 y5.2 (.inr z35) hy).b.fr [0] [] rfl rfl rfl) (fun x33 hy h=>?_) (fun z35 hy h=>?_)
   ·refine TG.seqb mixed tbOk (lv:=Qby) ?_
    refine Exists.intro _ (And.intro (Le.frzv (.s 8) 0 1 rfl rfl rfl rfl) ?_)
    refine TG.lastb mixed tbOk (lv:=Qby) ?_
    refine JP2.a h ?_
    exact Le.tz 1 1 rfl rfl rfl
   ·refine JP2.b h ?_
    exact Le.tz 1 1 rfl rfl rfl
  ·have h:=(by rw[hy] at hk; exact hk)
   refine JP2.a h ?_
   exact Le.tz 1 1 rfl rfl rfl
  ·have h:=(by rw[hy] at hk; exact hk)
   refine JP2.b h ?_
   exact Le.tz 1 1 rfl rfl rfl
 ·intro Qaw' Qfp' iQaw iQfp p1 p2 v8 h0_1_ o4 h
  refine TL.round (Qam mixed tbOk (lv:=Qby) _ _ _ ?_)
  refine And.intro (by decide +kernel) (And.intro rfl ?_)
  refine view (lenMap _ _) rfl ?_
  refine Qaf h (fun hb h=>?_) (fun hb h=>?_)
  ·refine And.intro rfl (Exists.intro _ (And.intro (List.length_map _) ?_))
   refine Qag _ _ h (fun x8 hy=>((Qb4 h0_0 h0_1_ x8 hy).fr [0] [] rfl rfl rfl)) (fun x8 hy h=>?_)
   refine Qag _ _ h (fun x9 hy=>((Qck 1 h0_0 h0_1_ x9 hy).fr [0] [] rfl rfl rfl)) (fun x9 hy h=>?_)
   refine Qaf h (fun hb h=>?_) (fun hb h=>?_)
   ·refine Qai h (fun o10 ho hk=>?_)
    refine Exists.intro (JP1 _ _ o10 .normal (Ql9 p1 p2 h0_0 v8 x8 x9)) (And.intro ?_ (join1 ?_))
    ·have h:=ho
     refine Qaf h (fun hb h=>?_) (fun hb h=>?_)
     ·refine Qrm (l:=v8) (c:=Qae) (c' := Qb1) h rfl Qak (fun _=>rfl) (by decide) (fun x11 hi h=>?_)
      refine And.intro rfl ?_
      refine And.intro rfl (And.intro (Nat.le_of_ble_eq_true rfl) ?_)
      refine JP1.a h ?_
      exact Le.tz 2 1 rfl rfl rfl
     ·refine JP1.a h ?_
      exact Le.tz 2 1 rfl rfl rfl
    ·have h:=hk
     refine Qaf h (fun hb h=>?_) (fun hb h=>?_)
     ·refine And.intro (by decide +kernel) (And.intro (by decide +kernel) (And.intro rfl ?_))
      refine And.intro rfl ?_
      refine Qrm (l:=v8) (c:=Qae) (c' := Qb1) h rfl Qak (fun _=>rfl) (by decide) (fun x12 hi h=>?_)
      refine And.intro rfl ?_
      refine And.intro rfl ?_
      refine And.intro rfl ?_
      refine And.intro rfl (And.intro (Nat.le_of_ble_eq_true rfl) ?_)
      refine Qkw h (fun h=>?_)
      refine Qrm (l:=v8) (c:=Qae) (c' := Qb1) h rfl Qak (fun _=>rfl) (by decide) (fun x13 hi h=>?_)
      refine And.intro rfl ?_
      refine And.intro rfl (And.intro (Nat.le_of_ble_eq_true rfl) (And.intro rfl (And.intro rfl (Exists.intro ((v8.set ((wr ((v8.length:Int)-1)).toNat) (Qaa.mk x13.Kind x13.Name (x12.Text++x8.Text) x13.N x13.L x13.Then x13.Else)).map Qae) (And.intro (setMap (.ceq (Qak _) (.refl _))) ?_)))))
      refine TL.le (τ := Qbv p1 p2 h0_0 (v8.set ((wr ((v8.length:Int)-1)).toNat) (Qaa.mk x13.Kind x13.Name (x12.Text++x8.Text) x13.N x13.L x13.Then x13.Else)) x9.2) ?_ ((iQaw p1 p2 (v8.set ((wr ((v8.length:Int)-1)).toNat) (Qaa.mk x13.Kind x13.Name (x12.Text++x8.Text) x13.N x13.L x13.Then x13.Else)) x9.2 _ h))
      exact Le.trans (τ := ⟨[(0,.ptr 0 0),(1,.p (bV p1)),(2,.p (bV p2)),(8,.x 0 2 (.sl 37 7 ((v8.set ((wr ((v8.length:Int)-1)).toNat) (Qaa.mk x13.Kind x13.Name (x12.Text++x8.Text) x13.N x13.L x13.Then x13.Else)).map Qae)))],⟨[[.p (.sl false (h0_0.map Qab)),.p (iV x9.2)],[.p (iV x8.Kind),.p (sV x8.Text),.p (iV x8.N),.p (iV x8.From),.p (iV x8.To)]],[2]⟩⟩) (Le.tz 2 1 rfl rfl rfl) ((Le.ver (.s 8) 0 2 1 rfl rfl rfl rfl).trans (Le.tz 1 1 rfl rfl rfl))
     ·refine Qw6 (a:=v8) (b:=[(Qaa.mk 8 [] x8.Text 0 [] [] [])]) (c:=Qae) h (.cons (.ceq (Qak _) (.cons (.refl _) (.cons (.refl _) (.cons (.refl _) (.cons (.refl _) (.cons (.not) (.cons (.not) (.cons (.not) (.nil))))))))) (.nil)) (fun x=>by rw[Qak]; rfl) rfl (fun x14 hi h=>?_)
      refine TL.le (τ := Qbv p1 p2 h0_0 x14 x9.2) ?_ ((iQaw p1 p2 x14 x9.2 _ h))
      exact Le.trans (τ := ⟨[(0,.ptr 0 0),(1,.p (bV p1)),(2,.p (bV p2)),(8,.x 0 2 (.sl 37 7 (x14.map Qae)))],⟨[[.p (.sl false (h0_0.map Qab)),.p (iV x9.2)],[.p (iV x8.Kind),.p (sV x8.Text),.p (iV x8.N),.p (iV x8.From),.p (iV x8.To)]],[2]⟩⟩) (Le.tz 2 1 rfl rfl rfl) ((Le.ver (.s 8) 0 2 1 rfl rfl rfl rfl).trans (Le.tz 1 1 rfl rfl rfl))
   ·refine xle ?_
    refine Qbc _ _ _ h (fun x15 hy=>(Qal 2 h0_0 x9.2 (.inl x15) hy).a.fr [0] [] rfl rfl rfl) (fun z17 hy=>(Qal 2 h0_0 x9.2 (.inr z17) hy).b.fr [0] [] rfl rfl rfl) (fun x15 hy h=>?_) (fun z17 hy h=>?_)
    ·refine Qag _ _ h (fun x18 hy=>((Qck 3 h0_0 x15.2 x18 hy).fr [0] [] rfl rfl rfl)) (fun x18 hy h=>?_)
     refine Qaf h (fun hb h=>?_) (fun hb h=>?_)
     ·refine TL.le (τ := Qbv p1 p2 h0_0 v8 x18.2) ?_ ((iQaw p1 p2 v8 x18.2 _ h))
      exact Le.tz 1 1 rfl rfl rfl
     ·refine Qai h (fun o19 ho hk=>?_)
      refine Exists.intro (JP1 _ _ o19 .normal (Qma p1 p2 h0_0 v8 x8)) (And.intro ?_ (join1 ?_))
      ·have h:=ho
       refine Qaf h (fun hb h=>?_) (fun hb h=>?_)
       ·refine Qag _ _ h (fun x20 hy=>((Qba [101,110,100] h0_0 x18.2 x20 hy).fr [0] [] rfl rfl rfl)) (fun x20 hy h=>?_)
        refine JP1.a h ?_
        exact Le.tz 2 1 rfl rfl rfl
       ·refine JP1.a h ?_
        exact Le.tz 2 1 rfl rfl rfl
      ·have h:=hk
       refine Qaf h (fun hb h=>?_) (fun hb h=>?_)
       ·refine xle ?_
        refine Qbc _ _ _ h (fun x21 hy=>(Qal 3 h0_0 o19.2 (.inl x21) hy).a.fr [0] [] rfl rfl rfl) (fun z23 hy=>(Qal 3 h0_0 o19.2 (.inr z23) hy).b.fr [0] [] rfl rfl rfl) (fun x21 hy h=>?_) (fun z23 hy h=>?_)
        ·refine Exists.intro _ (And.intro (Le.frzv (.s 8) 0 1 rfl rfl rfl rfl) ?_)
         exact JP3.b h (Le.tz 1 1 rfl rfl rfl)
        ·exact JP3.c h (Le.tz 1 1 rfl rfl rfl)
       ·refine Qai h (fun o24 ho hk=>?_)
        refine Exists.intro (JP1 _ _ o24 .normal (Qmb p1 p2 h0_0 v8 x8)) (And.intro ?_ (join1 ?_))
        ·have h:=ho
         refine Qaf h (fun hb h=>?_) (fun hb h=>?_)
         ·refine Qag _ _ h (fun x25 hy=>((Qba [101,108,115,101] h0_0 o19.2 x25 hy).fr [0] [] rfl rfl rfl)) (fun x25 hy h=>?_)
          refine JP1.a h ?_
          exact Le.tz 2 1 rfl rfl rfl
         ·refine JP1.a h ?_
          exact Le.tz 2 1 rfl rfl rfl
        ·have h:=hk
         refine Qaf h (fun hb h=>?_) (fun hb h=>?_)
         ·refine xle ?_
          refine Qbc _ _ _ h (fun x26 hy=>(Qal 3 h0_0 o24.2 (.inl x26) hy).a.fr [0] [] rfl rfl rfl) (fun z28 hy=>(Qal 3 h0_0 o24.2 (.inr z28) hy).b.fr [0] [] rfl rfl rfl) (fun x26 hy h=>?_) (fun z28 hy h=>?_)
          ·refine Exists.intro _ (And.intro (Le.frzv (.s 8) 0 1 rfl rfl rfl rfl) ?_)
           exact JP3.b h (Le.tz 1 1 rfl rfl rfl)
          ·exact JP3.c h (Le.tz 1 1 rfl rfl rfl)
         ·refine xle ?_
          refine Qbc _ _ _ h (fun x29 hy=>(iQfp o24.2 (.inl x29) hy).a.fr [0] [] rfl rfl rfl) (fun z31 hy=>(iQfp o24.2 (.inr z31) hy).b.fr [0] [] rfl rfl rfl) (fun x29 hy h=>?_) (fun z31 hy h=>?_)
          ·refine Qw6 (a:=v8) (b:=[x29.1]) (c:=Qae) h (.cons (.ceq (Qak _) (.refl _)) (.nil)) (fun x=>by rw[Qak]; rfl) rfl (fun x32 hi h=>?_)
           refine TL.le (τ := Qbv p1 p2 h0_0 x32 x29.2) ?_ ((iQaw p1 p2 x32 x29.2 _ h))
           exact Le.trans (τ := ⟨[(0,.ptr 0 0),(1,.p (bV p1)),(2,.p (bV p2)),(8,.x 0 2 (.sl 37 7 (x32.map Qae)))],⟨[[.p (.sl false (h0_0.map Qab)),.p (iV x29.2)],[.p (iV x8.Kind),.p (sV x8.Text),.p (iV x8.N),.p (iV x8.From),.p (iV x8.To)]],[2]⟩⟩) (Le.tz 2 1 rfl rfl rfl) ((Le.ver (.s 8) 0 2 1 rfl rfl rfl rfl).trans (Le.tz 1 1 rfl rfl rfl))
          ·exact JP3.c h (Le.tz 1 1 rfl rfl rfl)
    ·exact JP3.c h (Le.tz 1 1 rfl rfl rfl)
  ·exact JP3.a h (Le.tz 1 1 rfl rfl rfl)
 ·intro Qa1' iQa1 h0_1 o h
  refine CallS.ofB mixed tbOk Qo8 Tryz.func35 rfl (by kernel_rfl) (Nat.le_of_ble_eq_true rfl) (fun _=>rfl) (fun _=>rfl) (fun _=>rfl) (fun _=>rfl) (fun _=>rfl) ?_
  refine Qag _ _ h (fun x1 hy=>((Qba [105,102] h0_0 h0_1 x1 hy).fr [0] [] rfl rfl rfl)) (fun x1 hy h=>?_)
  refine Qaf h (fun hb h=>?_) (fun hb h=>?_)
  ·refine xle ?_
   refine Qbc _ _ _ h (fun x2 hy=>(Qa2 h0_0 x1.2 (.inl x2) hy).a.fr [0] [] rfl rfl rfl) (fun z4 hy=>(Qa2 h0_0 x1.2 (.inr z4) hy).b.fr [0] [] rfl rfl rfl) (fun x2 hy h=>?_) (fun z4 hy h=>?_)
   ·refine xle ?_
    refine Qbc _ _ _ h (fun x5 hy=>(iQa1 true true x2.2 (.inl x5) hy).a.fr [0] [] rfl rfl rfl) (fun z7 hy=>(iQa1 true true x2.2 (.inr z7) hy).b.fr [0] [] rfl rfl rfl) (fun x5 hy h=>?_) (fun z7 hy h=>?_)
    ·refine Qaf h (fun hb h=>?_) (fun hb h=>?_)
     ·refine xle ?_
      refine Qbc _ _ _ h (fun x8 hy=>(iQa1 true false x5.2.2 (.inl x8) hy).a.fr [0] [] rfl rfl rfl) (fun z10 hy=>(iQa1 true false x5.2.2 (.inr z10) hy).b.fr [0] [] rfl rfl rfl) (fun x8 hy h=>?_) (fun z10 hy h=>?_)
      ·refine Exists.intro _ (And.intro (Le.refl _ _ _) ?_)
       exact Qdt (t:=Qce) (ss:=fun(o:Qaa×Int)=>⟨[[.p (.sl false (h0_0.map Qab)),.p (iV o.2)]],[]⟩) h ⟨[],rfl,.refl _,.refl _,rfl⟩
      ·refine xle ?_
       exact Qcd (sp:=fun(o:Int)=>⟨[[.p (.sl false (h0_0.map Qab)),.p (iV o)]],[]⟩) h ⟨[],rfl,.refl _,.refl _,rfl⟩
     ·refine Exists.intro _ (And.intro (Le.refl _ _ _) ?_)
      exact Qdt (t:=Qce) (ss:=fun(o:Qaa×Int)=>⟨[[.p (.sl false (h0_0.map Qab)),.p (iV o.2)]],[]⟩) h ⟨[],rfl,.p (.agg' (.cons (.refl _) (.cons (.refl _) (.cons (.refl _) (.cons (.refl _) (.cons (.refl _) (.cons (.refl _) (.cons (.not) (.nil))))))))),.refl _,rfl⟩
    ·refine xle ?_
     exact Qcd (sp:=fun(o:Int)=>⟨[[.p (.sl false (h0_0.map Qab)),.p (iV o)]],[]⟩) h ⟨[],rfl,.refl _,.refl _,rfl⟩
   ·refine xle ?_
    exact Qcd (sp:=fun(o:Int)=>⟨[[.p (.sl false (h0_0.map Qab)),.p (iV o)]],[]⟩) h ⟨[],rfl,.refl _,.refl _,rfl⟩
  ·refine Qag _ _ h (fun x11 hy=>((Qba [101,97,99,104] h0_0 x1.2 x11 hy).fr [0] [] rfl rfl rfl)) (fun x11 hy h=>?_)
   refine Qaf h (fun hb h=>?_) (fun hb h=>?_)
   ·refine xle ?_
    refine Qbc _ _ _ h (fun x12 hy=>(Qbr h0_0 x11.2 (.inl x12) hy).a.fr [0] [] rfl rfl rfl) (fun z14 hy=>(Qbr h0_0 x11.2 (.inr z14) hy).b.fr [0] [] rfl rfl rfl) (fun x12 hy h=>?_) (fun z14 hy h=>?_)
    ·refine xle ?_
     refine Qag _ _ h (fun x15 hy=>((Qba [105,110] h0_0 x12.2 x15 hy).fr [0] [] rfl rfl rfl)) (fun x15 hy h=>?_)
     refine Qbc _ _ _ h (fun x16 hy=>(Qa9 x15.1 h0_0 x15.2 (.inl x16) hy).a.fr [0] [] rfl rfl rfl) (fun z18 hy=>(Qa9 x15.1 h0_0 x15.2 (.inr z18) hy).b.fr [0] [] rfl rfl rfl) (fun x16 hy h=>?_) (fun z18 hy h=>?_)
     ·refine xle ?_
      refine Qbc _ _ _ h (fun x19 hy=>(Qa2 h0_0 x15.2 (.inl x19) hy).a.fr [0] [] rfl rfl rfl) (fun z21 hy=>(Qa2 h0_0 x15.2 (.inr z21) hy).b.fr [0] [] rfl rfl rfl) (fun x19 hy h=>?_) (fun z21 hy h=>?_)
      ·refine xle ?_
       refine Qbc _ _ _ h (fun x22 hy=>(iQa1 true false x19.2 (.inl x22) hy).a.fr [0] [] rfl rfl rfl) (fun z24 hy=>(iQa1 true false x19.2 (.inr z24) hy).b.fr [0] [] rfl rfl rfl) (fun x22 hy h=>?_) (fun z24 hy h=>?_)
       ·refine Exists.intro _ (And.intro (Le.refl _ _ _) ?_)
        exact Qdt (t:=Qce) (ss:=fun(o:Qaa×Int)=>⟨[[.p (.sl false (h0_0.map Qab)),.p (iV o.2)]],[]⟩) h ⟨[],rfl,.p (.agg' (.cons (.refl _) (.cons (.refl _) (.cons (.refl _) (.cons (.refl _) (.cons (.refl _) (.cons (.refl _) (.cons (.not) (.nil))))))))),.refl _,rfl⟩
       ·refine xle ?_
        exact Qcd (sp:=fun(o:Int)=>⟨[[.p (.sl false (h0_0.map Qab)),.p (iV o)]],[]⟩) h ⟨[],rfl,.refl _,.refl _,rfl⟩
      ·refine xle ?_
       exact Qcd (sp:=fun(o:Int)=>⟨[[.p (.sl false (h0_0.map Qab)),.p (iV o)]],[]⟩) h ⟨[],rfl,.refl _,.refl _,rfl⟩
     ·refine xle ?_
      exact Qcd (sp:=fun(o:Int)=>⟨[[.p (.sl false (h0_0.map Qab)),.p (iV o)]],[]⟩) h ⟨[],rfl,.refl _,.refl _,rfl⟩
    ·refine xle ?_
     exact Qcd (sp:=fun(o:Int)=>⟨[[.p (.sl false (h0_0.map Qab)),.p (iV o)]],[]⟩) h ⟨[],rfl,.refl _,.refl _,rfl⟩
   ·refine Qag _ _ h (fun x25 hy=>((Qba [108,101,116] h0_0 x11.2 x25 hy).fr [0] [] rfl rfl rfl)) (fun x25 hy h=>?_)
    refine Qaf h (fun hb h=>?_) (fun hb h=>?_)
    ·refine xle ?_
     refine Qbc _ _ _ h (fun x26 hy=>(Qbr h0_0 x25.2 (.inl x26) hy).a.fr [0] [] rfl rfl rfl) (fun z28 hy=>(Qbr h0_0 x25.2 (.inr z28) hy).b.fr [0] [] rfl rfl rfl) (fun x26 hy h=>?_) (fun z28 hy h=>?_)
     ·refine xle ?_
      refine Qbc _ _ _ h (fun x29 hy=>(Qal 11 h0_0 x26.2 (.inl x29) hy).a.fr [0] [] rfl rfl rfl) (fun z31 hy=>(Qal 11 h0_0 x26.2 (.inr z31) hy).b.fr [0] [] rfl rfl rfl) (fun x29 hy h=>?_) (fun z31 hy h=>?_)
      ·refine xle ?_
       refine Qbc _ _ _ h (fun x32 hy=>(Qa2 h0_0 x29.2 (.inl x32) hy).a.fr [0] [] rfl rfl rfl) (fun z34 hy=>(Qa2 h0_0 x29.2 (.inr z34) hy).b.fr [0] [] rfl rfl rfl) (fun x32 hy h=>?_) (fun z34 hy h=>?_)
       ·refine xle ?_
        refine Qbc _ _ _ h (fun x35 hy=>(iQa1 true false x32.2 (.inl x35) hy).a.fr [0] [] rfl rfl rfl) (fun z37 hy=>(iQa1 true false x32.2 (.inr z37) hy).b.fr [0] [] rfl rfl rfl) (fun x35 hy h=>?_) (fun z37 hy h=>?_)
        ·refine Exists.intro _ (And.intro (Le.refl _ _ _) ?_)
         exact Qdt (t:=Qce) (ss:=fun(o:Qaa×Int)=>⟨[[.p (.sl false (h0_0.map Qab)),.p (iV o.2)]],[]⟩) h ⟨[],rfl,.p (.agg' (.cons (.refl _) (.cons (.refl _) (.cons (.refl _) (.cons (.refl _) (.cons (.refl _) (.cons (.refl _) (.cons (.not) (.nil))))))))),.refl _,rfl⟩
        ·refine xle ?_
         exact Qcd (sp:=fun(o:Int)=>⟨[[.p (.sl false (h0_0.map Qab)),.p (iV o)]],[]⟩) h ⟨[],rfl,.refl _,.refl _,rfl⟩
       ·refine xle ?_
        exact Qcd (sp:=fun(o:Int)=>⟨[[.p (.sl false (h0_0.map Qab)),.p (iV o)]],[]⟩) h ⟨[],rfl,.refl _,.refl _,rfl⟩
      ·refine xle ?_
       exact Qcd (sp:=fun(o:Int)=>⟨[[.p (.sl false (h0_0.map Qab)),.p (iV o)]],[]⟩) h ⟨[],rfl,.refl _,.refl _,rfl⟩
     ·refine xle ?_
      exact Qcd (sp:=fun(o:Int)=>⟨[[.p (.sl false (h0_0.map Qab)),.p (iV o)]],[]⟩) h ⟨[],rfl,.refl _,.refl _,rfl⟩
    ·refine Qag _ _ h (fun x38 hy=>((Qba [117,115,101] h0_0 x25.2 x38 hy).fr [0] [] rfl rfl rfl)) (fun x38 hy h=>?_)
     refine Qaf h (fun hb h=>?_) (fun hb h=>?_)
     ·refine xle ?_
      refine Qbc _ _ _ h (fun x39 hy=>(Qbr h0_0 x38.2 (.inl x39) hy).a.fr [0] [] rfl rfl rfl) (fun z41 hy=>(Qbr h0_0 x38.2 (.inr z41) hy).b.fr [0] [] rfl rfl rfl) (fun x39 hy h=>?_) (fun z41 hy h=>?_)
      ·refine xle ?_
       refine Qbc _ _ _ h (fun x42 hy=>(Qa2 h0_0 x39.2 (.inl x42) hy).a.fr [0] [] rfl rfl rfl) (fun z44 hy=>(Qa2 h0_0 x39.2 (.inr z44) hy).b.fr [0] [] rfl rfl rfl) (fun x42 hy h=>?_) (fun z44 hy h=>?_)
       ·refine Exists.intro _ (And.intro (Le.refl _ _ _) ?_)
        exact Qdt (t:=Qce) (ss:=fun(o:Qaa×Int)=>⟨[[.p (.sl false (h0_0.map Qab)),.p (iV o.2)]],[]⟩) h ⟨[],rfl,.p (.agg' (.cons (.refl _) (.cons (.refl _) (.cons (.refl _) (.cons (.refl _) (.cons (.refl _) (.cons (.not) (.cons (.not) (.nil))))))))),.refl _,rfl⟩
       ·refine xle ?_
        exact Qcd (sp:=fun(o:Int)=>⟨[[.p (.sl false (h0_0.map Qab)),.p (iV o)]],[]⟩) h ⟨[],rfl,.refl _,.refl _,rfl⟩
      ·refine xle ?_
       exact Qcd (sp:=fun(o:Int)=>⟨[[.p (.sl false (h0_0.map Qab)),.p (iV o)]],[]⟩) h ⟨[],rfl,.refl _,.refl _,rfl⟩
     ·refine xle ?_
      refine Qbc _ _ _ h (fun x45 hy=>(Qa2 h0_0 x38.2 (.inl x45) hy).a.fr [0] [] rfl rfl rfl) (fun z47 hy=>(Qa2 h0_0 x38.2 (.inr z47) hy).b.fr [0] [] rfl rfl rfl) (fun x45 hy h=>?_) (fun z47 hy h=>?_)
      ·refine Exists.intro _ (And.intro (Le.refl _ _ _) ?_)
       exact Qdt (t:=Qce) (ss:=fun(o:Qaa×Int)=>⟨[[.p (.sl false (h0_0.map Qab)),.p (iV o.2)]],[]⟩) h ⟨[],rfl,.p (.agg' (.cons (.refl _) (.cons (.refl _) (.cons (.refl _) (.cons (.refl _) (.cons (.refl _) (.cons (.not) (.cons (.not) (.nil))))))))),.refl _,rfl⟩
      ·refine xle ?_
       exact Qcd (sp:=fun(o:Int)=>⟨[[.p (.sl false (h0_0.map Qab)),.p (iV o)]],[]⟩) h ⟨[],rfl,.refl _,.refl _,rfl⟩
theorem Qix:∀ (p1:Bool) (p2:Bool) (h0_0:(List Qac)) (h0_1:Int) (o:((List Qaa)×Int×Int)⊕(Int)),Qa1 p1 p2 h0_0 h0_1=some o→CallS Tryz.prog 17 [.ptr 0 0,.p (bV p1),.p (bV p2)] ⟨[[.p (.sl false (h0_0.map Qab)),.p (iV h0_1)]],[]⟩ Qfs (fun(o:(List Qaa)×Int×Int)=>⟨[[.p (.sl false (h0_0.map Qab)),.p (iV o.2.2)]],[]⟩) (fun(o:Int)=>⟨[[.p (.sl false (h0_0.map Qab)),.p (iV o)]],[]⟩) o:=fun p1 p2 h0_0 h0_1=>(Qna h0_0).1 p1 p2 h0_1
noncomputable def Qdl (p1:(List UInt8)) (h0_0:(List Qac)) (h0_1:Int):Option (Int) :=
 if(h0_1==(h0_0.length:Int)) then
  some (p1.length:Int)
 else
  idx h0_0 h0_1>>=fun x1 =>
  some x1.From
theorem Qn7:∀ (p1:(List UInt8)) (h0_0:(List Qac)) (h0_1:Int) (o:Int),Qdl p1 h0_0 h0_1=some o→CallOK Tryz.prog 16 [.ptr 0 0,.p (sV p1)] ⟨[[.p (.sl false (h0_0.map Qab)),.p (iV h0_1)]],[]⟩ (Qft o) ⟨[[.p (.sl false (h0_0.map Qab)),.p (iV h0_1)]],[]⟩:=by
 intro p1 h0_0 h0_1 o h
 unfold Qdl at h
 refine CallOK.ofB mixed tbOk Qnx Tryz.func16 rfl (by kernel_rfl) (Nat.le_of_ble_eq_true rfl) rfl rfl rfl ?_
 refine And.intro (by decide +kernel) (And.intro rfl ?_)
 refine view (lenMap _ _) rfl ?_
 refine Qaf h (fun hb h=>?_) (fun hb h=>?_)
 ·refine vrfl ?_
  refine Exists.intro _ (And.intro (Le.refl _ _ _) ?_)
  exact Qa7 (t:=Qft) (ss:=fun o=>⟨[[.p (.sl false (h0_0.map Qab)),.p (iV h0_1)]],[]⟩) h ⟨[],rfl,.refl _,.refl _,rfl⟩
 ·refine And.intro (by decide +kernel) (And.intro rfl ?_)
  refine Qel (l:=h0_0) (c:=Qab) (c' := Qab) h (fun _=>rfl) (fun _=>rfl) (by decide) (fun x1 hi h=>?_)
  refine Exists.intro _ (And.intro (Le.refl _ _ _) ?_)
  exact Qa7 (t:=Qft) (ss:=fun o=>⟨[[.p (.sl false (h0_0.map Qab)),.p (iV h0_1)]],[]⟩) h ⟨[],rfl,.refl _,.refl _,rfl⟩
noncomputable def Qdm (x1:(List Qaa)×Int) (l4:(List (Qaa×Int))) (h0_0:Int):Option (Int) :=
 match l4 with
 | [] =>
  some h0_0
 | x2::r3 =>
  Qdm x1 r3 (wr (h0_0+1))
 partial_fixpoint
theorem Qrw:∀ (x1:(List Qaa)×Int),(∀ (l4:(List (Qaa×Int))) (h0_0:Int) (o6:Int),Qdm x1 l4 h0_0=some o6→RL 1 0 Tryz.prog 11 (rgP Qdx) (rgA Qdx) (rgB Qdx) (Qde x1 h0_0).env (JP1 (0,0) 11 o6 .normal (Qi8 x1)) (l4.map Qbj) (Qde x1 h0_0).s):=by
 intro x1
 refine Qdm.partial_correctness x1 _ ?_
 intro Qdm' iQdm l4 h0_0 o6 h
 cases l4 with
 | nil =>
  refine Q4t ?_
  exact JP1.a h (Le.tz 1 0 rfl rfl rfl)
 | cons x2 r3 =>
  refine Q05 (Qam mixed tbOk (lv:=Qmd) _ _ _ ?_)
  refine And.intro rfl (Qam mixed tbOk (lv:=Qmd) _ _ _ ?_)
  exact Exists.intro (Qde x1 (wr (h0_0+1))).s (And.intro (Le.tz 1 0 rfl rfl rfl) (And.intro rfl (And.intro rfl ((iQdm r3 (wr (h0_0+1)) _ h)))))
theorem Qsv:∀ (x1:(List Qaa)×Int) (l4:(List (Qaa×Int))) (h0_0:Int) (o6:Int),Qdm x1 l4 h0_0=some o6→RL 1 0 Tryz.prog 11 (rgP Qdx) (rgA Qdx) (rgB Qdx) (Qde x1 h0_0).env (JP1 (0,0) 11 o6 .normal (Qi8 x1)) (l4.map Qbj) (Qde x1 h0_0).s:=fun x1 l4 h0_0=>(Qrw x1) l4 h0_0
noncomputable def Qid (p0:(List Qaa)) (p1:Int):Option ((List Qaa)×Int) :=
 some (p0,p1)
theorem Qp9:∀ (p0:(List Qaa)) (p1:Int) (o:(List Qaa)×Int),Qid p0 p1=some o→PCall Tryz.prog 37 [.sl false (p0.map Qae),iV p1] (Qlj o):=by
 intro p0 p1 o h
 unfold Qid at h
 refine PCall.ofM mixed tbOk Q1f Tryz.func37 rfl (by kernel_rfl) (Nat.le_of_ble_eq_true rfl) ?_
 refine Qax (t:=Qlj) h ?_
 exact .refl _
noncomputable def Qdn (p0:(List Qaa)) (p1:Int) (v12:Int) (x3:Qaa) (v28:Int) (x7:(List Qaa)×Int) (l10:(List (Qaa×Int))):Option ((List (Qaa×Int))×(Unit)) :=
 match l10 with
 | [] =>
  some ([],())
 | x8::r9 =>
  ( Qdn p0 p1 v12 x3 v28 x7 r9 )>>=fun q=>some (((Qaa.mk x8.1.Kind x8.1.Name x8.1.Text x8.1.N x8.1.L x8.1.Then x8.1.Else),x8.2)::q.1,q.2)
 partial_fixpoint
theorem Qrx:∀ (p0:(List Qaa)) (p1:Int) (v12:Int) (x3:Qaa) (v28:Int) (x7:(List Qaa)×Int),(∀ (l10:(List (Qaa×Int))) (o13:(List (Qaa×Int))×(Unit)),Qdn p0 p1 v12 x3 v28 x7 l10=some o13→∀ (gxs gp gpost gq12:List (List V)),gxs=gp++(o13.1.map Qbj++gpost)→gxs=gq12++gpost→RL 2 1 Tryz.prog 44 (rgP Qdz) (rgA Qdz) (rgB Qdz) (Qdf p0 p1 v12 x3 v28 x7 gxs gp).env (Qs (0,1) 44 gxs (JP1 (0,1) 44 o13.2 .normal (Qi9 p0 p1 v12 x3 v28 x7 gxs gq12))) (l10.map Qbj) (Qdf p0 p1 v12 x3 v28 x7 gxs gp).s):=by
 intro p0 p1 v12 x3 v28 x7
 refine Qdn.partial_correctness p0 p1 v12 x3 v28 x7 _ ?_
 intro Qdn' iQdn l10 o13 h
 intro gxs gp gpost gq12 hx hq
 cases l10 with
 | nil =>
  refine Q4t ?_
  exact .inl (JP1.a (sndI h) (Le.tz 2 1 rfl rfl (liveQ h hx hq rfl)))
 | cons x8 r9 =>
  refine Q05 (Qam mixed tbOk (lv:=Qg9) _ _ _ ?_)
  refine And.intro rfl (Qam mixed tbOk (lv:=Qg9) _ _ _ ?_)
  refine Q6t (c:=Qbj) h hx (.refl _) (by exact rfl) (by exact rfl) (fun _ h hx=>?_) ?_
  ·refine bF ?_
   exact Exists.intro (Qdf p0 p1 v12 x3 v28 x7  gxs (gp++[Qbj ((Qaa.mk x8.1.Kind x8.1.Name x8.1.Text x8.1.N x8.1.L x8.1.Then x8.1.Else),x8.2)])).s (And.intro (Le.tz 2 1 rfl rfl rfl) (And.intro rfl (And.intro rfl ((iQdn r9 _ h) _ _ _ _ hx hq))))
  ·refine bT ?_
   exact⟨_,(Le.env0 _).trans (Le.tow 2 1 rfl .nil (.refl _) rfl),rfl,rfl,.inr ⟨rfl,Q57 rfl⟩⟩
theorem Qsw:∀ (p0:(List Qaa)) (p1:Int) (v12:Int) (x3:Qaa) (v28:Int) (x7:(List Qaa)×Int) (l10:(List (Qaa×Int))) (o13:(List (Qaa×Int))×(Unit)),Qdn p0 p1 v12 x3 v28 x7 l10=some o13→∀ (gxs gp gpost gq12:List (List V)),gxs=gp++(o13.1.map Qbj++gpost)→gxs=gq12++gpost→RL 2 1 Tryz.prog 44 (rgP Qdz) (rgA Qdz) (rgB Qdz) (Qdf p0 p1 v12 x3 v28 x7 gxs gp).env (Qs (0,1) 44 gxs (JP1 (0,1) 44 o13.2 .normal (Qi9 p0 p1 v12 x3 v28 x7 gxs gq12))) (l10.map Qbj) (Qdf p0 p1 v12 x3 v28 x7 gxs gp).s:=fun p0 p1 v12 x3 v28 x7 l10=>(Qrx p0 p1 v12 x3 v28 x7) l10
mutual
noncomputable def Qet (p0 : (List Qaa)) (p1 : Int) : Option ((List (Qaa × Int)) × Unit) :=
  ( Qei p0 p1 0) >>= fun o2 => (
    some ([], ())) >>= fun q => some (o2.1 ++ q.1, q.2)
  partial_fixpoint
noncomputable def Qei (p0 : (List Qaa)) (p1 : Int) (v12 : Int) : Option ((List (Qaa × Int)) × (Unit)) :=
  if (decide (v12 < (p0.length : Int))) then
    idx p0 v12 >>= fun x3 =>
    ( ( Qcc p0 p1 v12 x3 0) >>= fun o5 => (
        Qei p0 p1 (wr (v12 + 1))) >>= fun q => some (o5.1 ++ q.1, q.2)) >>= fun q => some ((x3, p1) :: q.1, q.2)
  else
    some ([], ())
  partial_fixpoint
noncomputable def Qcc (p0 : (List Qaa)) (p1 : Int) (v12 : Int) (x3 : Qaa) (v28 : Int) : Option ((List (Qaa × Int)) × (Unit)) :=
  if (decide (v28 < 3)) then
    idx ([x3.L, x3.Then, x3.Else] : List (List Qaa)) v28 >>= fun x6 =>
    Qid x6 (wr (p1 + 1)) >>= fun x7 =>
    Qet x7.1 x7.2 >>= fun y11 =>
    ( Qdn p0 p1 v12 x3 v28 x7 y11.1) >>= fun o13 => (
      Qcc p0 p1 v12 x3 (wr (v28 + 1))) >>= fun q => some (o13.1 ++ q.1, q.2)
  else
    some ([], ())
  partial_fixpoint
end
theorem Qvw:(∀ (p0:(List Qaa)) (p1:Int) (o:(List (Qaa×Int))×Unit),Qet p0 p1=some o→∀ gxs:List (List V),gxs=o.1.map Qbj→IterOK Tryz.prog 59 [.ep [.sl false (p0.map Qae)],.ep [iV p1]] gxs)∧(∀ (p0:(List Qaa)) (p1:Int) (v12:Int) (o2:(List (Qaa×Int))×(Unit)),Qei p0 p1 v12=some o2→∀ (gxs gp gpost gq1:List (List V)),gxs=gp++(o2.1.map Qbj++gpost)→gxs=gq1++gpost→TL (0,1) Tryz.prog 44 Quh (Qs (0,1) 44 gxs (JP1 (0,1) 44 o2.2 (.exit 0) (Qmt p0 p1 gxs gq1))) (Qjb p0 p1 v12 gxs gp))∧(∀ (p0:(List Qaa)) (p1:Int) (v12:Int) (x3:Qaa) (v28:Int) (o5:(List (Qaa×Int))×(Unit)),Qcc p0 p1 v12 x3 v28=some o5→∀ (gxs gp gpost gq4:List (List V)),gxs=gp++(o5.1.map Qbj++gpost)→gxs=gq4++gpost→TL (0,1) Tryz.prog 44 Qug (Qs (0,1) 44 gxs (JP1 (0,1) 44 o5.2 (.exit 2) (Qms p0 p1 v12 x3 gxs gq4))) (Qja p0 p1 v12 x3 v28 gxs gp)):=by
 refine Qet.mutual_partial_correctness _ _ _ ?_ ?_ ?_
 ·intro Qei' iQei p0 p1 o h
  intro gxs hg
  have hx:gxs=[]++(o.1.map Qbj++[]):=by simp[hg]
  refine IterOK.ofB mixed tbOk Qg9 Tryz.func59 rfl (by kernel_rfl) (Nat.le_of_ble_eq_true rfl) rfl ?_
  refine view (lenMap _ _) rfl ?_
  refine Qw5 h hx (fun o2 lgq1 gq1 ho hk hxa hjgq1=>?_)
  refine Exists.intro (Qs _ _ gxs (JP1 _ _ o2.2 (.exit 0) (Qmt p0 p1 gxs gq1))) (And.intro (T_le (τ := Qjb p0 p1 0 gxs ([]:List (List V))) ?_ (TL.loop ((iQei p0 p1 0 o2 ho) _ _ _ _ hxa hjgq1))) (joinS (join1 ?_) ?_))
  ·exact Le.tz 1 1 rfl rfl rfl
  ·have h:=hk
   have hx:=hjgq1
   exact Q66 h hx (.inl rfl) rfl
  ·exact fun s1 h1 h2 hs=>Q58 (.inr rfl) hs
 ·intro Qei' Qcc' iQei iQcc p0 p1 v12 o2 h
  intro gxs gp gpost gq1 hx hq
  refine TL.round (Qam mixed tbOk (lv:=Qg9) _ _ _ ?_)
  refine Qaf h (fun hb h=>?_) (fun hb h=>?_)
  ·refine Qel (l:=p0) (c:=Qae) (c' := Qb1) h Qak (fun _=>rfl) (by decide) (fun x3 hi h=>?_)
   refine Q6t (c:=Qbj) h hx (.refl _) (by exact rfl) (by exact rfl) (fun _ h hx=>?_) ?_
   ·refine bF ?_
    refine Qw5 h hx (fun o5 lgq4 gq4 ho hk hxa hjgq4=>?_)
    refine Exists.intro (Qs _ _ gxs (JP1 _ _ o5.2 (.exit 2) (Qms p0 p1 v12 x3 gxs gq4))) (And.intro (T_le (τ := Qja p0 p1 v12 x3 0 gxs (gp++[Qbj (x3,p1)])) ?_ (TL.loop ((iQcc p0 p1 v12 x3 0 o5 ho) _ _ _ _ hxa hjgq4))) (joinS (join1 ?_) ?_))
    ·exact Le.tz 2 1 rfl rfl rfl
    ·have h:=hk
     have hx:=hjgq4
     refine TL.le (τ := Qjb p0 p1 (wr (v12+1)) gxs gq4) ?_ ((iQei p0 p1 (wr (v12+1)) _ h) _ _ _ _ hx hq)
     exact Le.tz 1 1 rfl rfl rfl
    ·exact fun s1 h1 h2 hs =>.inr ⟨rfl,s1,.refl _ _ _,h1,h2,hs⟩
   ·refine bT ?_
    exact .inr ⟨rfl,_,(Le.env0 _).trans (Le.tow 0 1 rfl .nil (.refl _) rfl),rfl,rfl,rfl⟩
  ·exact .inl (JP1.a (sndI h) (Le.tz 1 1 rfl rfl (liveQ h hx hq rfl)))
 ·intro Qet' Qcc' iQet iQcc p0 p1 v12 x3 v28 o5 h
  intro gxs gp gpost gq4 hx hq
  refine TL.round (Qam mixed tbOk (lv:=Qg9) _ _ _ ?_)
  refine Qaf h (fun hb h=>?_) (fun hb h=>?_)
  ·refine Q67 (l:=([x3.L,x3.Then,x3.Else]:List (List Qaa))) (c:=fun x6 =>.sl false (x6.map Qae)) h rfl rfl rfl rfl (fun x6 hi h=>?_)
   refine Qar [.sl false (x6.map Qae),iV (wr (p1+1))] Qlj h (fun x7 hy=>(Qp9 x6 (wr (p1+1)) x7 hy)) (fun x7 hy h=>?_)
   refine Qai h (fun y11 hy11 h=>?_)
   refine Qw5 h hx (fun o13 lgq12 gq12 ho hk hxa hjgq12=>?_)
   refine Exists.intro (Qs _ _ gxs (JP1 _ _ o13.2 .normal (Qi9 p0 p1 v12 x3 v28 x7 gxs gq12))) (And.intro (T_le (τ := Qdf p0 p1 v12 x3 v28 x7 gxs gp) ?_ (Q0x (g:=59) (cap:=[.ep [.sl false (x7.1.map Qae)],.ep [iV x7.2]]) rfl ((iQet x7.1 x7.2 y11 hy11) _ rfl) (mapSize fun _=>rfl) rfl (Nat.le_of_ble_eq_true rfl) (Nat.le_of_ble_eq_true rfl) ((Qsw p0 p1 v12 x3 v28 x7 y11.1 o13 ho) _ _ _ _ hxa hjgq12))) (joinS (join1 ?_) ?_))
   ·exact Le.tz 2 1 rfl rfl rfl
   ·have h:=hk
    have hx:=hjgq12
    refine TL.le (τ := Qja p0 p1 v12 x3 (wr (v28+1)) gxs gq12) ?_ ((iQcc p0 p1 v12 x3 (wr (v28+1)) _ h) _ _ _ _ hx hq)
    exact Le.tz 2 1 rfl rfl rfl
   ·exact fun s1 h1 h2 hs =>.inr ⟨rfl,s1,.refl _ _ _,h1,h2,hs⟩
  ·exact .inl (JP1.a (sndI h) (Le.tz 2 1 rfl rfl (liveQ h hx hq rfl)))
theorem Qq3:∀ (p0:(List Qaa)) (p1:Int) (o:(List (Qaa×Int))×Unit),Qet p0 p1=some o→∀ gxs:List (List V),gxs=o.1.map Qbj→IterOK Tryz.prog 59 [.ep [.sl false (p0.map Qae)],.ep [iV p1]] gxs:=fun p0 p1=>Qvw.1 p0 p1
noncomputable def Qlq (p0:(List Qaa)):Option (Int) :=
 Qid p0 1>>=fun x1 =>
 Qet x1.1 x1.2>>=fun y5 =>
 (Qdm x1 y5.1 0)>>=fun o6 =>
 some o6
theorem Qx6:∀ (p0:(List Qaa)) (o:Int),Qlq p0=some o→PCall Tryz.prog 18 [.sl false (p0.map Qae)] (Qny o):=by
 intro p0 o h
 unfold Qlq at h
 refine PCall.ofB mixed tbOk Qmd Tryz.func18 rfl (by kernel_rfl) (Nat.le_of_ble_eq_true rfl) ?_
 refine Qar [.sl false (p0.map Qae),iV 1] Qlj h (fun x1 hy=>(Qp9 p0 1 x1 hy)) (fun x1 hy h=>?_)
 refine Qai h (fun y5 hy5 h=>?_)
 refine Qai h (fun o6 ho hk=>?_)
 refine Exists.intro (JP1 _ _ o6 .normal (Qi8 x1)) (And.intro (T_le (τ := Qde x1 0) ?_ (Q0x (g:=59) (cap:=[.ep [.sl false (x1.1.map Qae)],.ep [iV x1.2]]) rfl ((Qq3 x1.1 x1.2 y5 hy5) _ rfl) (mapSize fun _=>rfl) rfl (Nat.le_of_ble_eq_true rfl) (Nat.le_of_ble_eq_true rfl) (Qsv x1 y5.1 0 o6 ho))) (join1 ?_))
 ·exact Le.tz 1 0 rfl rfl rfl
 have h:=hk
 refine Qax (t:=Qny) h ?_
 exact .refl _
noncomputable def Qd7 (x1:(List Qaa)×Int) (l4:(List (Qaa×Int))) (h0_0:Int):Option (Int) :=
 match l4 with
 | [] =>
  some h0_0
 | x2::r3 =>
  Qd7 x1 r3 (if x2.2>h0_0 then x2.2 else h0_0)
 partial_fixpoint
theorem Qsx:∀ (x1:(List Qaa)×Int),(∀ (l4:(List (Qaa×Int))) (h0_0:Int) (o6:Int),Qd7 x1 l4 h0_0=some o6→RL 1 0 Tryz.prog 14 (rgP Qes) (rgA Qes) (rgB Qes) (Qdy x1 h0_0).env (JP1 (0,0) 14 o6 .normal (Qkb x1)) (l4.map Qbj) (Qdy x1 h0_0).s):=by
 intro x1
 refine Qd7.partial_correctness x1 _ ?_
 intro Qd7' iQd7 l4 h0_0 o6 h
 cases l4 with
 | nil =>
  refine Q4t ?_
  exact JP1.a h (Le.tz 1 0 rfl rfl rfl)
 | cons x2 r3 =>
  refine Q05 (Qam mixed tbOk (lv:=Qnz) _ _ _ ?_)
  refine And.intro rfl (Qam mixed tbOk (lv:=Qnz) _ _ _ ?_)
  exact Exists.intro (Qdy x1 (if x2.2>h0_0 then x2.2 else h0_0)).s (And.intro (Le.tz 1 0 rfl rfl rfl) (And.intro rfl (And.intro rfl ((iQd7 r3 (if x2.2>h0_0 then x2.2 else h0_0) _ h)))))
theorem Quv:∀ (x1:(List Qaa)×Int) (l4:(List (Qaa×Int))) (h0_0:Int) (o6:Int),Qd7 x1 l4 h0_0=some o6→RL 1 0 Tryz.prog 14 (rgP Qes) (rgA Qes) (rgB Qes) (Qdy x1 h0_0).env (JP1 (0,0) 14 o6 .normal (Qkb x1)) (l4.map Qbj) (Qdy x1 h0_0).s:=fun x1 l4 h0_0=>(Qsx x1) l4 h0_0
noncomputable def Qn8 (p0:(List Qaa)):Option (Int) :=
 Qid p0 1>>=fun x1 =>
 Qet x1.1 x1.2>>=fun y5 =>
 (Qd7 x1 y5.1 0)>>=fun o6 =>
 some o6
theorem Qz7:∀ (p0:(List Qaa)) (o:Int),Qn8 p0=some o→PCall Tryz.prog 19 [.sl false (p0.map Qae)] (Qpz o):=by
 intro p0 o h
 unfold Qn8 at h
 refine PCall.ofB mixed tbOk Qnz Tryz.func19 rfl (by kernel_rfl) (Nat.le_of_ble_eq_true rfl) ?_
 refine Qar [.sl false (p0.map Qae),iV 1] Qlj h (fun x1 hy=>(Qp9 p0 1 x1 hy)) (fun x1 hy h=>?_)
 refine Qai h (fun y5 hy5 h=>?_)
 refine Qai h (fun o6 ho hk=>?_)
 refine Exists.intro (JP1 _ _ o6 .normal (Qkb x1)) (And.intro (T_le (τ := Qdy x1 0) ?_ (Q0x (g:=59) (cap:=[.ep [.sl false (x1.1.map Qae)],.ep [iV x1.2]]) rfl ((Qq3 x1.1 x1.2 y5 hy5) _ rfl) (mapSize fun _=>rfl) rfl (Nat.le_of_ble_eq_true rfl) (Nat.le_of_ble_eq_true rfl) (Quv x1 y5.1 0 o6 ho))) (join1 ?_))
 ·exact Le.tz 1 0 rfl rfl rfl
 have h:=hk
 refine Qax (t:=Qpz) h ?_
 exact .refl _
noncomputable def Qej (p0:(List UInt8)):Option ((List Qaa)×Int×Int) :=
 Qlo p0>>=fun x1 =>
 if(x1.2.2 != 0) then
  some ([],x1.2.1,x1.2.2)
 else
  Qa1 false false x1.1 0>>=fun o3 =>
  match o3 with
  | .inl x2 =>
   Qlq x2.1>>=fun x5 =>
   if(decide (x5>1024)) then
    some ([],0,5)
   else
    Qn8 x2.1>>=fun x6 =>
    if(decide (x6>12)) then
     some ([],0,8)
    else
     some (x2.1,0,0)
  | .inr z4 =>
   Qdl p0 x1.1 z4>>=fun x7 =>
   some ([],x7,7)
theorem Qie:∀ (p0:(List UInt8)) (o:(List Qaa)×Int×Int),Qej p0=some o→PCall Tryz.prog 7 [sV p0] (Qcu o):=by
 intro p0 o h
 unfold Qej at h
 refine Q48 (lv:=Qvj) ?_
 refine Qar [sV p0] Qns h (fun x1 hy=>(Qx5 p0 x1 hy)) (fun x1 hy h=>?_)
 refine Qaf h (fun hb h=>?_) (fun hb h=>?_)
 ·refine Exists.intro (.op 0 (.op 1 (.op 2 (.op 3 (.op 4 (.nil) (.nil)) (.nil)) (.nil)) (.op 2 (.op 1 (.op 3 (.op 4 (.nil) (.nil)) (.nil)) (.op 3 (.op 1 (.op 4 (.nil) (.nil)) (.nil)) (.nil))) (.nil))) (.op 1 (.op 0 (.op 2 (.op 3 (.op 4 (.nil) (.nil)) (.nil)) (.nil)) (.op 2 (.op 0 (.op 3 (.op 4 (.nil) (.nil)) (.nil)) (.nil)) (.nil))) (.op 2 (.op 0 (.op 1 (.op 3 (.op 4 (.nil) (.nil)) (.nil)) (.op 3 (.op 1 (.op 4 (.nil) (.nil)) (.nil)) (.nil))) (.op 1 (.op 0 (.op 3 (.op 4 (.nil) (.nil)) (.nil)) (.nil)) (.nil))) (.nil))):PT) (Exists.intro _ (And.intro (by decide +kernel) (And.intro (And.intro (And.intro (And.intro (And.intro (And.intro (rfl) (trivial)) (trivial)) (trivial)) (And.intro (And.intro (And.intro (And.intro (rfl) (trivial)) (trivial)) (And.intro (And.intro (And.intro (rfl) (trivial)) (trivial)) (trivial))) (trivial))) (And.intro (And.intro (And.intro (And.intro (And.intro (rfl) (trivial)) (trivial)) (trivial)) (And.intro (And.intro (And.intro (And.intro (rfl) (trivial)) (trivial)) (trivial)) (trivial))) (And.intro (And.intro (And.intro (And.intro (And.intro (rfl) (trivial)) (trivial)) (And.intro (And.intro (And.intro (rfl) (trivial)) (trivial)) (trivial))) (And.intro (And.intro (And.intro (And.intro (rfl) (trivial)) (trivial)) (trivial)) (trivial))) (trivial)))) ?_)))
  refine Qax (t:=Qcu) h ?_
  exact .tup (xs:=[.sl true [],iV x1.2.1,iV x1.2.2]) (ys:=[.sl false [],iV x1.2.1,iV x1.2.2]) (.cons (.not) (.cons (.refl _) (.cons (.refl _) (.nil))))
 ·refine And.intro rfl (And.intro rfl (And.intro rfl (And.intro rfl (And.intro rfl (And.intro rfl (And.intro rfl ?_))))))
  refine xle ?_
  refine Qbc _ _ _ h (fun x2 hy=>(Qix false false x1.1 0 (.inl x2) hy).a.fr [4] [] rfl rfl rfl) (fun z4 hy=>(Qix false false x1.1 0 (.inr z4) hy).b.fr [4] [] rfl rfl rfl) (fun x2 hy h=>?_) (fun z4 hy h=>?_)
  ·refine Qar [.sl false (x2.1.map Qae)] Qny h (fun x5 hy=>(Qx6 x2.1 x5 hy)) (fun x5 hy h=>?_)
   refine Qaf h (fun hb h=>?_) (fun hb h=>?_)
   ·refine Qax (t:=Qcu) h ?_
    exact .tup (xs:=[.sl true [],iV 0,iV 5]) (ys:=[.sl false [],iV 0,iV 5]) (.cons (.not) (.cons (.refl _) (.cons (.refl _) (.nil))))
   ·refine Qar [.sl false (x2.1.map Qae)] Qpz h (fun x6 hy=>(Qz7 x2.1 x6 hy)) (fun x6 hy h=>?_)
    refine Qaf h (fun hb h=>?_) (fun hb h=>?_)
    ·refine Qax (t:=Qcu) h ?_
     exact .tup (xs:=[.sl true [],iV 0,iV 8]) (ys:=[.sl false [],iV 0,iV 8]) (.cons (.not) (.cons (.refl _) (.cons (.refl _) (.nil))))
    ·refine Qax (t:=Qcu) h ?_
     exact .refl _
  ·refine And.intro rfl (And.intro rfl (And.intro rfl (And.intro rfl (And.intro rfl (And.intro rfl ?_)))))
   refine Qag _ _ h (fun x7 hy=>((Qn7 p0 x1.1 z4 x7 hy).fr [4] [] rfl rfl rfl)) (fun x7 hy h=>?_)
   refine And.intro rfl ?_
   refine Qax (t:=Qcu) h ?_
   exact .tup (xs:=[.sl true [],iV x7,iV 7]) (ys:=[.sl false [],iV x7,iV 7]) (.cons (.not) (.cons (.refl _) (.cons (.refl _) (.nil))))
noncomputable def Qc5:Option (Bool) :=
 Qej [123,123,32,105,102,32,120,46,121,32,125,125,97,123,123,32,101,110,100,32,125,125]>>=fun x1 =>
 Qej [123,123,32,101,110,100,32,125,125]>>=fun x2 =>
 Qej [123,123,32,105,102,32,120,32,125,125]>>=fun x3 =>
 ( if(x1.2.2==0) then
   if((x1.1.length:Int)==1) then
    idx x1.1 0>>=fun x5 =>
    if(x5.Kind==10) then
     idx x1.1 0>>=fun x6 =>
     if((x6.Then.length:Int)==1) then
      if(x2.2.2==7) then
       if(x2.2.1==3) then
        if(x3.2.2==7) then
         some (x3.2.1==10)
        else
         some false
       else
        some false
      else
       some false
     else
      some false
    else
     some false
   else
    some false
  else
   some false:Option (Bool))>>=fun o4 =>
 some o4
theorem Qpe:∀ (o:Bool),Qc5  = some o→PCall Tryz.prog 10 [] (Qgf o):=by
 intro o h
 unfold Qc5 at h
 refine PCall.ofB mixed tbOk Qo4 Tryz.func10 rfl (by kernel_rfl) (Nat.le_of_ble_eq_true rfl) ?_
 refine Qar [sV [123,123,32,105,102,32,120,46,121,32,125,125,97,123,123,32,101,110,100,32,125,125]] Qcu h (fun x1 hy=>(Qie [123,123,32,105,102,32,120,46,121,32,125,125,97,123,123,32,101,110,100,32,125,125] x1 hy)) (fun x1 hy h=>?_)
 refine Qar [sV [123,123,32,101,110,100,32,125,125]] Qcu h (fun x2 hy=>(Qie [123,123,32,101,110,100,32,125,125] x2 hy)) (fun x2 hy h=>?_)
 refine Qar [sV [123,123,32,105,102,32,120,32,125,125]] Qcu h (fun x3 hy=>(Qie [123,123,32,105,102,32,120,32,125,125] x3 hy)) (fun x3 hy h=>?_)
 refine Qai h (fun o4 ho hk=>?_)
 refine Exists.intro (JP1 _ _ o4 .normal (Qm1 )) (And.intro ?_ (join1 ?_))
 ·have h:=ho
  refine Qaf h (fun hb h=>?_) (fun hb h=>?_)
  ·refine view (lenMap _ _) rfl ?_
   refine Qaf h (fun hb h=>?_) (fun hb h=>?_)
   ·refine Qel (l:=x1.1) (c:=Qae) (c' := Qb1) h Qak (fun _=>rfl) (by decide) (fun x5 hi h=>?_)
    refine Qaf h (fun hb h=>?_) (fun hb h=>?_)
    ·refine Qel (l:=x1.1) (c:=Qae) (c' := Qb1) h Qak (fun _=>rfl) (by decide) (fun x6 hi h=>?_)
     refine view (lenMap _ _) rfl ?_
     refine Qaf h (fun hb h=>?_) (fun hb h=>?_)
     ·refine Qaf h (fun hb h=>?_) (fun hb h=>?_)
      ·refine Qaf h (fun hb h=>?_) (fun hb h=>?_)
       ·refine Qaf h (fun hb h=>?_) (fun hb h=>?_)
        ·refine JP1.a h ?_
         exact Le.tz 0 0 rfl rfl rfl
        ·refine JP1.a h ?_
         exact Le.tz 0 0 rfl rfl rfl
       ·refine bF ?_
        refine JP1.a h ?_
        exact Le.tz 0 0 rfl rfl rfl
      ·refine bF ?_
       refine bF ?_
       refine JP1.a h ?_
       exact Le.tz 0 0 rfl rfl rfl
     ·refine bF ?_
      refine bF ?_
      refine bF ?_
      refine JP1.a h ?_
      exact Le.tz 0 0 rfl rfl rfl
    ·refine bF ?_
     refine bF ?_
     refine bF ?_
     refine bF ?_
     refine JP1.a h ?_
     exact Le.tz 0 0 rfl rfl rfl
   ·refine bF ?_
    refine bF ?_
    refine bF ?_
    refine bF ?_
    refine bF ?_
    refine JP1.a h ?_
    exact Le.tz 0 0 rfl rfl rfl
  ·refine bF ?_
   refine bF ?_
   refine bF ?_
   refine bF ?_
   refine bF ?_
   refine bF ?_
   refine JP1.a h ?_
   exact Le.tz 0 0 rfl rfl rfl
 ·have h:=hk
  refine Qax (t:=Qgf) h ?_
  exact .refl _
noncomputable def Qci (p0:Int) (p1:Int) (p2:Bool):Option (Bool) :=
 (Qa5 p0 p1 p2 [] [] 0)>>=fun o1 =>
 need (o1.1.length+o1.2.length≤9223372036854775807)>>=fun _ =>
 appL 1 [] (s2b (o1.1++o1.2))>>=fun x2 =>
 (Qa6 p1 p2 x2 0)>>=fun o3 =>
 b2s o3>>=fun x5 =>
 ( if p2 then
   need (x5.length+[123,123,32,105,102,32,97,32,125,125].length≤9223372036854775807)>>=fun _ =>
   some (x5++[123,123,32,105,102,32,97,32,125,125])
  else
   some x5:Option ((List UInt8)))>>=fun o6 =>
 Qej o6>>=fun x7 =>
 Qln o6>>=fun x8 =>
 ( if(x7.2.2==x8.2.2) then
   if(x7.2.1==x8.2.1) then
    Qf6 x7.1 x8.1>>=fun x10 =>
    if x10 then
     Qc5>>=fun x11 =>
     some x11
    else
     some false
   else
    some false
  else
   some false:Option (Bool))>>=fun o9 =>
 some o9
theorem Qkg:∀ (p0:Int) (p1:Int) (p2:Bool) (o:Bool),Qci p0 p1 p2=some o→PCall Tryz.prog 4 [nV .u8 p0,nV .u16 p1,bV p2] (Qfv o):=by
 intro p0 p1 p2 o h
 unfold Qci at h
 refine PCall.ofB mixed tbOk Qdd Tryz.func4 rfl (by kernel_rfl) (Nat.le_of_ble_eq_true rfl) ?_
 refine Qai h (fun o1 ho hk=>?_)
 refine Exists.intro (JP1 _ _ o1 (.exit 0) (Qc1 p0 p1 p2)) (And.intro (T_le (τ := Qb9 p0 p1 p2 [] [] 0) ?_ (TL.loop (Qje p0 p1 p2 [] [] 0 o1 ho))) (join1 ?_))
 ·exact Le.tz 0 0 rfl rfl rfl
 have h:=hk
 refine Qkw h (fun h=>?_)
 refine Q65 (b:=(o1.1++o1.2)) h rfl (fun x2 hi h=>?_)
 refine Qai h (fun o3 ho hk=>?_)
 refine Exists.intro (JP1 _ _ o3 (.exit 2) (Qc2 p1 p2)) (And.intro (T_le (τ := Qca p1 p2 x2 0) ?_ (TL.loop (Qjf p1 p2 x2 0 o3 ho))) (join1 ?_))
 ·exact Le.tz 0 1 rfl rfl rfl
 have h:=hk
 refine Qzj (l:=o3) h (fun x5 hi h=>?_)
 refine Qai h (fun o6 ho hk=>?_)
 refine Exists.intro (JP1 _ _ o6 .normal (Qjp o3)) (And.intro ?_ (join1 ?_))
 ·have h:=ho
  refine Qaf h (fun hb h=>?_) (fun hb h=>?_)
  ·refine Qkw h (fun h=>?_)
   refine JP1.a h ?_
   exact Le.tz 0 1 rfl rfl rfl
  ·refine JP1.a h ?_
   exact Le.tz 0 1 rfl rfl rfl
 ·have h:=hk
  refine Qar [sV o6] Qcu h (fun x7 hy=>(Qie o6 x7 hy)) (fun x7 hy h=>?_)
  refine Qar [sV o6] Qe9 h (fun x8 hy=>(Qz5 o6 x8 hy)) (fun x8 hy h=>?_)
  refine Qai h (fun o9 ho hk=>?_)
  refine Exists.intro (JP1 _ _ o9 .normal (Qjq o3)) (And.intro ?_ (join1 ?_))
  ·have h:=ho
   refine Qaf h (fun hb h=>?_) (fun hb h=>?_)
   ·refine Qaf h (fun hb h=>?_) (fun hb h=>?_)
    ·refine Qar [.sl false (x7.1.map Qae),.sl false (x8.1.map Qae)] Qfn h (fun x10 hy=>(Q1l x7.1 x8.1 x10 hy)) (fun x10 hy h=>?_)
     refine Qaf h (fun hb h=>?_) (fun hb h=>?_)
     ·refine Qar [] Qgf h (fun x11 hy=>(Qpe x11 hy)) (fun x11 hy h=>?_)
      refine JP1.a h ?_
      exact Le.tz 0 1 rfl rfl rfl
     ·refine JP1.a h ?_
      exact Le.tz 0 1 rfl rfl rfl
    ·refine bF ?_
     refine JP1.a h ?_
     exact Le.tz 0 1 rfl rfl rfl
   ·refine bF ?_
    refine bF ?_
    refine JP1.a h ?_
    exact Le.tz 0 1 rfl rfl rfl
  ·have h:=hk
   refine Qax (t:=Qfv) h ?_
   exact .refl _
end Go.Proofs.YtagokkpnfceidaaGreatDoor
end

section
namespace Go.Proofs.YtagokkpnfceidaaGreatDoor
open Go.RowKit
mutual
def nn:Qaa→Nat
 | ⟨_,_,_,_,a,b,c⟩=>1+nns a+nns b+nns c
def nns:List Qaa→Nat
 | []=>0
 | x::r=>nn x+nns r
end
mutual
def dp:Qaa→Nat
 | ⟨_,_,_,_,a,b,c⟩=>1+max (dps a) (max (dps b) (dps c))
def dps:List Qaa→Nat
 | []=>0
 | x::r=>max (dp x) (dps r)
end
theorem nn_eq (x:Qaa):nn x=1+nns x.L+nns x.Then+nns x.Else:=by cases x; rw[nn]
theorem dp_eq (x:Qaa):dp x=1+max (dps x.L) (max (dps x.Then) (dps x.Else)):=by cases x; rw[dp]
theorem Q6w (x:Qaa):1≤nn x:=by rw[nn_eq]; omega
theorem Qmn:∀ l:List Qaa,l.length≤nns l
 | []=>by simp[nns]
 | x::r=>by have:=Qmn r; have:=Q6w x; simp[nns]; omega
theorem Quw:∀ {l:List Qaa} {x:Qaa},x ∈ l→nn x≤nns l
 | y::r,x,h=>by
  rcases List.mem_cons.1 h with rfl | h
  ·simp[nns]
  ·have:=Quw h; simp[nns]; omega
theorem Qx7:∀ a b:List Qaa,nns (a++b)=nns a+nns b
 | [],b=>by simp[nns]
 | x::r,b=>by simp[nns,Qx7 r b]; omega
mutual
def sameN:Qaa→Qaa→Bool
 | ⟨k,s,t,n,a,b,c⟩,y=>k==y.Kind&&(s==y.Name&&(t==y.Text&&(n==y.N&&(sameL a y.L&&(sameL b y.Then&&sameL c y.Else)))))
def sameL:List Qaa→List Qaa→Bool
 | [],m=>m.isEmpty
 | x::r,m=>match m with
  | []=>false
  | y::q=>sameN x y&&sameL r q
end
theorem Q2r (x y:Qaa):sameN x y=(x.Kind==y.Kind&&(x.Name==y.Name&&(x.Text==y.Text&&(x.N==y.N&&(sameL x.L y.L&&(sameL x.Then y.Then&&sameL x.Else y.Else)))))):=by cases x; rw[sameN]
theorem Q3y:∀ n (l:List Qaa),nns l≤n→sameL l l=true:=by
 intro n
 induction n with
 | zero=>intro l h; cases l with
  | nil=>simp[sameL]
  | cons x r=>have:=Q6w x; simp[nns] at h; omega
 | succ n ih =>
  intro l
  induction l with
  | nil=>intro _; simp[sameL]
  | cons x r ihr =>
   intro h
   rw[nns,nn_eq] at h
   rw[sameL,Q2r,ih _ (by omega:nns x.L≤n),ih _ (by omega:nns x.Then≤n),ih _ (by omega:nns x.Else≤n),ihr (by omega)]
   simp
theorem Qz8:∀ (a b:List Qaa),a.length≠b.length→sameL a b=false
 | [],[],h=>absurd rfl h
 | [],y::q,_=>by simp[sameL]
 | x::r,[],_=>by simp[sameL]
 | x::r,y::q,h=>by
  rw[sameL,Qz8 r q (by simpa using h)]
  simp
section
end
theorem neI (a b:Nat):((a:Int) != (b:Int))=(a != b):=by
 by_cases h:a=b
 ·subst h; simp
 ·have:(a:Int)≠b:=by omega
  rw[bne_iff_ne.2 h,bne_iff_ne.2 this]
section
variable (n:Nat) (ih:∀ a b:List Qaa,nns a≤n→Qf6 a b=some (sameL a b))
include ih
theorem rSameL (a b:List Qaa) (hl:a.length=b.length) (h:nns a≤n+1) (hlen:a.length<9223372036854775807):∀ k,k≤a.length →
  Qgn a b k=some (if sameL (a.drop k) (b.drop k) then .inl () else .inr ()):=by
 refine upto ?_ fun k hk ihk=>?_
 ·rw[Qgn]
  rw[hl,List.drop_length,← hl,List.drop_length]
  simp[sameL]
 ·have hk2:k<b.length:=by omega
  have hx:=Quw (List.getElem_mem hk)
  rw[nn_eq] at hx
  rw[Qgn,Qbx (by omega),ihk]
  simp only[ltI,hk,decide_true,if_true,Qb0,getE hk,getE hk2,Qad]
  rw[ih a[k].L b[k].L (by omega),ih a[k].Then b[k].Then (by omega),ih a[k].Else b[k].Else (by omega)]
  simp only[Qad]
  rw[dropE hk,dropE hk2,sameL,Q2r]
  have e:∀ p q:Int,(p != q) = !(p==q):=fun p q=>rfl
  simp only[e]
  cases (a[k].Kind==b[k].Kind)<;>cases (a[k].Name==b[k].Name)<;>cases (a[k].Text==b[k].Text)<;>cases (a[k].N==b[k].N)<;>cases (sameL a[k].L b[k].L)<;>cases (sameL a[k].Then b[k].Then)<;>cases (sameL a[k].Else b[k].Else)<;>rfl
end
theorem rSame:∀ n (a b:List Qaa),n<9223372036854775807→nns a≤n→Qf6 a b=some (sameL a b):=by
 intro n
 induction n with
 | zero =>
  intro a b _ h
  have ha:a=[]:=List.eq_nil_of_length_eq_zero (by have:=Qmn a; omega)
  subst ha
  rw[Qf6,neI]
  cases b with
  | nil=>rw[show(0:Int)=((0:Nat):Int) from rfl,Qgn]; simp[sameL]
  | cons y q=>simp[sameL]
 | succ n ih =>
  intro a b hn h
  rw[Qf6,neI]
  by_cases hl:a.length=b.length
  ·have:=rSameL n (fun a b=>ih a b (by omega)) a b hl h (by have:=Qmn a; omega) 0 (by omega)
   rw[show(0:Int)=((0:Nat):Int) from rfl,this]
   simp only[hl,bne_self_eq_false,Bool.false_eq_true,if_false,Qad,List.drop_zero]
   cases sameL a b<;>rfl
  ·rw[Qz8 a b hl,bne_iff_ne.2 hl]
   rfl
end Go.Proofs.YtagokkpnfceidaaGreatDoor
end

section
namespace Go.Proofs.YtagokkpnfceidaaGreatDoor
open Go.RowKit
def smallB (c:UInt8):Bool:=decide (97≤c.toNat)&&decide (c.toNat≤122)
def digB (c:UInt8):Bool:=decide (48≤c.toNat)&&decide (c.toNat≤57)
def letB (c:UInt8):Bool:=smallB c||(digB c||c.toNat==95)
def headB:List UInt8→Bool
 | []=>false
 | c::_=>decide (97≤c.toNat)
theorem Qry (c:UInt8) (r:List UInt8):headB (c::r)=decide (97≤c.toNat):=rfl
def wordP (s:List UInt8):Bool := !(s==[])&&(decide (s.length≤32)&&(headB s&&s.all letB))
theorem geN (n k:Nat):decide ((n:Int) ≥ (k:Int))=decide (k≤n):=by
 by_cases h:k≤n
 ·rw[decide_eq_true h,decide_eq_true (by omega:(n:Int) ≥ k)]
 ·rw[decide_eq_false h,decide_eq_false (by omega)]
theorem leN (n k:Nat):decide ((n:Int)≤(k:Int))=decide (n≤k):=by
 by_cases h:n≤k
 ·rw[decide_eq_true h,decide_eq_true (by omega:(n:Int)≤k)]
 ·rw[decide_eq_false h,decide_eq_false (by omega)]
theorem eqN (n k:Nat):((n:Int)==(k:Int))=(n==k):=by
 by_cases h:n=k
 ·subst h; simp
 ·rw[beq_eq_false_iff_ne.2 h,beq_eq_false_iff_ne.2 (by omega)]
theorem lDigit (c:UInt8):Qit (c.toNat:Int)=some (digB c):=by
 have a:=geN c.toNat 48
 have b:=leN c.toNat 57
 rw[Qit]
 rw[show(48:Int)=((48:Nat):Int) from rfl,show(57:Int)=((57:Nat):Int) from rfl,a,b,digB]
 cases decide (48≤c.toNat)<;>rfl
theorem rDigit (c:UInt8):Qfw (c.toNat:Int)=some (digB c):=by
 have a:=geN c.toNat 48
 have b:=leN c.toNat 57
 rw[Qfw]
 rw[show(48:Int)=((48:Nat):Int) from rfl,show(57:Int)=((57:Nat):Int) from rfl,a,b,digB]
 cases decide (48≤c.toNat)<;>rfl
theorem rSmall (c:UInt8):Qfx (c.toNat:Int)=some (smallB c):=by
 have a:=geN c.toNat 97
 have b:=leN c.toNat 122
 rw[Qfx]
 rw[show(97:Int)=((97:Nat):Int) from rfl,show(122:Int)=((122:Nat):Int) from rfl,a,b,smallB]
 cases decide (97≤c.toNat)<;>rfl
theorem lLetter (c:UInt8):Qh1 (c.toNat:Int)=some (letB c):=by
 have a:=geN c.toNat 97
 have b:=leN c.toNat 122
 have d:=eqN c.toNat 95
 rw[Qh1,lDigit]
 rw[show(97:Int)=((97:Nat):Int) from rfl,show(122:Int)=((122:Nat):Int) from rfl,show(95:Int)=((95:Nat):Int) from rfl,a,b,d,letB,smallB]
 simp only[Qad]
 cases decide (97≤c.toNat)<;>cases decide (c.toNat≤122)<;>cases digB c<;>cases (c.toNat==95)<;>rfl
theorem lWordL (s:List UInt8) (hs:s.length<9223372036854775807):∀ k,k≤s.length→Qfi s k=some (if(s.drop k).all letB then .inl () else .inr ()):=by
 refine upto ?_ fun k hk ih=>?_
 ·rw[Qfi]; simp
 ·rw[Qfi,Qbx (by omega),ih]
  simp only[ltI,hk,decide_true,if_true,Qb0,getE hk,Qad,lLetter]
  rw[dropE hk,List.all_cons]
  cases letB s[k]<;>rfl
theorem lWord (s:List UInt8) (hs:s.length<9223372036854775807):Qkv s=some (wordP s):=by
 have h:=lWordL s hs 0 (by omega)
 rw[Qkv,show(0:Int)=((0:Nat):Int) from rfl,h,List.drop_zero,wordP]
 have e:=leN s.length 32
 rw[show(32:Int)=((32:Nat):Int) from rfl,e]
 cases ha:s.all letB with
 | false=>cases (s==[])<;>cases decide (s.length≤32)<;>cases headB s<;>rfl
 | true =>
  cases s with
  | nil=>rfl
  | cons c r =>
   have g:=geN c.toNat 97
   rw[show(97:Int)=((97:Nat):Int) from rfl]
   simp only[if_true,Qad,Qb0,List.getElem?_cons_zero,g,Qry]
   have e0:((c::r)==([]:List UInt8))=false:=rfl
   rw[e0]
   cases decide ((c::r).length≤32)<;>simp
theorem letSmall {c:UInt8} (h:letB c=true):smallB c=decide (97≤c.toNat):=by
 unfold letB smallB digB at *
 by_cases h1:97≤c.toNat
 ·rw[decide_eq_true h1] at h ⊢
  simp at h ⊢
  omega
 ·rw[decide_eq_false h1]; rfl
theorem rWordL (s:List UInt8) (hs:s.length<9223372036854775807):∀ k,k≤s.length→Qfd s k=some (if(s.drop k).all letB then .inl () else .inr ()):=by
 refine upto ?_ fun k hk ih=>?_
 ·rw[Qfd]; simp
 ·have d:=eqN s[k].toNat 95
  rw[Qfd,Qbx (by omega),ih]
  simp only[ltI,hk,decide_true,if_true,Qb0,getE hk,Qad,rSmall,rDigit]
  rw[dropE hk,List.all_cons,letB]
  have e:(((s[k].toNat:Nat):Int) != 95) = !(s[k].toNat==95):=by rw[← d]; rfl
  rw[e]
  cases smallB s[k]<;>cases digB s[k]<;>cases (s[k].toNat==95)<;>rfl
theorem rWord (s:List UInt8) (hs:s.length<9223372036854775807):Qic s=some (wordP s):=by
 have h:=rWordL s hs 0 (by omega)
 rw[Qic,show(0:Int)=((0:Nat):Int) from rfl,h,List.drop_zero,wordP]
 cases s with
 | nil=>rfl
 | cons c r =>
  have e1:decide ((((c::r).length:Nat):Int)<1)=false:=decide_eq_false (by simp; omega)
  have e2:decide ((((c::r).length:Nat):Int)>32) = !(decide ((c::r).length≤32)):=by
   by_cases h:(c::r).length≤32
   ·rw[decide_eq_true h,decide_eq_false (by omega)]; rfl
   ·rw[decide_eq_false h,decide_eq_true (by omega)]; rfl
  simp only[e1,e2,Bool.false_eq_true,if_false,Qb0,List.getElem?_cons_zero,Qad,rSmall,Qry]
  have e0:((c::r)==([]:List UInt8))=false:=rfl
  rw[e0]
  cases ha:(c::r).all letB with
  | true =>
   have hl:letB c=true:=by rw[List.all_cons,Bool.and_eq_true] at ha; exact ha.1
   rw[letSmall hl]
   cases decide ((c::r).length≤32)<;>cases decide (97≤c.toNat)<;>rfl
  | false=>cases decide ((c::r).length≤32)<;>cases decide (97≤c.toNat)<;>cases smallB c<;>rfl
theorem Q1o (a b:List UInt8):s2b (a++b)=s2b a++s2b b:=by simp[s2b]
theorem Qlb (a:List UInt8):(s2b a).length=a.length:=by simp[s2b]
theorem Q5b (l:List UInt8):b2s (s2b l)=some l:=by
 unfold b2s s2b
 rw[if_pos]
 ·rw[List.map_map]
  congr 1
  have:∀ c:UInt8,((fun n:Int=>UInt8.ofNat n.toNat) ∘ fun c:UInt8=>(c.toNat:Int)) c=c:=fun c=>by simp
  rw[show((fun n:Int=>UInt8.ofNat n.toNat) ∘ fun c:UInt8=>(c.toNat:Int))=id from funext this,List.map_id]
 ·rw[List.all_eq_true]
  intro n hn
  obtain⟨c,-,rfl⟩:=List.mem_map.1 hn
  have:=c.toNat_lt
  simp only[decide_eq_true_eq]
  omega
end Go.Proofs.YtagokkpnfceidaaGreatDoor
end

section
namespace Go.Proofs.YtagokkpnfceidaaGreatDoor
open Go.RowKit
def kws:List (List UInt8):=[[105,102],[101,108,115,101],[101,110,100],[101,97,99,104],[105,110],[108,101,116],[117,115,101],[116,114,117,101],[102,97,108,115,101],[115,101,99,114,101,116]]
def nameP (s:List UInt8):Bool := !(kws.any (· == s))&&wordP s
theorem tName (s:List UInt8) (hs:s.length<9223372036854775807):Qn5 s=some (nameP s):=by
 have c:∀ a:List UInt8,(a==s)=(s==a):=fun a=>by rw[Bool.beq_comm]
 rw[Qn5,lWord s hs,nameP]
 simp only[kws,List.any_cons,List.any_nil,c]
 generalize (s==[105,102])=a1
 generalize (s==[101,108,115,101])=a2
 generalize (s==[101,110,100])=a3
 generalize (s==[101,97,99,104])=a4
 generalize (s==[105,110])=a5
 generalize (s==[108,101,116])=a6
 generalize (s==[117,115,101])=a7
 generalize (s==[116,114,117,101])=a8
 generalize (s==[102,97,108,115,101])=a9
 generalize (s==[115,101,99,114,101,116])=a10
 generalize wordP s=b
 cases a1
 ·cases a2
  ·cases a3
   ·cases a4
    ·cases a5
     ·cases a6
      ·cases a7
       ·cases a8
        ·cases a9
         ·cases a10<;>cases b<;>rfl
         ·rfl
        ·rfl
       ·rfl
      ·rfl
     ·rfl
    ·rfl
   ·rfl
  ·rfl
 ·rfl
theorem rNameL (s:List UInt8) (l:List (List UInt8)) (hl:l.length<9223372036854775807):∀ k,k≤l.length→Qee s l k=some (if(l.drop k).any (· == s) then .inr () else .inl ()):=by
 refine upto ?_ fun k hk ih=>?_
 ·rw[Qee]; simp
 ·rw[Qee,Qbx (by omega),ih]
  simp only[ltI,hk,decide_true,if_true,Qb0,getE hk,Qad]
  rw[dropE hk,List.any_cons]
  cases (l[k]==s)<;>rfl
theorem rName (s:List UInt8) (hs:s.length<9223372036854775807):Qjr s=some (nameP s):=by
 have h:=rNameL s kws (by decide) 0 (by omega)
 rw[Qjr,Qqz]
 simp only[Qad,rWord s hs]
 rw[show(0:Int)=((0:Nat):Int) from rfl]
 show(Qee s kws _>>=_)=_
 rw[h,List.drop_zero,nameP]
 cases kws.any (· == s)<;>rfl
def hasB:List UInt8→Bool
 | []=>false
 | c::r=>(c==123&&r.head? == some 123)||hasB r
def endB (s:List UInt8):Bool:=s.getLast? == some 123
end Go.Proofs.YtagokkpnfceidaaGreatDoor
end

section
namespace Go.Proofs.YtagokkpnfceidaaGreatDoor
open Go.RowKit
mutual
def allN (Q:Qaa→Prop):Qaa→Prop
 | ⟨k,s,t,n,a,b,c⟩=>Q ⟨k,s,t,n,a,b,c⟩∧allL Q a∧allL Q b∧allL Q c
def allL (Q:Qaa→Prop):List Qaa→Prop
 | []=>True
 | x::r=>allN Q x∧allL Q r
end
structure okNd (x:Qaa):Prop where
 nm:x.Name.length≤1000000
 tx:x.Text.length≤1000000
 rg : -9223372036854775808≤x.N∧x.N≤9223372036854775807
 qt:x.Kind=1→∃ q,Qqx x.Text=some q∧Qqx x.Text=some q
noncomputable def quoteP (s:List UInt8):List UInt8×Bool:=(Qqx s).getD ([],false)
def zl (l:List Qaa):Bool:=l.length==0
mutual
noncomputable def exprP:Qaa→Bool
 | ⟨k,s,t,n,a,b,c⟩ =>
  if k==1 then(quoteP t).2&&(s==[]&&(n==0&&(zl a&&(zl b&&zl c)))) else
  if k==2 then s==[]&&(t==[]&&(zl a&&(zl b&&zl c))) else
  if k==3 then(n==0||n==1)&&(s==[]&&(t==[]&&(zl a&&(zl b&&zl c)))) else
  if k==4 then nameP s&&(t==[]&&(n==0&&(zl a&&(zl b&&zl c)))) else
  if k==5 then wordP s&&(a.length==1&&(exprsP a&&(t==[]&&(n==0&&(zl b&&zl c))))) else
  if k==6 then nameP s&&(decide (a.length≤3)&&(exprsP a&&(t==[]&&(n==0&&(zl b&&zl c))))) else
  if k==7 then wordP s&&(t==[]&&(n==0&&(zl a&&(zl b&&zl c)))) else false
noncomputable def exprsP:List Qaa→Bool
 | []=>true
 | x::r=>exprP x&&exprsP r
end
section
end
section
variable (n:Nat) (ih:∀ x:Qaa,nn x≤n→allN okNd x→Q2p x=some (exprP x))
include ih
end
def litB:List Qaa→Bool
 | []=>false
 | x::_=>x.Kind==8
def badSt (x:Qaa) (r:List Qaa) (inn:Bool):Bool:=x.Kind==8&&(litB r||((!r.isEmpty||inn)&&endB x.Text))
mutual
noncomputable def stmtP:Qaa→Bool
 | ⟨k,s,t,n,a,b,c⟩ =>
  if k==8 then !(t==[])&&(!(hasB t)&&(s==[]&&(n==0&&(zl a&&(zl b&&zl c))))) else
  if k==9 then(a.length==1&&exprsP a)&&(s==[]&&(t==[]&&(n==0&&(zl b&&zl c)))) else
  if k==10 then(a.length==1&&exprsP a)&&((blockP b true&&blockP c true)&&(s==[]&&(t==[]&&n==0))) else
  if k==11||k==12 then nameP s&&((a.length==1&&exprsP a)&&(blockP b true&&(t==[]&&(n==0&&zl c)))) else
  if k==13 then nameP s&&((a.length==1&&exprsP a)&&(t==[]&&(n==0&&(zl b&&zl c)))) else false
noncomputable def blockP:List Qaa→Bool→Bool
 | [],_=>true
 | x::r,inn=>stmtP x&&(!(badSt x r inn)&&blockP r inn)
end
end Go.Proofs.YtagokkpnfceidaaGreatDoor
end

section
namespace Go.Proofs.YtagokkpnfceidaaGreatDoor
open Go.RowKit
def maxD (l:List (Qaa×Int)) (m:Int):Int:=l.foldl (fun m x=>if x.2>m then x.2 else m) m
theorem Qs8 (a b:List (Qaa×Int)) (m:Int):maxD (a++b) m=maxD b (maxD a m):=by unfold maxD; rw[List.foldl_append]
theorem tDeepL (x1:List Qaa×Int):∀ (l:List (Qaa×Int)) (m:Int),Qd7 x1 l m=some (maxD l m)
 | [],m=>by rw[Qd7]; rfl
 | x::r,m=>by rw[Qd7,tDeepL x1 r]; rfl
theorem tCountL (x1:List Qaa×Int):∀ (l:List (Qaa×Int)) (m:Nat),m+l.length<9223372036854775807→Qdm x1 l m=some ((m+l.length:Nat):Int)
 | [],m,_=>by rw[Qdm]; rfl
 | x::r,m,h=>by
  simp at h
  rw[Qdm,Qbx (by omega),tCountL x1 r (m+1) (by omega)]
  simp; omega
theorem tAll3 (p0:List Qaa) (p1 v12:Int) (x3:Qaa) (v28:Int) (x7:List Qaa×Int):∀ l:List (Qaa×Int),Qdn p0 p1 v12 x3 v28 x7 l=some (l,())
 | []=>by rw[Qdn]
 | x::r=>by
  obtain⟨⟨k,s,t,n,a,b,c⟩,d⟩:=x
  rw[Qdn,tAll3 p0 p1 v12 x3 v28 x7 r]; rfl
def AllIs (d:Nat) (k dep:Nat) (o:Option (List (Qaa×Int)×Unit)):Prop:=∃ out,o=some (out,())∧out.length=k∧∀ m:Int,(d:Int)-1≤m→maxD out m=max m ((d:Int)-1+dep)
section
variable (n:Nat) (ih:∀ (l:List Qaa) (d:Nat),nns l≤n→n+d≤1000000000→AllIs d (nns l) (dps l) (Qet l d))
include ih
theorem tAll2 (l:List Qaa) (d:Nat) (v:Int) (x:Qaa) (hx:nn x≤n+1) (hd:n+1+d≤1000000000) :
  AllIs (d+1) (nns x.L+nns x.Then+nns x.Else) (max (dps x.L) (max (dps x.Then) (dps x.Else))) (Qcc l d v x 0):=by
 rw[nn_eq] at hx
 have ed:wr ((d:Int)+1)=((d+1:Nat):Int):=Qbx (by omega)
 obtain⟨o1,a1,a2,a3⟩:=ih x.L (d+1) (by omega) (by omega)
 obtain⟨o2,b1,b2,b3⟩:=ih x.Then (d+1) (by omega) (by omega)
 obtain⟨o3,c1,c2,c3⟩:=ih x.Else (d+1) (by omega) (by omega)
 have s3:Qcc l d v x 3=some ([],()):=by rw[Qcc]; rfl
 have s2:Qcc l d v x 2=some (o3++[],()):=by
  rw[Qcc]
  have e:wr ((2:Int)+1)=3:=by rw[wr_in (by omega) (by omega)]; rfl
  have g:idx ([x.L,x.Then,x.Else]:List (List Qaa)) 2=some x.Else:=Q06 _ 2
  rw[g,e,s3]
  simp only[Qad,Qid,ed,c1,tAll3,show decide ((2:Int)<3)=true from rfl,if_true]
 have s1:Qcc l d v x 1=some (o2++(o3++[]),()):=by
  rw[Qcc]
  have e:wr ((1:Int)+1)=2:=by rw[wr_in (by omega) (by omega)]; rfl
  have g:idx ([x.L,x.Then,x.Else]:List (List Qaa)) 1=some x.Then:=Q06 _ 1
  rw[g,e,s2]
  simp only[Qad,Qid,ed,b1,tAll3,show decide ((1:Int)<3)=true from rfl,if_true]
 have s0:Qcc l d v x 0=some (o1++(o2++(o3++[])),()):=by
  rw[Qcc]
  have e:wr ((0:Int)+1)=1:=by rw[wr_in (by omega) (by omega)]; rfl
  have g:idx ([x.L,x.Then,x.Else]:List (List Qaa)) 0=some x.L:=Q06 _ 0
  rw[g,e,s1]
  simp only[Qad,Qid,ed,a1,tAll3,show decide ((0:Int)<3)=true from rfl,if_true]
 refine⟨_,s0,by simp; omega,fun m hm=>?_⟩
 rw[List.append_nil,Qs8,Qs8,a3 m hm,b3 _ (by omega),c3 _ (by omega)]
 omega
theorem tAll1 (l:List Qaa) (d:Nat) (hl:nns l≤n+1) (hd:n+1+d≤1000000000):∀ k,k≤l.length→AllIs d (nns (l.drop k)) (dps (l.drop k)) (Qei l d k):=by
 have hlen:=Qmn l
 refine upto ?_ fun k hk ihk=>?_
 ·rw[Qei,List.drop_length]
  refine⟨[],by simp,by simp[nns],fun m hm=>?_⟩
  simp[maxD,dps]; omega
 ·have hx:=Quw (List.getElem_mem hk)
  obtain⟨o1,a1,a2,a3⟩:=tAll2 n ih l d k l[k] (by omega) hd
  obtain⟨o2,b1,b2,b3⟩:=ihk
  rw[Qei,Qbx (by omega)]
  simp only[ltI,hk,decide_true,if_true,Qb0,getE hk,Qad,a1,b1]
  rw[dropE hk]
  refine⟨_,rfl,?_,fun m hm=>?_⟩
  ·simp[nns,nn_eq,a2,b2]; omega
  ·show maxD ([(l[k],(d:Int))]++(o1++o2)) m=_
   have e0:maxD [(l[k],(d:Int))] m=max m d:=by
    show(if(d:Int)>m then(d:Int) else m)=_
    split<;>omega
   rw[Qs8,Qs8,e0,a3 _ (by omega),b3 _ (by omega),dps,dp_eq]
   omega
end
theorem tAll:∀ n (l:List Qaa) (d:Nat),nns l≤n→n+d≤1000000000→AllIs d (nns l) (dps l) (Qet l d):=by
 intro n
 induction n with
 | zero =>
  intro l d h _
  have hl:l=[]:=List.eq_nil_of_length_eq_zero (by have:=Qmn l; omega)
  subst hl
  rw[Qet,Qei]
  refine⟨[],by simp,by simp[nns],fun m hm=>?_⟩
  simp[maxD,dps]; omega
 | succ n ih =>
  intro l d h hd
  obtain⟨o,a1,a2,a3⟩:=tAll1 n ih l d h hd 0 (by omega)
  rw[List.drop_zero] at a2 a3
  refine⟨o,?_,a2,a3⟩
  rw[Qet,show(0:Int)=((0:Nat):Int) from rfl,a1]
  simp
theorem tDeep (l:List Qaa) (h:nns l≤900000000):Qn8 l=some (dps l:Int):=by
 obtain⟨o,a1,a2,a3⟩:=tAll 900000000 l 1 h (by omega)
 rw[Qn8,Qid]
 simp only[Qad]
 rw[show(1:Int)=((1:Nat):Int) from rfl,a1]
 simp only[Qad,tDeepL]
 rw[a3 0 (by omega)]
 congr 1
 omega
theorem tCount (l:List Qaa) (h:nns l≤900000000):Qlq l=some (nns l:Int):=by
 obtain⟨o,a1,a2,a3⟩:=tAll 900000000 l 1 h (by omega)
 have:=tCountL (l,((1:Nat):Int)) o 0 (by omega)
 rw[Qlq,Qid]
 simp only[Qad]
 rw[show(1:Int)=((1:Nat):Int) from rfl,a1]
 simp only[Qad]
 rw[show(0:Int)=((0:Nat):Int) from rfl,this]
 simp[a2]
theorem Q5c:∀ m (l:List Qaa),nns l≤m→dps l≤nns l:=by
 intro m
 induction m with
 | zero =>
  intro l h
  have hl:l=[]:=List.eq_nil_of_length_eq_zero (by have:=Qmn l; omega)
  subst hl; simp[dps]
 | succ m ihm =>
  intro l
  induction l with
  | nil=>intro _; simp[dps]
  | cons x r ihr =>
   intro h
   rw[nns,nn_eq] at h
   have h1:=ihm x.L (by omega)
   have h2:=ihm x.Then (by omega)
   have h3:=ihm x.Else (by omega)
   have h4:=ihr (by omega)
   rw[dps,dp_eq,nns,nn_eq]
   omega
section
variable (n:Nat) (hn:n≤900000000) (ih:∀ l:List Qaa,nns l≤n→Qha l=some (dps l:Int)∧Qff l=some (nns l:Int))
include hn ih
theorem rDeepL (l:List Qaa) (h:nns l≤n+1):∀ k,k≤l.length→∀ v:Nat,v≤1000000000→Qgm l v k=some ((max v (dps (l.drop k)):Nat):Int):=by
 have hl:=Qmn l
 refine upto ?_ fun k hk ihk=>?_
 ·intro v _; rw[Qgm]; simp[dps]
 ·intro v hv
  have hx:=Quw (List.getElem_mem hk)
  rw[nn_eq] at hx
  have d1:=Q5c _ l[k].L (Nat.le_refl _)
  have d2:=Q5c _ l[k].Then (Nat.le_refl _)
  have d3:=Q5c _ l[k].Else (Nat.le_refl _)
  have em:(if(dps l[k].Else:Int)>(if(dps l[k].Then:Int)>(dps l[k].L:Int) then(dps l[k].Then:Int) else(dps l[k].L:Int)) then(dps l[k].Else:Int) else(if(dps l[k].Then:Int)>(dps l[k].L:Int) then(dps l[k].Then:Int) else(dps l[k].L:Int)))=((max (dps l[k].L) (max (dps l[k].Then) (dps l[k].Else)):Nat):Int):=by
   split<;>split at * <;> omega
  rw[Qgm,Qbx (by omega)]
  simp only[ltI,hk,decide_true,if_true,Qb0,getE hk,Qad,(ih l[k].L (by omega)).1,(ih l[k].Then (by omega)).1,(ih l[k].Else (by omega)).1]
  rw[em]
  have ew:wr (1+((max (dps l[k].L) (max (dps l[k].Then) (dps l[k].Else)):Nat):Int))=((dp l[k]:Nat):Int):=by
   rw[wr_in (by omega) (by omega),dp_eq]; omega
  rw[ew]
  have ei:(if((dp l[k]:Nat):Int)>(v:Int) then((dp l[k]:Nat):Int) else(v:Int))=((max v (dp l[k]):Nat):Int):=by split<;>omega
  have hdp:dp l[k]≤1000000000:=by rw[dp_eq]; omega
  rw[ei,ihk (max v (dp l[k])) (by omega),dropE hk,dps]
  congr 2
  omega
theorem rCountL (l:List Qaa) (h:nns l≤n+1):∀ k,k≤l.length→∀ v:Nat,v+nns (l.drop k)≤1000000000→Qfg l v k=some ((v+nns (l.drop k):Nat):Int):=by
 have hl:=Qmn l
 refine upto ?_ fun k hk ihk=>?_
 ·intro v _; rw[Qfg]; simp[nns]
 ·intro v hv
  have hx:=Quw (List.getElem_mem hk)
  rw[nn_eq] at hx
  rw[dropE hk,nns,nn_eq] at hv
  rw[Qfg,Qbx (i:=k) (by omega)]
  simp only[ltI,hk,decide_true,if_true,Qb0,getE hk,Qad,(ih l[k].L (by omega)).2,(ih l[k].Then (by omega)).2,(ih l[k].Else (by omega)).2]
  have ew:wr ((wr ((wr ((wr ((v:Int)+1))+(nns l[k].L:Int)))+(nns l[k].Then:Int)))+(nns l[k].Else:Int))=((v+nn l[k]:Nat):Int):=by
   rw[wr_in (n:=(v:Int)+1) (by omega) (by omega),wr_in (n:=(v:Int)+1+(nns l[k].L:Int)) (by omega) (by omega),wr_in (n:=(v:Int)+1+(nns l[k].L:Int)+(nns l[k].Then:Int)) (by omega) (by omega),wr_in (by omega) (by omega),nn_eq]
   omega
  rw[ew,ihk (v+nn l[k]) (by rw[nn_eq]; omega),dropE hk,nns]
  congr 2
  omega
end
theorem rDC:∀ n (l:List Qaa),n≤900000000→nns l≤n→Qha l=some (dps l:Int)∧Qff l=some (nns l:Int):=by
 intro n
 induction n with
 | zero =>
  intro l _ h
  have hl:l=[]:=List.eq_nil_of_length_eq_zero (by have:=Qmn l; omega)
  subst hl
  rw[Qha,Qff,Qgm,Qfg]
  simp[dps,nns]
 | succ n ih =>
  intro l hn h
  have h1:=rDeepL n (by omega) (fun l hl=>ih l (by omega) hl) l h 0 (by omega) 0 (by omega)
  have h2:=rCountL n (by omega) (fun l hl=>ih l (by omega) hl) l h 0 (by omega) 0 (by rw[List.drop_zero]; omega)
  rw[Qha,Qff,show(0:Int)=((0:Nat):Int) from rfl,h1,h2]
  simp
end Go.Proofs.YtagokkpnfceidaaGreatDoor
end

section
namespace Go.Proofs.YtagokkpnfceidaaGreatDoor
open Go.RowKit
set_option linter.unusedSimpArgs false
set_option linter.unusedVariables false
abbrev Tk0:Qac:=⟨0,[],0,0,0⟩
def hd (l:List Qac):Qac:=l.headD Tk0
def kd (l:List Qac):Int:=(hd l).Kind
@[simp] theorem Q7j:hd []=Tk0:=rfl
@[simp] theorem Q7b (t:Qac) (r:List Qac):hd (t::r)=t:=rfl
@[simp] theorem Q7h:kd []=0:=rfl
@[simp] theorem Q7i (t:Qac) (r:List Qac):kd (t::r)=t.Kind:=rfl
inductive Rs (α : Type) where
 | ok (x : α) (l:List Qac)
 | bad (l:List Qac)
def Rs.bind {α β : Type} (r:Rs α) (f : α → List Qac→Rs β):Rs β := match r with
 | .ok x l=>f x l
 | .bad l =>.bad l
def isW (w:List UInt8) (l:List Qac):Bool:=kd l==4&&(hd l).Text==w
def want (k:Int) (l:List Qac):Rs Qac:=if kd l=k then .ok (hd l) l.tail else .bad l
def wantW (w:List UInt8) (l:List Qac):Rs Unit:=if isW w l=true then .ok () l.tail else .bad l
def nameR (l:List Qac):Rs (List UInt8):=if kd l=4∧nameP (hd l).Text=true then .ok (hd l).Text l.tail else .bad l
def endW (w:List UInt8) (l:List Qac):Rs Unit:=(want 2 l).bind fun _ l1=>(wantW w l1).bind fun _ l2=>(want 3 l2).bind fun _ l3 =>.ok () l3
def ahead (w:List UInt8) (l:List Qac):Bool:=kd l==2&&isW w l.tail
abbrev wIf:List UInt8:=[105,102]
abbrev wElse:List UInt8:=[101,108,115,101]
abbrev wEnd:List UInt8:=[101,110,100]
abbrev wEach:List UInt8:=[101,97,99,104]
abbrev wIn:List UInt8:=[105,110]
abbrev wLet:List UInt8:=[108,101,116]
abbrev wUse:List UInt8:=[117,115,101]
abbrev wTrue:List UInt8:=[116,114,117,101]
abbrev wFalse:List UInt8:=[102,97,108,115,101]
abbrev wSecret:List UInt8:=[115,101,99,114,101,116]
def secretR (l:List Qac):Rs Qaa:=(want 8 l).bind fun _ l1 =>
 if kd l1=5∧wordP (hd l1).Text=true then(want 9 l1.tail).bind fun _ l2 =>.ok ⟨7,(hd l1).Text,[],0,[],[],[]⟩ l2 else .bad l1
def argsR (E:List Qac→Rs Qaa) (l:List Qac):Rs (List Qaa) :=
 if kd l=9 then .ok [] l.tail else(E l).bind fun x1 l1 =>
  if kd l1=10 then(E l1.tail).bind fun x2 l2 =>
   if kd l2=10 then(E l2.tail).bind fun x3 l3=>(want 9 l3).bind fun _ l4 =>.ok [x1,x2,x3] l4
   else(want 9 l2).bind fun _ l4 =>.ok [x1,x2] l4
  else(want 9 l1).bind fun _ l4 =>.ok [x1] l4
def firstR (E:List Qac→Rs Qaa) (l:List Qac):Rs Qaa :=
 if kd l=5 then .ok ⟨1,[],(hd l).Text,0,[],[],[]⟩ l.tail
 else if kd l=6 then .ok ⟨2,[],[],(hd l).N,[],[],[]⟩ l.tail
 else if isW wTrue l=true then .ok ⟨3,[],[],1,[],[],[]⟩ l.tail
 else if isW wFalse l=true then .ok ⟨3,[],[],0,[],[],[]⟩ l.tail
 else if isW wSecret l=true then secretR l.tail
 else(nameR l).bind fun s l1=>if kd l1=8 then(argsR E l1.tail).bind fun xs l2 =>.ok ⟨6,s,[],0,xs,[],[]⟩ l2 else .ok ⟨4,s,[],0,[],[],[]⟩ l1
def dotsR:Nat→Qaa→List Qac→Rs Qaa
 | 0,x,l =>.ok x l
 | n+1,x,l=>if kd l=7 then(want 4 l.tail).bind fun t l2=>dotsR n ⟨5,t.Text,[],0,[x],[],[]⟩ l2 else .ok x l
def exprR:Nat→List Qac→Rs Qaa
 | 0,l =>.bad l
 | f+1,l=>(firstR (exprR f) l).bind fun x l1=>dotsR l1.length x l1
def ex20 (l:List Qac):Rs Qaa:=exprR (l.length+1) l
def closedR (l:List Qac):Rs Qaa:=(ex20 l).bind fun x l1=>(want 3 l1).bind fun _ l2 =>.ok x l2
def addLit (out:List Qaa) (s:List UInt8):List Qaa:=match out.getLast? with
 | some x=>if x.Kind=8 then out.set (out.length-1) ⟨x.Kind,x.Name,x.Text++s,x.N,x.L,x.Then,x.Else⟩ else out++[⟨8,[],s,0,[],[],[]⟩]
 | none=>out++[⟨8,[],s,0,[],[],[]⟩]
def actR (B:Bool→Bool→List Qac→Rs (List Qaa)) (l:List Qac):Rs Qaa :=
 if isW wIf l=true then(closedR l.tail).bind fun x l1=>(B true true l1).bind fun y l2 =>
  if ahead wElse l2=true then(endW wElse l2).bind fun _ l3=>(B true false l3).bind fun z l4=>(endW wEnd l4).bind fun _ l5 =>.ok ⟨10,[],[],0,[x],y,z⟩ l5
  else(endW wEnd l2).bind fun _ l5 =>.ok ⟨10,[],[],0,[x],y,[]⟩ l5
 else if isW wEach l=true then(nameR l.tail).bind fun s l1=>(wantW wIn l1).bind fun _ l2=>(closedR l2).bind fun x l3=>(B true false l3).bind fun y l4=>(endW wEnd l4).bind fun _ l5 =>.ok ⟨11,s,[],0,[x],y,[]⟩ l5
 else if isW wLet l=true then(nameR l.tail).bind fun s l1=>(want 11 l1).bind fun _ l2=>(closedR l2).bind fun x l3=>(B true false l3).bind fun y l4=>(endW wEnd l4).bind fun _ l5 =>.ok ⟨12,s,[],0,[x],y,[]⟩ l5
 else if isW wUse l=true then(nameR l.tail).bind fun s l1=>(closedR l1).bind fun x l2 =>.ok ⟨13,s,[],0,[x],[],[]⟩ l2
 else(closedR l).bind fun x l2 =>.ok ⟨9,[],[],0,[x],[],[]⟩ l2
def loopR:Nat→Bool→Bool→List Qaa→List Qac→Rs (List Qaa)
 | 0,_,_,_,l =>.bad l
 | f+1,i,o,out,l=>if l=[] then .ok out l else
  if kd l=1 then loopR f i o (addLit out (hd l).Text) l.tail
  else if((i&&ahead wEnd l)||(o&&ahead wElse l))=true then .ok out l
  else if kd l=2 then
   (if kd l.tail=3 then loopR f i o out l.tail.tail else(actR (fun i o l=>loopR f i o [] l) l.tail).bind fun x l2=>loopR f i o (out++[x]) l2)
  else .bad l
def bl20 (i o:Bool) (l:List Qac):Rs (List Qaa):=loopR (l.length+1) i o [] l
end Go.Proofs.YtagokkpnfceidaaGreatDoor
end

section
namespace Go.Proofs.YtagokkpnfceidaaGreatDoor
open Go.RowKit
set_option linter.unusedSimpArgs false
set_option linter.unusedVariables false
def pos (L l:List Qac):Int:=((L.length-l.length:Nat):Int)
structure Toks (L:List Qac):Prop where
 len:L.length≤200000
 sum:(L.map (·.Text.length)).sum≤200000
theorem Q5d {t:Qac}:∀ {L:List Qac},t ∈ L→t.Text.length≤(L.map (·.Text.length)).sum
 | x::r,h=>by
  rw[List.map_cons,List.sum_cons]
  rcases List.mem_cons.1 h with rfl | h
  ·omega
  ·have:=Q5d h; omega
theorem Q6k {L l:List Qac} (h:l <:+ L):L.drop (L.length-l.length)=l:=by
 obtain⟨p,rfl⟩:=h
 simp
theorem Qa8 {L l:List Qac} (h:l <:+ L):l.tail <:+ L:=(List.tail_suffix l).trans h
theorem Qx8 {L l:List Qac} (hL:Toks L) (h:l <:+ L):(hd l).Text.length≤200000:=by
 cases l with
 | nil=>simp[hd]
 | cons t r=>have:=Q5d (h.subset (List.mem_cons_self)); have:=hL.sum; simp only[Q7b]; omega
theorem Qmo {L l:List Qac} (hL:Toks L) (h:l <:+ L) (hne:l≠[]):wr (pos L l+1)=pos L l.tail:=by
 have h1:=h.length_le
 have h2:=hL.len
 have h3:0<l.length:=List.length_pos_iff.2 hne
 unfold pos
 rw[Qbx (by omega),List.length_tail]
 congr 1; omega
theorem Qn9 {L l:List Qac} (h:l <:+ L) (hne:l≠[]):(pos L l==(L.length:Int))=false∧idx L (pos L l)=some (hd l)∧decide (pos L l<(L.length:Int))=true:=by
 have h1:=h.length_le
 have h3:0<l.length:=List.length_pos_iff.2 hne
 refine⟨?_,?_,?_⟩
 ·unfold pos; simp; omega
 ·unfold pos
  rw[Qb0]
  have:=Q6k h
  have e:L[L.length-l.length]? = (L.drop (L.length-l.length)).head? := by simp[List.head?_drop]
  rw[e,this]
  cases l with
  | nil=>exact absurd rfl hne
  | cons t r=>rfl
 ·unfold pos; simp; omega
theorem Qqa (L:List Qac):pos L []=(L.length:Int):=by simp[pos]
theorem kd_ne {l:List Qac} {k:Int} (hk:k≠0) (h:kd l=k):l≠[]:=fun e=>by subst e; exact hk h.symm
theorem Qd2 {l:List Qac} {w:List UInt8} (h:isW w l=true):l≠[]:=fun e=>by subst e; simp[isW] at h
section
variable {L l:List Qac} (hL:Toks L) (h:l <:+ L)
include hL h
theorem pNext:Qbb L (pos L l)=some (hd l):=by
 have _:=hL
 unfold Qbb
 by_cases hne:l=[]
 ·subst hne; simp[Qqa]
 ·obtain⟨h1,h2,-⟩:=Qn9 h hne
  rw[h1,h2]; rfl
theorem pSign (k:Int) (hk:k≠0):Qbo k L (pos L l)=some (if kd l=k then(true,pos L l.tail) else(false,pos L l)):=by
 unfold Qbo
 rw[pNext hL h]
 by_cases hkd:kd l=k
 ·have:((hd l).Kind != k)=false:=by simpa [kd] using hkd
  simp only[Qad,this,if_pos hkd,Qmo hL h (kd_ne hk hkd)]; rfl
 ·have:((hd l).Kind != k)=true:=by simpa [kd] using hkd
  simp only[Qad,this,if_neg hkd]; rfl
theorem pWant (k:Int) (hk:k≠0):Qaq k L (pos L l)=some (if kd l=k then .inl (hd l,pos L l.tail) else .inr ()):=by
 unfold Qaq Qa0
 rw[pNext hL h]
 by_cases hkd:kd l=k
 ·have:((hd l).Kind==k)=true:=by simpa [kd] using hkd
  simp only[Qad,this,mustO,if_pos hkd,Qmo hL h (kd_ne hk hkd)]; rfl
 ·have:((hd l).Kind==k)=false:=by simpa [kd] using hkd
  simp only[Qad,this,mustO,if_neg hkd]; rfl
theorem pWord (w:List UInt8):Qau w L (pos L l)=some (if isW w l=true then(true,pos L l.tail) else(false,pos L l)):=by
 unfold Qau
 rw[pNext hL h]
 by_cases hw:isW w l=true
 ·have h4:(hd l).Kind=4∧(hd l).Text=w:=by simpa [isW,kd] using hw
  simp[h4.1,h4.2,hw,Qmo hL h (Qd2 hw)]
 ·rw[if_neg hw]
  have hw' : isW w l=false:=by simpa using hw
  by_cases h4:(hd l).Kind=4
  ·have:((hd l).Text==w)=false:=by simpa [isW,kd,h4] using hw'
   simp[h4,this]
  ·simp[h4]
theorem pName:Qcf L (pos L l)=some (match nameR l with | .ok s r =>.inl (s,pos L r) | .bad _ =>.inr ()):=by
 unfold Qcf Qa0 nameR
 have ht:=Qx8 hL h
 rw[pNext hL h,Qad,tName _ (by omega),Qad,pWant hL h 4 (by decide)]
 by_cases hn:nameP (hd l).Text=true
 ·by_cases hk:kd l=4
  ·simp[hn,hk,mustO]
  ·simp[hn,hk,mustO]
 ·simp[hn,mustO]
end
def cP {α : Type} (L:List Qac):Rs α → (α × Int)⊕Int
 | .ok x l =>.inl (x,pos L l)
 | .bad l =>.inr (pos L l)
def Suf {α : Type} (l:List Qac):Rs α → Prop
 | .ok _ l' => l' <:+ l∧l'.length<l.length
 | .bad l' => l' <:+ l
theorem Qb8 {l:List Qac} (h:l≠[]):l.tail.length<l.length:=by
 have:=List.length_pos_iff.2 h
 rw[List.length_tail]; omega
theorem Suf.mono {α : Type} {l l' : List Qac} {r:Rs α} (h:Suf l' r) (hs:l' <:+ l):Suf l r:=by
 have:=hs.length_le
 cases r with
 | ok x l2=>exact⟨h.1.trans hs,by have:=h.2; omega⟩
 | bad l2=>exact List.IsSuffix.trans h hs
theorem Suf.bind {α β : Type} {l:List Qac} {r:Rs α} {f : α → List Qac→Rs β} (h:Suf l r) (hf:∀ x l', r = .ok x l' → Suf l' (f x l')∨∃ y,f x l' = .ok y l'):Suf l (r.bind f):=by
 cases r with
 | ok x l' =>
  rcases hf x l' rfl with k | ⟨y,k⟩
  ·exact k.mono h.1
  ·show Suf l (f x l'); rw[k]; exact h
 | bad l' => exact h
theorem Qf8 {k:Int} (hk:k≠0) (l:List Qac):Suf l (want k l):=by
 unfold want
 split
 ·rename_i h; exact⟨List.tail_suffix l,Qb8 (kd_ne hk h)⟩
 ·exact List.suffix_refl l
theorem Qq4 (w:List UInt8) (l:List Qac):Suf l (wantW w l):=by
 unfold wantW
 split
 ·rename_i h; exact⟨List.tail_suffix l,Qb8 (Qd2 h)⟩
 ·exact List.suffix_refl l
theorem Qer (l:List Qac):Suf l (nameR l):=by
 unfold nameR
 split
 ·rename_i h; exact⟨List.tail_suffix l,Qb8 (kd_ne (by decide) h.1)⟩
 ·exact List.suffix_refl l
theorem Qx9 (w:List UInt8) (l:List Qac):Suf l (endW w l) :=
 Suf.bind (Qf8 (by decide) l) fun _ l1 _ =>.inl (Suf.bind (Qq4 w l1) fun _ l2 _ =>.inl (Suf.bind (Qf8 (by decide) l2) fun _ l3 _ =>.inr ⟨_,rfl⟩))
theorem Qif {α : Type} {l:List Qac} {f:Rs α} (h:Suf l.tail f):Suf l f:=h.mono (List.tail_suffix l)
theorem Q1p (l:List Qac):Suf l (secretR l):=Suf.bind (Qf8 (by decide) l) fun _ l1 _ =>.inl (by
 split
 ·exact Qif (Suf.bind (Qf8 (by decide) _) fun _ _ _ =>.inr ⟨_,rfl⟩)
 ·exact List.suffix_refl l1)
theorem Q5e {E:List Qac→Rs Qaa} (hE:∀ l,Suf l (E l)) (l:List Qac):Suf l (argsR E l):=by
 unfold argsR
 split
 ·rename_i h; exact⟨List.tail_suffix l,Qb8 (kd_ne (by decide) h)⟩
 ·refine Suf.bind (hE l) fun x1 l1 _ =>.inl ?_
  split
  ·refine Qif (Suf.bind (hE _) fun x2 l2 _ =>.inl ?_)
   split
   ·exact Qif (Suf.bind (hE _) fun x3 l3 _ =>.inl (Suf.bind (Qf8 (by decide) _) fun _ _ _ =>.inr ⟨_,rfl⟩))
   ·exact Suf.bind (Qf8 (by decide) _) fun _ _ _ =>.inr ⟨_,rfl⟩
  ·exact Suf.bind (Qf8 (by decide) _) fun _ _ _ =>.inr ⟨_,rfl⟩
theorem Qrz {E:List Qac→Rs Qaa} (hE:∀ l,Suf l (E l)) (l:List Qac):Suf l (firstR E l):=by
 unfold firstR
 split
 ·rename_i h; exact⟨List.tail_suffix l,Qb8 (kd_ne (by decide) h)⟩
 split
 ·rename_i h; exact⟨List.tail_suffix l,Qb8 (kd_ne (by decide) h)⟩
 split
 ·rename_i h; exact⟨List.tail_suffix l,Qb8 (Qd2 h)⟩
 split
 ·rename_i h; exact⟨List.tail_suffix l,Qb8 (Qd2 h)⟩
 split
 ·exact Qif (Q1p _)
 ·refine Suf.bind (Qer l) fun s l1 _=>?_
  by_cases h:kd l1=8
  ·simp only[if_pos h]
   exact .inl (Qif (Suf.bind (Q5e hE _) fun _ _ _ =>.inr ⟨_,rfl⟩))
  ·simp only[if_neg h]
   exact .inr ⟨_,rfl⟩
theorem Qz9:∀ (n:Nat) (x:Qaa) (l:List Qac),Suf l (dotsR n x l)∨∃ y,dotsR n x l = .ok y l
 | 0,x,l =>.inr ⟨x,rfl⟩
 | n+1,x,l=>by
  unfold dotsR
  split
  ·refine .inl (Qif (Suf.bind (Qf8 (by decide) _) fun t l2 _=>Qz9 n _ l2))
  ·exact .inr ⟨x,rfl⟩
theorem Qiy:∀ (f:Nat) (l:List Qac),Suf l (exprR f l)
 | 0,l=>List.suffix_refl l
 | f+1,l=>Suf.bind (Qrz (Qiy f) l) fun x l1 _=>Qz9 _ x l1
theorem Qdq (l:List Qac):Suf l (closedR l):=Suf.bind (Qiy _ l) fun x l1 _ =>.inl (Suf.bind (Qf8 (by decide) _) fun _ _ _ =>.inr ⟨_,rfl⟩)
end Go.Proofs.YtagokkpnfceidaaGreatDoor
end

section
namespace Go.Proofs.YtagokkpnfceidaaGreatDoor
open Go.RowKit
set_option linter.unusedSimpArgs false
set_option linter.unusedVariables false
section
variable {L:List Qac} (hL:Toks L)
include hL
theorem Qgo {k:Int} {l:List Qac} (h:kd l=k):want k l = .ok (hd l) l.tail:=by have _:=hL; unfold want; rw[if_pos h]
theorem Qek {k:Int} {l:List Qac} (h:¬ kd l=k):want k l = .bad l:=by have _:=hL; unfold want; rw[if_neg h]
theorem pSecret {l:List Qac} (h:l <:+ L):(Qaq 8 L (pos L l)>>=fun o6 =>
      match o6 with
      | .inl x5 =>
       Qbb L x5.2>>=fun x8 =>
       Qkv x8.Text>>=fun x9 =>
       Qa0 x9 L x5.2>>=fun o11 =>
       match o11 with
       | .inl x10 =>
        Qaq 5 L x5.2>>=fun o14 =>
        match o14 with
        | .inl x13 =>
         Qaq 9 L x13.2>>=fun o17 =>
         match o17 with
         | .inl x16 =>
          some (.inl ((Qaa.mk 7 x13.1.Text [] 0 [] [] []),x16.2))
         | .inr z18 =>
          some (.inr x13.2)
        | .inr z15 =>
         some (.inr x5.2)
       | .inr z12 =>
        some (.inr x5.2)
      | .inr z7 =>
       some (.inr (pos L l)):Option ((Qaa×Int)⊕Int))=some (cP L (secretR l)):=by
 rw[pWant hL h 8 (by decide)]
 by_cases h8:kd l=8
 ·have h1:=Qa8 h
  simp only[if_pos h8,Qad,secretR,Qgo hL h8,Rs.bind,pNext hL h1]
  rw[lWord _ (by have:=Qx8 hL h1; omega)]
  by_cases hw:wordP (hd l.tail).Text=true
  ·simp only[Qad,hw,Qa0,mustO,if_true]
   rw[pWant hL h1 5 (by decide)]
   by_cases h5:kd l.tail=5
   ·have h2:=Qa8 h1
    simp only[if_pos h5,Qad,h5,and_self,if_true]
    rw[pWant hL h2 9 (by decide)]
    by_cases h9:kd l.tail.tail=9
    ·simp[if_pos h9,Qgo hL h9,cP]
    ·simp[if_neg h9,Qek hL h9,cP]
   ·simp[if_neg h5,h5,cP]
  ·have hw' : wordP (hd l.tail).Text=false:=by simpa using hw
   simp[hw', Qa0,mustO,cP]
 ·simp[if_neg h8,secretR,Qek hL h8,Rs.bind,cP]
def PE (L:List Qac) (n:Nat) (E:List Qac→Rs Qaa):Prop:=∀ l,l <:+ L→l.length<n→Qcg L (pos L l)=some (cP L (E l))
theorem pArgsStop (v:List Qaa) {l:List Qac} (h:l <:+ L) (hs:¬ v.length<3∨¬ kd l=10):Qbs L v (pos L l)=some (.inl (v,pos L l)):=by
 rw[Qbs]
 by_cases hv:v.length<3
 ·have h10:¬ kd l=10:=hs.resolve_left (fun k=>k hv)
  have e:decide ((v.length:Int)<3)=true:=by simp; omega
  simp[e,pSign hL h 10 (by decide),h10]
 ·have e:decide ((v.length:Int)<3)=false:=by simp; omega
  simp[e]
theorem pArgsStep (v:List Qaa) {n:Nat} {E:List Qac→Rs Qaa} (hE:PE L n E) {l:List Qac} (h:l <:+ L) (hn:l.length≤n) (hv:v.length<3) (h10:kd l=10) :
  Qbs L v (pos L l)=match E l.tail with | .ok x l2=>Qbs L (v++[x]) (pos L l2) | .bad l2=>some (.inr (pos L l2)):=by
 rw[Qbs]
 have e:decide ((v.length:Int)<3)=true:=by simp; omega
 have hne:=kd_ne (by decide) h10
 have:=Qb8 hne
 simp only[e,if_true,pSign hL h 10 (by decide),if_pos h10,Qad,hE l.tail (Qa8 h) (by omega)]
 cases hx:E l.tail with
 | ok x l2=>simp only[cP,Qad,Qgc (show(v.length+[x].length)*120≤140737488355328 by simp; omega) (by simp; omega)]
 | bad l2=>simp[cP]
theorem pFin (xs:List Qaa) {l:List Qac} (h:l <:+ L):(Qaq 9 L (pos L l)>>=fun o15 =>
    match o15 with
    | .inl x14=>some (.inl (xs,x14.2))
    | .inr z16=>some (.inr (pos L l)):Option ((List Qaa×Int)⊕Int))=some (cP L ((want 9 l).bind fun _ l4 =>.ok xs l4)):=by
 rw[pWant hL h 9 (by decide)]
 by_cases h9:kd l=9
 ·simp[if_pos h9,Qgo hL h9,cP,Rs.bind]
 ·simp[if_neg h9,Qek hL h9,cP,Rs.bind]
theorem pArgs {n:Nat} {E:List Qac→Rs Qaa} (hE:PE L n E) (hS:∀ l,Suf l (E l)) {l:List Qac} (h:l <:+ L) (hn:l.length<n):Qd1 L (pos L l)=some (cP L (argsR E l)):=by
 rw[Qd1,pSign hL h 9 (by decide)]
 by_cases h9:kd l=9
 ·simp[if_pos h9,argsR,cP]
 ·simp only[if_neg h9,Qad,argsR,Bool.false_eq_true,if_false,hE l h hn]
  have s1:=hS l
  cases hx:E l with
  | bad l2=>simp[cP,Rs.bind]
  | ok x1 l1 =>
   rw[hx] at s1
   have t1:l1 <:+ L:=s1.1.trans h
   simp only[cP,Qad,Rs.bind]
   by_cases h10:kd l1=10
   ·rw[pArgsStep hL [x1] hE t1 (by have:=s1.2; omega) (by simp) h10,if_pos h10]
    have s2:=hS l1.tail
    cases hx2:E l1.tail with
    | bad l2=>simp[cP,Rs.bind]
    | ok x2 l2 =>
     rw[hx2] at s2
     have t2:l2 <:+ L:=s2.1.trans (Qa8 t1)
     have n2:l2.length≤n:=by have:=s2.2; have:=Qb8 (kd_ne (by decide) h10); have:=s1.2; omega
     simp only[Rs.bind]
     by_cases h102:kd l2=10
     ·rw[pArgsStep hL ([x1]++[x2]) hE t2 n2 (by simp) h102,if_pos h102]
      have s3:=hS l2.tail
      cases hx3:E l2.tail with
      | bad l3=>simp[cP,Rs.bind]
      | ok x3 l3 =>
       rw[hx3] at s3
       have t3:l3 <:+ L:=s3.1.trans (Qa8 t2)
       simp only[Rs.bind]
       rw[pArgsStop hL ([x1]++[x2]++[x3]) t3 (.inl (by simp)),Qad]
       exact pFin hL [x1,x2,x3] t3
     ·rw[if_neg h102]
      rw[pArgsStop hL ([x1]++[x2]) t2 (.inr h102),Qad]
      exact pFin hL [x1,x2] t2
   ·rw[pArgsStop hL [x1] t1 (.inr h10),if_neg h10,Qad]
    exact pFin hL [x1] t1
theorem pFirst {n:Nat} {E:List Qac→Rs Qaa} (hE:PE L n E) (hS:∀ l,Suf l (E l)) {l:List Qac} (h:l <:+ L) (hn:l.length≤n):Qe8 L (pos L l)=some (cP L (firstR E l)):=by
 rw[Qe8,pNext hL h,Qad]
 by_cases h5:kd l=5
 ·have e:((hd l).Kind==5)=true:=by simpa [kd] using h5
  simp only[e,if_true,firstR,if_pos h5,cP,Qmo hL h (kd_ne (by decide) h5)]
 have e5:((hd l).Kind==5)=false:=by simpa [kd] using h5
 by_cases h6:kd l=6
 ·have e:((hd l).Kind==6)=true:=by simpa [kd] using h6
  simp only[e5,e,if_true,Bool.false_eq_true,if_false,firstR,if_neg h5,if_pos h6,cP,Qmo hL h (kd_ne (by decide) h6)]
 have e6:((hd l).Kind==6)=false:=by simpa [kd] using h6
 simp only[e5,e6,Bool.false_eq_true,if_false,firstR,if_neg h5,if_neg h6,pWord hL h,Qad]
 by_cases w1:isW wTrue l=true
 ·simp only[if_pos w1,if_true,cP]
 rw[if_neg w1,if_neg (show ¬ isW [116,114,117,101] l=true from w1)]
 simp only[Bool.false_eq_true,if_false,pWord hL h,Qad]
 by_cases w2:isW wFalse l=true
 ·simp only[if_pos w2,if_true,cP]
 rw[if_neg w2,if_neg (show ¬ isW [102,97,108,115,101] l=true from w2)]
 simp only[Bool.false_eq_true,if_false,pWord hL h,Qad]
 by_cases w3:isW wSecret l=true
 ·rw[if_pos w3,if_pos (show isW [115,101,99,114,101,116] l=true from w3)]
  simp only[if_true]
  exact pSecret hL (Qa8 h)
 rw[if_neg w3,if_neg (show ¬ isW [115,101,99,114,101,116] l=true from w3)]
 simp only[Bool.false_eq_true,if_false,pName hL h,Qad]
 have s1:=Qer l
 cases hx:nameR l with
 | bad l1 =>
  have:l1=l:=by unfold nameR at hx; split at hx<;>cases hx; rfl
  subst this
  simp[Rs.bind,cP]
 | ok s l1 =>
  rw[hx] at s1
  have t1:l1 <:+ L:=s1.1.trans h
  simp only[Rs.bind]
  rw[pSign hL t1 8 (by decide)]
  by_cases h8:kd l1=8
  ·have:=Qb8 (kd_ne (by decide) h8)
   simp only[if_pos h8,Qad,if_true]
   rw[pArgs hL hE hS (Qa8 t1) (by have:=s1.2; omega)]
   cases hy:argsR E l1.tail with
   | ok xs l2=>simp[cP]
   | bad l2=>simp[cP]
  ·simp[if_neg h8,cP]
theorem pDots:∀ (n:Nat) (x:Qaa) (l:List Qac),l <:+ L→l.length≤n →
  (Qbq L (pos L l) x.Kind x.Name x.Text x.N x.L x.Then x.Else>>=fun o4 =>
  match o4 with
  | .inl y5 =>
   some (.inl ((Qaa.mk y5.2.1 y5.2.2.1 y5.2.2.2.1 y5.2.2.2.2.1 y5.2.2.2.2.2.1 y5.2.2.2.2.2.2.1 y5.2.2.2.2.2.2.2),y5.1))
  | .inr y6 =>
   some (.inr y6.1):Option ((Qaa×Int)⊕Int))=some (cP L (dotsR n x l)):=by
 intro n
 induction n with
 | zero =>
  intro x l h hn
  have:l=[]:=List.eq_nil_of_length_eq_zero (by omega)
  subst this
  rw[Qbq,pSign hL h 7 (by decide)]
  simp only[Q7h,show ¬ (0:Int)=7 by decide,if_false,Qad,cP,dotsR,Bool.false_eq_true]
  cases x; rfl
 | succ n ih =>
  intro x l h hn
  rw[Qbq,pSign hL h 7 (by decide)]
  by_cases h7:kd l=7
  ·have h1:=Qa8 h
   have:=Qb8 (kd_ne (by decide) h7)
   simp only[if_pos h7,Qad,if_true,dotsR]
   rw[pWant hL h1 4 (by decide)]
   by_cases h4:kd l.tail=4
   ·have:=Qb8 (kd_ne (by decide) h4)
    simp only[if_pos h4,Qad,Qgo hL h4,Rs.bind]
    have:=ih ⟨5,(hd l.tail).Text,[],0,[x],[],[]⟩ l.tail.tail (Qa8 h1) (by omega)
    cases x
    exact this
   ·simp[if_neg h4,Qek hL h4,Rs.bind,cP]
  ·simp only[if_neg h7,Qad,cP,dotsR,Bool.false_eq_true,if_false]
   cases x; rfl
theorem pExpr:∀ (f:Nat),PE L f (exprR f)
 | 0=>fun l h hn=>absurd hn (by omega)
 | f+1=>fun l h hn=>by
  rw[Qcg,pFirst hL (pExpr f) (Qiy f) h (by omega),Qad,exprR]
  have s1:=Qrz (Qiy f) l
  cases hx:firstR (exprR f) l with
  | bad l1=>simp[cP,Rs.bind]
  | ok x l1 =>
   rw[hx] at s1
   simp only[cP,Rs.bind]
   exact pDots hL l1.length x l1 (s1.1.trans h) (Nat.le_refl _)
theorem pEx {l:List Qac} (h:l <:+ L):Qcg L (pos L l)=some (cP L (ex20 l)):=pExpr hL (l.length+1) l h (by omega)
theorem pClosed {l:List Qac} (h:l <:+ L):Qbl L (pos L l)=some (match closedR l with | .ok x l' =>.inl ([x],pos L l') | .bad l' =>.inr (pos L l')):=by
 rw[Qbl,pEx hL h,Qad]
 have s1:=Qiy (l.length+1) l
 unfold closedR
 cases hx:ex20 l with
 | bad l1=>simp[cP,Rs.bind]
 | ok x l1 =>
  unfold ex20 at hx
  rw[hx] at s1
  simp only[cP,Rs.bind]
  rw[pWant hL (s1.1.trans h) 3 (by decide)]
  by_cases h3:kd l1=3
  ·simp[if_pos h3,Qgo hL h3]
  ·simp[if_neg h3,Qek hL h3]
end
end Go.Proofs.YtagokkpnfceidaaGreatDoor
end

section
namespace Go.Proofs.YtagokkpnfceidaaGreatDoor
open Go.RowKit
set_option linter.unusedSimpArgs false
set_option linter.unusedVariables false
section
variable {L:List Qac} (hL:Toks L)
include hL
section
variable {l:List Qac} (h:l <:+ L)
include h
theorem rrIs (k:Int) (hk:k≠0) (b:Bool):Qan k L (pos L l) b=some (!b&&decide (kd l=k)):=by
 have _:=hL
 unfold Qan
 cases b with
 | true=>rfl
 | false =>
  by_cases hne:l=[]
  ·subst hne
   have e:decide (pos L []<(L.length:Int))=false:=by rw[Qqa]; simp
   have:¬ (0:Int)=k:=fun h=>hk h.symm
   simp[e,this]
  ·obtain⟨h1,h2,h3⟩:=Qn9 h hne
   simp only[Bool.not_false,if_true,h3,h2,Qad,Bool.true_and]
   congr 1
theorem rrIsF (k:Int) (hk:k≠0):Qan k L (pos L l) false=some (decide (kd l=k)):=by rw[rrIs hL h k hk]; simp
theorem rrIsT (k:Int) (hk:k≠0):Qan k L (pos L l) true=some false:=by rw[rrIs hL h k hk]; simp
theorem rrTakeOk (hne:l≠[]):Qah true L (pos L l) false=some (hd l,pos L l.tail,false):=by
 unfold Qah
 have h1:=h.length_le
 have h2:=hL.len
 have e:wr (pos L l.tail-1)=pos L l:=by
  have h3:0<l.length:=List.length_pos_iff.2 hne
  unfold pos
  rw[wr_in (by omega) (by omega),List.length_tail]
  omega
 simp[Qmo hL h hne,e,(Qn9 h hne).2.1]
theorem rrTakeNo (b:Bool):Qah false L (pos L l) b=some (Tk0,pos L l,true):=by
 have _:=hL; have _:=h
 unfold Qah; simp
theorem rrTakeBad (ok:Bool):Qah ok L (pos L l) true=some (Tk0,pos L l,true):=by
 have _:=hL; have _:=h
 unfold Qah; cases ok<;>simp
theorem rrWordR (w:List UInt8) (b:Bool):Qbd w L (pos L l) b=some (!b&&isW w l):=by
 unfold Qbd
 rw[rrIs hL h 4 (by decide)]
 cases b with
 | true=>simp
 | false =>
  by_cases h4:kd l=4
  ·simp only[Bool.not_false,Bool.true_and,h4,decide_true,Qad,if_true,(Qn9 h (kd_ne (by decide) h4)).2.1,isW,beq_self_eq_true]
  ·have:(kd l==4)=false:=by simpa using h4
   simp[h4,isW,this]
theorem rrNameF:Qch L (pos L l) false=some (match nameR l with | .ok s r=>(s,pos L r,false) | .bad r=>([],pos L r,true)):=by
 unfold Qch nameR
 rw[rrIsF hL h 4 (by decide),Qad]
 by_cases h4:kd l=4
 ·have hne:=kd_ne (by decide) h4
  have ht:=Qx8 hL h
  simp only[h4,decide_true,if_true,(Qn9 h hne).2.1,Qad]
  rw[rName _ (by omega),Qad]
  cases hn:nameP (hd l).Text with
  | true=>simp[rrTakeOk hL h hne]
  | false=>simp[rrTakeNo hL h]
 ·simp[h4,rrTakeNo hL h]
theorem rrNameT:Qch L (pos L l) true=some ([],pos L l,true):=by
 unfold Qch
 rw[rrIsT hL h 4 (by decide),Qad]
 simp[rrTakeBad hL h]
theorem rrWant (k:Int) (hk:k≠0):Qah (decide (kd l=k)) L (pos L l) false=some (match want k l with | .ok t r=>(t,pos L r,false) | .bad r=>(Tk0,pos L r,true)):=by
 by_cases h4:kd l=k
 ·simp[h4,Qgo hL h4,rrTakeOk hL h (kd_ne hk h4)]
 ·simp[h4,Qek hL h4,rrTakeNo hL h]
theorem rrWantW (w:List UInt8):Qah (isW w l) L (pos L l) false=some (match wantW w l with | .ok _ r=>(hd l,pos L r,false) | .bad r=>(Tk0,pos L r,true)):=by
 unfold wantW
 cases hw:isW w l with
 | true=>simp[rrTakeOk hL h (Qd2 hw)]
 | false=>simp[rrTakeNo hL h]
theorem rrAheadR (w:List UInt8) (b:Bool):Qbm w L (pos L l) b=some (!b&&ahead w l):=by
 unfold Qbm
 rw[rrIs hL h 2 (by decide)]
 cases b with
 | true=>simp
 | false =>
  by_cases h2:kd l=2
  ·have hne:=kd_ne (by decide) h2
   have h1:=Qa8 h
   simp only[Bool.not_false,Bool.true_and,h2,decide_true,Qad,if_true,Qmo hL h hne]
   by_cases hn:l.tail=[]
   ·have e:decide (pos L l.tail<(L.length:Int))=false:=by rw[hn,Qqa]; simp
    have ea:ahead w l=false:=by simp[ahead,hn,isW]
    rw[ea,e]; rfl
   ·obtain⟨-,e2,e3⟩:=Qn9 h1 hn
    simp only[e3,if_true,e2,Qad]
    by_cases h4:kd l.tail=4
    ·have:((hd l.tail).Kind==4)=true:=by simpa [kd] using h4
     simp[this,ahead,h2,isW,h4]
    ·have:((hd l.tail).Kind==4)=false:=by simpa [kd] using h4
     have h4' : (kd l.tail==4)=false:=by simpa using h4
     simp[this,ahead,h2,isW,h4']
  ·have h2' : (kd l==2)=false:=by simpa using h2
   simp[h2,ahead,h2']
theorem rrCloseF:Qa3 L (pos L l) false=some (match want 3 l with | .ok _ r=>(pos L r,false) | .bad r=>(pos L r,true)):=by
 unfold Qa3
 rw[rrIsF hL h 3 (by decide),Qad,rrWant hL h 3 (by decide),Qad]
 cases want 3 l<;>rfl
theorem rrCloseT:Qa3 L (pos L l) true=some (pos L l,true):=by
 unfold Qa3
 rw[rrIsT hL h 3 (by decide),Qad,rrTakeBad hL h]; rfl
theorem rrEndT (w:List UInt8):Qb7 w L (pos L l) true=some (pos L l,true):=by
 unfold Qb7
 rw[rrIsT hL h 2 (by decide),Qad,rrTakeBad hL h,Qad,rrWordR hL h,Qad,rrTakeBad hL h,Qad,rrCloseT hL h]; rfl
end
theorem rrEndF {l:List Qac} (h:l <:+ L) (w:List UInt8):Qb7 w L (pos L l) false=some (match endW w l with | .ok _ r=>(pos L r,false) | .bad r=>(pos L r,true)):=by
 unfold Qb7 endW
 rw[rrIsF hL h 2 (by decide),Qad,rrWant hL h 2 (by decide),Qad]
 have s1:=Qf8 (k:=2) (by decide) l
 cases hx:want 2 l with
 | bad l1 =>
  rw[hx] at s1
  have h1:l1 <:+ L:=List.IsSuffix.trans s1 h
  simp only[Rs.bind]
  rw[rrWordR hL h1,Qad,rrTakeBad hL h1,Qad,rrCloseT hL h1]; rfl
 | ok t l1 =>
  rw[hx] at s1
  have h1:l1 <:+ L:=s1.1.trans h
  simp only[Rs.bind]
  rw[rrWordR hL h1,Qad]
  simp only[Bool.not_false,Bool.true_and]
  rw[rrWantW hL h1,Qad]
  have s2:=Qq4 w l1
  cases hy:wantW w l1 with
  | bad l2 =>
   rw[hy] at s2
   have h2:l2 <:+ L:=List.IsSuffix.trans s2 h1
   simp only
   rw[rrCloseT hL h2]; rfl
  | ok u l2 =>
   rw[hy] at s2
   have h2:l2 <:+ L:=s2.1.trans h1
   simp only
   rw[rrCloseF hL h2]
   cases want 3 l2<;>rfl
def RefIs {α : Type} (L:List Qac) (o:Option (α × Int×Bool)) (r:Rs α):Prop:=match r with
 | .ok x l=>o=some (x,pos L l,false)
 | .bad l=>∃ x,o=some (x,pos L l,true)
theorem rrDotsT (x:Qaa) {l:List Qac} (h:l <:+ L):Qbh L (pos L l) true x.Kind x.Name x.Text x.N x.L x.Then x.Else=some (pos L l,true,x.Kind,x.Name,x.Text,x.N,x.L,x.Then,x.Else):=by
 rw[Qbh,rrIsT hL h 7 (by decide)]; rfl
theorem rrFirstT {l:List Qac} (h:l <:+ L):Qc3 L (pos L l) true=some (⟨4,[],[],0,[],[],[]⟩,pos L l,true):=by
 rw[Qc3,rrIsT hL h 5 (by decide)]
 simp only[Qad,Bool.false_eq_true,if_false,rrIsT hL h 6 (by decide),rrWordR hL h,Bool.not_true,Bool.false_and,rrNameT hL h,rrIsT hL h 8 (by decide),Bool.not_false,if_true]
theorem rrExprT {l:List Qac} (h:l <:+ L):Qat L (pos L l) true=some (⟨4,[],[],0,[],[],[]⟩,pos L l,true):=by
 rw[Qat,rrFirstT hL h,Qad]
 simp only
 have:=rrDotsT hL ⟨4,[],[],0,[],[],[]⟩ h
 simp only at this
 rw[this]; rfl
def RE (L:List Qac) (n:Nat) (E:List Qac→Rs Qaa):Prop:=∀ l,l <:+ L→l.length<n→RefIs L (Qat L (pos L l) false) (E l)
theorem rrDots:∀ (n:Nat) (x:Qaa) (l:List Qac),l <:+ L→l.length≤n →
  RefIs L (Qbh L (pos L l) false x.Kind x.Name x.Text x.N x.L x.Then x.Else>>=fun o2 =>
   some ((Qaa.mk o2.2.2.1 o2.2.2.2.1 o2.2.2.2.2.1 o2.2.2.2.2.2.1 o2.2.2.2.2.2.2.1 o2.2.2.2.2.2.2.2.1 o2.2.2.2.2.2.2.2.2),o2.1,o2.2.1)) (dotsR n x l):=by
 intro n
 induction n with
 | zero =>
  intro x l h hn
  have:l=[]:=List.eq_nil_of_length_eq_zero (by omega)
  subst this
  rw[Qbh,rrIsF hL h 7 (by decide)]
  simp[RefIs,dotsR]
  cases x; rfl
 | succ n ih =>
  intro x l h hn
  rw[Qbh,rrIsF hL h 7 (by decide)]
  by_cases h7:kd l=7
  ·have h1:=Qa8 h
   have hne:=kd_ne (by decide) h7
   have:=Qb8 hne
   simp only[h7,decide_true,Qad,if_true,dotsR,rrTakeOk hL h hne,rrIsF hL h1 4 (by decide)]
   rw[rrWant hL h1 4 (by decide)]
   by_cases h4:kd l.tail=4
   ·have:=Qb8 (kd_ne (by decide) h4)
    simp only[Qgo hL h4,Qad,Rs.bind]
    have:=ih ⟨5,(hd l.tail).Text,[],0,[x],[],[]⟩ l.tail.tail (Qa8 h1) (by omega)
    cases x
    exact this
   ·simp only[Qek hL h4,Qad,Rs.bind,RefIs]
    have:=rrDotsT hL ⟨5,[],[],0,[⟨x.Kind,x.Name,x.Text,x.N,x.L,x.Then,x.Else⟩],[],[]⟩ h1
    simp only at this
    rw[this]
    exact⟨_,rfl⟩
  ·simp[h7,dotsR,RefIs]
   cases x; rfl
theorem rrSecret {l:List Qac} (h:l <:+ L):RefIs L (Qan 8 L (pos L l) false>>=fun x11 =>
      Qah x11 L (pos L l) false>>=fun x12 =>
      ( Qan 5 L x12.2.1 x12.2.2>>=fun x14 =>
       if x14 then
        idx L x12.2.1>>=fun x15 =>
        Qic x15.Text>>=fun x16 =>
        Qah x16 L x12.2.1 x12.2.2>>=fun x17 =>
        some (x17.2.1,x17.2.2,x17.1.Kind,x17.1.Text,x17.1.N,x17.1.From,x17.1.To)
       else
        Qah false L x12.2.1 x12.2.2>>=fun x18 =>
        some (x18.2.1,x18.2.2,x18.1.Kind,x18.1.Text,x18.1.N,x18.1.From,x18.1.To):Option ((Int×Bool×Int×(List UInt8)×Int×Int×Int)))>>=fun o13 =>
      Qan 9 L o13.1 o13.2.1>>=fun x19 =>
      Qah x19 L o13.1 o13.2.1>>=fun x20 =>
      some ((Qaa.mk 7 o13.2.2.2.1 [] 0 [] [] []),x20.2.1,x20.2.2)) (secretR l):=by
 rw[rrIsF hL h 8 (by decide),Qad,rrWant hL h 8 (by decide),Qad]
 have h1:=Qa8 h
 by_cases h8:kd l=8
 ·simp only[Qgo hL h8,secretR,Rs.bind,rrIsF hL h1 5 (by decide),Qad]
  by_cases h5:kd l.tail=5
  ·have hne:=kd_ne (by decide) h5
   simp only[h5,decide_true,if_true,(Qn9 h1 hne).2.1,Qad,true_and]
   rw[rWord _ (by have:=Qx8 hL h1; omega),Qad]
   by_cases hw:wordP (hd l.tail).Text=true
   ·have h2:=Qa8 h1
    simp only[hw,rrTakeOk hL h1 hne,Qad,if_true,rrIsF hL h2 9 (by decide)]
    rw[rrWant hL h2 9 (by decide)]
    by_cases h9:kd l.tail.tail=9
    ·simp[Qgo hL h9,RefIs]
    ·simp[Qek hL h9,RefIs]
   ·have hw' : wordP (hd l.tail).Text=false:=by simpa using hw
    simp only[hw', rrTakeNo hL h1,Qad,rrIsT hL h1 9 (by decide),rrTakeBad hL h1,Bool.false_eq_true,if_false,RefIs]
    exact⟨_,rfl⟩
  ·simp only[h5,decide_false,Bool.false_eq_true,if_false,rrTakeNo hL h1,Qad,rrIsT hL h1 9 (by decide),rrTakeBad hL h1,false_and,RefIs]
   exact⟨_,rfl⟩
 ·simp only[Qek hL h8,secretR,Rs.bind,rrIsT hL h 5 (by decide),Qad,Bool.false_eq_true,if_false,rrTakeNo hL h,rrIsT hL h 9 (by decide),rrTakeBad hL h,RefIs]
  exact⟨_,rfl⟩
def ArgsIs (L:List Qac) (o:Option (Int×Bool×List Qaa)) (r:Rs (List Qaa)):Prop:=match r with
 | .ok xs l4=>∃ l3,l3 <:+ L∧kd l3=9∧l4=l3.tail∧o=some (pos L l3,false,xs)
 | .bad l' => l' <:+ L∧∃ b ys,o=some (pos L l', b,ys)∧(b=true∨¬ kd l' = 9)
theorem rrArgsBad (x21:(List UInt8)×Int×Bool) (v:Int) (ys:List Qaa) {l:List Qac} (h:l <:+ L):Qao L x21 v (pos L l) true ys=some (pos L l,true,ys):=by
 have _:=hL; have _:=h
 rw[Qao]
 cases hv:decide (v<3)<;>simp
theorem rrArgs1 (x21:(List UInt8)×Int×Bool) {n:Nat} {E:List Qac→Rs Qaa} (hE:RE L n E) {l:List Qac} (h:l <:+ L) (hn:l.length<n) (i:Nat) (hi:i<3) (ys:List Qaa) (hy:ys.length=i) :
  match E l with
  | .bad l1=>∃ zs,Qao L x21 (i:Int) (pos L l) false ys=some (pos L l1,true,zs)∨¬ l1 <:+ L
  | .ok x l1=>l1 <:+ L→(kd l1=9→Qao L x21 (i:Int) (pos L l) false ys=some (pos L l1,false,ys++[x])) ∧
   (¬ kd l1=9→i<2→kd l1=10→Qao L x21 (i:Int) (pos L l) false ys=Qao L x21 ((i+1:Nat):Int) (pos L l1.tail) false (ys++[x])) ∧
   (¬ kd l1=9→i<2→¬ kd l1=10→Qao L x21 (i:Int) (pos L l) false ys=some (pos L l1,true,ys++[x])) ∧
   (¬ kd l1=9→i=2→Qao L x21 (i:Int) (pos L l) false ys=some (pos L l1,false,ys++[x])):=by
 have e3:decide (((i:Nat):Int)<3)=true:=by simp; omega
 have hx:=hE l h hn
 have ea:∀ z:Qaa,appL 120 ys [z]=some (ys++[z]):=fun z=>Qgc (by simp; omega) (by simp; omega)
 cases hr:E l with
 | bad l1 =>
  rw[hr] at hx
  obtain⟨x,hx⟩:=hx
  by_cases hs:l1 <:+ L
  ·refine⟨ys++[x],.inl ?_⟩
   rw[Qao]
   simp only[e3,if_true,Bool.not_false,Qad,hx,ea,rrIsT hL hs 9 (by decide),Bool.false_eq_true,if_false]
   by_cases h2:i<2
   ·have e2:decide (((i:Nat):Int)<2)=true:=by simp; omega
    simp only[e2,if_true,rrIsT hL hs 10 (by decide),Qad,rrTakeNo hL hs,rrArgsBad hL x21 _ _ hs]
   ·have e2:decide (((i:Nat):Int)<2)=false:=by simp; omega
    simp only[e2,Bool.false_eq_true,if_false,rrArgsBad hL x21 _ _ hs]
  ·exact⟨[],.inr hs⟩
 | ok x l1 =>
  rw[hr] at hx
  have hx:Qat L (pos L l) false=some (x,pos L l1,false):=hx
  intro hs
  refine⟨fun h9=>?_,fun h9 h2 h10=>?_,fun h9 h2 h10=>?_,fun h9 h2=>?_⟩
  ·rw[Qao]
   simp only[e3,if_true,Bool.not_false,Qad,hx,ea,rrIsF hL hs 9 (by decide),h9,decide_true]
  ·have e2:decide (((i:Nat):Int)<2)=true:=by simp; omega
   rw[Qao]
   simp only[e3,if_true,Bool.not_false,Qad,hx,ea,rrIsF hL hs 9 (by decide),h9,decide_false,Bool.false_eq_true,if_false,e2,rrIsF hL hs 10 (by decide),h10,decide_true,rrTakeOk hL hs (kd_ne (by decide) h10),Qbx (show i<9223372036854775807 by omega)]
   rw[if_neg (by decide)]
  ·have e2:decide (((i:Nat):Int)<2)=true:=by simp; omega
   rw[Qao]
   simp only[e3,if_true,Bool.not_false,Qad,hx,ea,rrIsF hL hs 9 (by decide),h9,decide_false,Bool.false_eq_true,if_false,e2,rrIsF hL hs 10 (by decide),h10,rrTakeNo hL hs,rrArgsBad hL x21 _ _ hs]
  ·subst h2
   have e2:decide (((2:Nat):Int)<2)=false:=by simp
   have e4:decide (wr (((2:Nat):Int)+1)<3)=false:=by rw[Qbx (by omega)]; rfl
   rw[Qao]
   simp only[e3,if_true,Bool.not_false,Qad,hx,ea,rrIsF hL hs 9 (by decide),h9,decide_false,Bool.false_eq_true,if_false,e2]
   rw[Qao]
   simp only[e4,Bool.false_eq_true,if_false,Qad]
theorem rrArgs (x21:(List UInt8)×Int×Bool) {n:Nat} {E:List Qac→Rs Qaa} (hE:RE L n E) (hS:∀ l,Suf l (E l)) {l:List Qac} (h:l <:+ L) (hn:l.length<n) (h9:¬ kd l=9):ArgsIs L (Qao L x21 0 (pos L l) false []) (argsR E l):=by
 unfold argsR
 rw[if_neg h9]
 have a1:=rrArgs1 hL x21 hE h hn 0 (by omega) [] rfl
 have s1:=hS l
 cases hx:E l with
 | bad l1 =>
  rw[hx] at a1 s1
  have hs:l1 <:+ L:=List.IsSuffix.trans s1 h
  obtain⟨zs,a1⟩:=a1
  exact⟨hs,true,zs,a1.resolve_right (fun k=>k hs),.inl rfl⟩
 | ok x1 l1 =>
  rw[hx] at a1 s1
  have t1:l1 <:+ L:=s1.1.trans h
  obtain⟨b1,b2,b3,b4⟩:=a1 t1
  simp only[Rs.bind]
  by_cases h91:kd l1=9
  ·have:¬ kd l1=10:=by rw[h91]; decide
   rw[if_neg this,Qgo hL h91]
   exact⟨l1,t1,h91,rfl,b1 h91⟩
  by_cases h101:kd l1=10
  ·rw[if_pos h101]
   have n2:l1.tail.length<n:=by have:=Qb8 (kd_ne (by decide) h101); have:=s1.2; omega
   have a2:=rrArgs1 hL x21 hE (Qa8 t1) n2 1 (by omega) ([]++[x1]) rfl
   have s2:=hS l1.tail
   have e1:=b2 h91 (by omega) h101
   simp only[Nat.zero_add] at e1
   rw[show((0:Nat):Int)=0 from rfl] at e1
   rw[e1]
   cases hx2:E l1.tail with
   | bad l2 =>
    rw[hx2] at a2 s2
    have hs:l2 <:+ L:=List.IsSuffix.trans s2 (Qa8 t1)
    obtain⟨zs,a2⟩:=a2
    exact⟨hs,true,zs,a2.resolve_right (fun k=>k hs),.inl rfl⟩
   | ok x2 l2 =>
    rw[hx2] at a2 s2
    have t2:l2 <:+ L:=s2.1.trans (Qa8 t1)
    obtain⟨c1,c2,c3,c4⟩:=a2 t2
    simp only[Rs.bind]
    by_cases h92:kd l2=9
    ·have:¬ kd l2=10:=by rw[h92]; decide
     rw[if_neg this,Qgo hL h92]
     exact⟨l2,t2,h92,rfl,c1 h92⟩
    by_cases h102:kd l2=10
    ·rw[if_pos h102]
     have n3:l2.tail.length<n:=by have:=Qb8 (kd_ne (by decide) h102); have:=s2.2; omega
     have a3:=rrArgs1 hL x21 hE (Qa8 t2) n3 2 (by omega) ([]++[x1]++[x2]) rfl
     have s3:=hS l2.tail
     rw[c2 h92 (by omega) h102]
     cases hx3:E l2.tail with
     | bad l3 =>
      rw[hx3] at a3 s3
      have hs:l3 <:+ L:=List.IsSuffix.trans s3 (Qa8 t2)
      obtain⟨zs,a3⟩:=a3
      exact⟨hs,true,zs,a3.resolve_right (fun k=>k hs),.inl rfl⟩
     | ok x3 l3 =>
      rw[hx3] at a3 s3
      have t3:l3 <:+ L:=s3.1.trans (Qa8 t2)
      obtain⟨d1,-,-,d4⟩:=a3 t3
      simp only[Rs.bind]
      by_cases h93:kd l3=9
      ·rw[Qgo hL h93]
       exact⟨l3,t3,h93,rfl,d1 h93⟩
      ·rw[Qek hL h93]
       exact⟨t3,false,_,d4 h93 rfl,.inr h93⟩
    ·rw[if_neg h102,Qek hL h92]
     exact⟨t2,true,_,c3 h92 (by omega) h102,.inl rfl⟩
  ·rw[if_neg h101,Qek hL h91]
   exact⟨t1,true,_,b3 h91 (by omega) h101,.inl rfl⟩
theorem rrFirst {n:Nat} {E:List Qac→Rs Qaa} (hE:RE L n E) (hS:∀ l,Suf l (E l)) {l:List Qac} (h:l <:+ L) (hn:l.length≤n):RefIs L (Qc3 L (pos L l) false) (firstR E l):=by
 rw[Qc3,rrIsF hL h 5 (by decide),Qad]
 unfold firstR
 by_cases h5:kd l=5
 ·simp[h5,rrTakeOk hL h (kd_ne (by decide) h5),RefIs]
 simp only[h5,decide_false,Bool.false_eq_true,if_false,rrIsF hL h 6 (by decide),Qad]
 by_cases h6:kd l=6
 ·simp[h6,rrTakeOk hL h (kd_ne (by decide) h6),RefIs]
 simp only[h6,decide_false,Bool.false_eq_true,if_false,rrWordR hL h,Qad,Bool.not_false,Bool.true_and]
 by_cases w1:isW wTrue l=true
 ·simp[w1,rrTakeOk hL h (Qd2 w1),RefIs]
 rw[if_neg w1,if_neg w1]
 by_cases w2:isW wFalse l=true
 ·simp[w2,rrTakeOk hL h (Qd2 w2),RefIs]
 rw[if_neg w2,if_neg w2]
 by_cases w3:isW wSecret l=true
 ·rw[if_pos w3,if_pos w3,rrTakeOk hL h (Qd2 w3),Qad]
  exact rrSecret hL (Qa8 h)
 rw[if_neg w3,if_neg w3,rrNameF hL h,Qad]
 have s1:=Qer l
 cases hx:nameR l with
 | bad l1 =>
  rw[hx] at s1
  have hs:l1 <:+ L:=List.IsSuffix.trans s1 h
  simp only[Rs.bind,rrIsT hL hs 8 (by decide),Qad,Bool.not_false,if_true,RefIs]
  exact⟨_,rfl⟩
 | ok s l1 =>
  rw[hx] at s1
  have t1:l1 <:+ L:=s1.1.trans h
  simp only[Rs.bind,rrIsF hL t1 8 (by decide),Qad]
  by_cases h8:kd l1=8
  ·have t2:=Qa8 t1
   have:=Qb8 (kd_ne (by decide) h8)
   have n2:l1.tail.length<n:=by have:=s1.2; omega
   simp only[h8,decide_true,Bool.not_true,Bool.false_eq_true,if_false,if_true,rrTakeOk hL t1 (kd_ne (by decide) h8),Qad,rrIsF hL t2 9 (by decide)]
   by_cases h9:kd l1.tail=9
   ·simp only[h9,decide_true,if_true,rrTakeOk hL t2 (kd_ne (by decide) h9),Qad,argsR,Rs.bind,RefIs]
   ·simp only[h9,decide_false,Bool.false_eq_true,if_false]
    have ha:=rrArgs hL (s,pos L l1,false) hE hS t2 n2 h9
    cases hy:argsR E l1.tail with
    | ok xs l4 =>
     rw[hy] at ha
     obtain⟨l3,t3,k9,rfl,ha⟩:=ha
     simp only[ha,Qad,rrIsF hL t3 9 (by decide),k9,decide_true,rrTakeOk hL t3 (kd_ne (by decide) k9),RefIs]
    | bad l' =>
     rw[hy] at ha
     obtain⟨t3,b,ys,ha,hb⟩:=ha
     have e:Qan 9 L (pos L l') b=some false:=by
      rw[rrIs hL t3 9 (by decide)]
      rcases hb with rfl | hb
      ·rfl
      ·simp[hb]
     simp only[ha,Qad,e,rrTakeNo hL t3,RefIs]
     exact⟨_,rfl⟩
  ·simp[h8,RefIs]
theorem rrExpr:∀ (f:Nat),RE L f (exprR f)
 | 0=>fun l h hn=>absurd hn (by omega)
 | f+1=>fun l h hn=>by
  rw[Qat,exprR]
  have hf:=rrFirst hL (rrExpr f) (Qiy f) h (by omega)
  have s1:=Qrz (Qiy f) l
  cases hx:firstR (exprR f) l with
  | bad l1 =>
   rw[hx] at s1 hf
   obtain⟨x,hf⟩:=hf
   have t1:l1 <:+ L:=List.IsSuffix.trans s1 h
   simp only[hf,Qad,Rs.bind,RefIs,rrDotsT hL x t1]
   exact⟨_,rfl⟩
  | ok x l1 =>
   rw[hx] at s1 hf
   have hf:Qc3 L (pos L l) false=some (x,pos L l1,false):=hf
   simp only[hf,Qad,Rs.bind]
   exact rrDots hL l1.length x l1 (s1.1.trans h) (Nat.le_refl _)
theorem rrEx {l:List Qac} (h:l <:+ L):RefIs L (Qat L (pos L l) false) (ex20 l):=rrExpr hL (l.length+1) l h (by omega)
end
end Go.Proofs.YtagokkpnfceidaaGreatDoor
end

section
namespace Go.Proofs.YtagokkpnfceidaaGreatDoor
open Go.RowKit
set_option linter.unusedSimpArgs false
set_option linter.unusedVariables false
def tsum (l:List Qac):Nat:=(l.map (·.Text.length)).sum
theorem Qux (l:List Qac):(hd l).Text.length+tsum l.tail=tsum l:=by cases l<;>simp[tsum,hd]
theorem Qya {l L:List Qac} (h:l <:+ L):tsum l≤tsum L:=by
 obtain⟨p,rfl⟩:=h
 simp[tsum]
def lastT (out:List Qaa):Nat:=match out.getLast? with
 | some x=>if x.Kind=8 then x.Text.length else 0
 | none=>0
structure BD (out:List Qaa) (l:List Qac):Prop where
 len:out.length+l.length≤400000
 txt:lastT out+tsum l≤400000
theorem Q3z (out:List Qaa) (s:List UInt8):(addLit out s).length≤out.length+1:=by
 unfold addLit
 split
 ·split<;>simp
 ·simp
theorem Q1q (out:List Qaa) (s:List UInt8):lastT (addLit out s)≤lastT out+s.length:=by
 unfold addLit
 cases hx:out.getLast? with
 | none=>simp[lastT]
 | some x =>
  have hne:out≠[]:=fun e=>by subst e; simp at hx
  simp only
  split
  ·rename_i h8
   have hl:lastT out=x.Text.length:=by simp[lastT,hx,h8]
   have:(out.set (out.length-1) ⟨x.Kind,x.Name,x.Text++s,x.N,x.L,x.Then,x.Else⟩).getLast? = some ⟨x.Kind,x.Name,x.Text++s,x.N,x.L,x.Then,x.Else⟩:=by
    have h0:0<out.length:=List.length_pos_iff.2 hne
    rw[List.getLast?_eq_getElem?]
    simp[List.getElem?_set]
    omega
   rw[lastT,this]
   simp[h8,hl]
  ·simp[lastT]
theorem BD.lit {out:List Qaa} {l:List Qac} (h:BD out l) (hne:l≠[]):BD (addLit out (hd l).Text) l.tail:=by
 have h1:=Q3z out (hd l).Text
 have h2:=Q1q out (hd l).Text
 have h3:=Qux l
 have h4:=Qb8 hne
 exact⟨by have:=h.len; omega,by have:=h.txt; omega⟩
theorem BD.app {out:List Qaa} {l l' : List Qac} (h:BD out l) {x:Qaa} (hx:x.Kind≠8) (hs:l' <:+ l) (hl:l'.length<l.length):BD (out++[x]) l' := by
 have h1:=Qya hs
 refine⟨by have:=h.len; simp; omega,?_⟩
 have:lastT (out++[x])=0:=by simp[lastT,hx]
 have:=h.txt
 omega
theorem BD.suf {out:List Qaa} {l l' : List Qac} (h:BD out l) (hs:l' <:+ l):BD out l' := by
 have h1:=Qya hs
 have h2:=hs.length_le
 exact⟨by have:=h.len; omega,by have:=h.txt; omega⟩
theorem BD.nil {L l:List Qac} (hL:Toks L) (h:l <:+ L):BD [] l:=by
 have h1:=Qya h
 have h2:=h.length_le
 have h3:=hL.len
 have h4:=hL.sum
 refine⟨by simp; omega,?_⟩
 have:tsum L≤200000:=h4
 simp only[lastT,List.getLast?_nil]
 omega
theorem litO {R:Type} (v:List Qaa) (s:List UInt8) (K:List Qaa→Option R) (h1:v.length≤400000) (h2:lastT v+s.length≤400000) :
  (( if(decide ((wr ((v.length:Int)-1)) ≥ 0)) then
     idx v (wr ((v.length:Int)-1))>>=fun x11 =>
     some (x11.Kind==8)
    else
     some false:Option (Bool))>>=fun o10 =>
   if o10 then
    idx v (wr ((v.length:Int)-1))>>=fun x12 =>
    need (x12.Text.length+s.length≤9223372036854775807)>>=fun _ =>
    idx v (wr ((v.length:Int)-1))>>=fun x13 =>
    K (v.set ((wr ((v.length:Int)-1)).toNat) (Qaa.mk x13.Kind x13.Name (x12.Text++s) x13.N x13.L x13.Then x13.Else))
   else
    appL 120 v ([(Qaa.mk 8 [] s 0 [] [] [])])>>=fun x14 =>
    K x14)=K (addLit v s):=by
 have ea:appL 120 v ([(Qaa.mk 8 [] s 0 [] [] [])])=some (v++[(Qaa.mk 8 [] s 0 [] [] [])]):=Qgc (by simp; omega) (by simp; omega)
 unfold addLit
 cases hx:v.getLast? with
 | none =>
  have:v=[]:=by simpa using hx
  subst this
  have e:decide ((wr ((([]:List Qaa).length:Int)-1)) ≥ 0)=false:=by decide
  simp only[e,Bool.false_eq_true,if_false,Qad,ea]
 | some x =>
  have hne:v≠[]:=fun e=>by subst e; simp at hx
  have h0:0<v.length:=List.length_pos_iff.2 hne
  have ew:wr ((v.length:Int)-1)=((v.length-1:Nat):Int):=by rw[wr_in (by omega) (by omega)]; omega
  have ei:idx v (wr ((v.length:Int)-1))=some x:=by
   rw[ew,Qb0,← List.getLast?_eq_getElem?,hx]
  have e:decide ((wr ((v.length:Int)-1)) ≥ 0)=true:=by rw[ew]; simp
  simp only[e,if_true,ei,Qad]
  by_cases h8:x.Kind=8
  ·have hl:lastT v=x.Text.length:=by simp[lastT,hx,h8]
   have e8:(x.Kind==8)=true:=by simpa using h8
   simp only[e8,if_true,if_pos h8,Qad,Qgz (show x.Text.length+s.length≤9223372036854775807 by omega),ew,Int.toNat_natCast]
  ·have e8:(x.Kind==8)=false:=by simpa using h8
   simp only[e8,Bool.false_eq_true,if_false,if_neg h8,ea,Qad]
theorem Q0a {B:Bool→Bool→List Qac→Rs (List Qaa)} {l:List Qac} {x:Qaa} {l' : List Qac} (h:actR B l = .ok x l'):x.Kind≠8:=by
 have hb:∀ {α β : Type} {r:Rs α} {f : α → List Qac→Rs β} {y : β} {l' : List Qac},r.bind f = .ok y l' → ∃ a l1,r = .ok a l1∧f a l1 = .ok y l' := fun {α β r f y l'} h=>by
  cases r with
  | ok a l1=>exact⟨a,l1,rfl,h⟩
  | bad l1=>cases h
 unfold actR at h
 split at h
 ·obtain⟨a,l1,-,h⟩:=hb h
  obtain⟨b,l2,-,h⟩:=hb h
  split at h
  ·obtain⟨c,l3,-,h⟩:=hb h
   obtain⟨d,l4,-,h⟩:=hb h
   obtain⟨e,l5,-,h⟩:=hb h
   cases h; simp
  ·obtain⟨e,l5,-,h⟩:=hb h
   cases h; simp
 split at h
 ·obtain⟨a,l1,-,h⟩:=hb h
  obtain⟨b,l2,-,h⟩:=hb h
  obtain⟨c,l3,-,h⟩:=hb h
  obtain⟨d,l4,-,h⟩:=hb h
  obtain⟨e,l5,-,h⟩:=hb h
  cases h; simp
 split at h
 ·obtain⟨a,l1,-,h⟩:=hb h
  obtain⟨b,l2,-,h⟩:=hb h
  obtain⟨c,l3,-,h⟩:=hb h
  obtain⟨d,l4,-,h⟩:=hb h
  obtain⟨e,l5,-,h⟩:=hb h
  cases h; simp
 split at h
 ·obtain⟨a,l1,-,h⟩:=hb h
  obtain⟨b,l2,-,h⟩:=hb h
  cases h; simp
 ·obtain⟨a,l1,-,h⟩:=hb h
  cases h; simp
def Suf0 {α : Type} (l:List Qac):Rs α → Prop
 | .ok _ l' => l' <:+ l
 | .bad l' => l' <:+ l
theorem Suf.suf0 {α : Type} {l:List Qac} {r:Rs α} (h:Suf l r):Suf0 l r:=by
 cases r with
 | ok x l' => exact h.1
 | bad l' => exact h
theorem Suf0.mono {α : Type} {l l' : List Qac} {r:Rs α} (h:Suf0 l' r) (hs:l' <:+ l):Suf0 l r:=by
 cases r with
 | ok x l2=>exact List.IsSuffix.trans h hs
 | bad l2=>exact List.IsSuffix.trans h hs
theorem Suf.bind0 {α β : Type} {l:List Qac} {r:Rs α} {f : α → List Qac→Rs β} (h:Suf l r) (hf:∀ x l', Suf0 l' (f x l')):Suf l (r.bind f):=by
 cases r with
 | ok x l' =>
  have:=hf x l'
  show Suf l (f x l')
  cases hx:f x l' with
  | ok y l2=>rw[hx] at this; exact⟨List.IsSuffix.trans this h.1,by have:=List.IsSuffix.length_le this; have:=h.2; omega⟩
  | bad l2=>rw[hx] at this; exact List.IsSuffix.trans this h.1
 | bad l' => exact h
theorem Suf0.bind {α β : Type} {l:List Qac} {r:Rs α} {f : α → List Qac→Rs β} (h:Suf0 l r) (hf:∀ x l', Suf0 l' (f x l')):Suf0 l (r.bind f):=by
 cases r with
 | ok x l' => exact(hf x l').mono h
 | bad l' => exact h
theorem Suf0.ret {α : Type} (x : α) (l:List Qac):Suf0 l (.ok x l):=List.suffix_refl l
theorem Qyb {B:Bool→Bool→List Qac→Rs (List Qaa)} (hB:∀ i o l,Suf0 l (B i o l)) (l:List Qac):Suf l (actR B l):=by
 have e0:=fun w l=>(Qx9 w l).suf0
 unfold actR
 split
 ·refine Qif (Suf.bind0 (Qdq _) fun x l1=>Suf0.bind (hB _ _ _) fun y l2=>?_)
  split
  ·exact Suf0.bind (e0 _ _) fun _ l3=>Suf0.bind (hB _ _ _) fun _ l4=>Suf0.bind (e0 _ _) fun _ _ =>.ret _ _
  ·exact Suf0.bind (e0 _ _) fun _ _ =>.ret _ _
 split
 ·exact Qif (Suf.bind0 (Qer _) fun _ _=>Suf0.bind (Qq4 _ _).suf0 fun _ _=>Suf0.bind (Qdq _).suf0 fun _ _=>Suf0.bind (hB _ _ _) fun _ _=>Suf0.bind (e0 _ _) fun _ _ =>.ret _ _)
 split
 ·exact Qif (Suf.bind0 (Qer _) fun _ _=>Suf0.bind (Qf8 (by decide) _).suf0 fun _ _=>Suf0.bind (Qdq _).suf0 fun _ _=>Suf0.bind (hB _ _ _) fun _ _=>Suf0.bind (e0 _ _) fun _ _ =>.ret _ _)
 split
 ·exact Qif (Suf.bind0 (Qer _) fun _ _=>Suf0.bind (Qdq _).suf0 fun _ _ =>.ret _ _)
 ·exact Suf.bind0 (Qdq _) fun _ _ =>.ret _ _
theorem Qfy:∀ (f:Nat) (i o:Bool) (out:List Qaa) (l:List Qac),Suf0 l (loopR f i o out l)
 | 0,_,_,_,l=>List.suffix_refl l
 | f+1,i,o,out,l=>by
  unfold loopR
  split
  ·exact .ret _ _
  split
  ·exact(Qfy f _ _ _ _).mono (List.tail_suffix l)
  split
  ·exact .ret _ _
  split
  ·split
   ·exact(Qfy f _ _ _ _).mono ((List.tail_suffix _).trans (List.tail_suffix l))
   ·exact Suf0.bind ((Qyb (fun i o l=>Qfy f i o [] l) _).suf0.mono (List.tail_suffix l)) fun _ _=>Qfy f _ _ _ _
  ·exact List.suffix_refl l
def Stops (i o:Bool):Rs (List Qaa)→Prop
 | .ok _ l=>l=[]∨(i&&ahead wEnd l)=true∨(o&&ahead wElse l)=true
 | .bad _=>True
theorem Qjx:∀ (f:Nat) (i o:Bool) (out:List Qaa) (l:List Qac),Stops i o (loopR f i o out l)
 | 0,_,_,_,l=>trivial
 | f+1,i,o,out,l=>by
  unfold loopR
  split
  ·rename_i h; exact .inl h
  split
  ·exact Qjx f _ _ _ _
  split
  ·rename_i h
   simp only[Bool.or_eq_true] at h
   exact .inr h
  split
  ·split
   ·exact Qjx f _ _ _ _
   ·cases actR (fun i o l=>loopR f i o [] l) l.tail with
    | ok x l2=>exact Qjx f _ _ _ _
    | bad l2=>trivial
  ·trivial
theorem Qoa {w:List UInt8} {l:List Qac} (h:ahead w l=true):kd l=2∧isW w l.tail=true:=by
 simp only[ahead,Bool.and_eq_true,beq_iff_eq] at h
 exact h
theorem Q1r {w v:List UInt8} {l:List Qac} (h:isW w l=true) (hv:isW v l=true):w=v:=by
 simp only[isW,Bool.and_eq_true,beq_iff_eq] at h hv
 exact h.2.symm.trans hv.2
theorem Qwj {w:List UInt8} {l:List Qac} (h:ahead w l=true):endW w l=(want 3 l.tail.tail).bind fun _ l3 =>.ok () l3:=by
 obtain⟨h1,h2⟩:=Qoa h
 simp only[endW,want,if_pos h1,Rs.bind,wantW,if_pos h2]
theorem Q6l (w:List UInt8):endW w [] = .bad []:=by simp[endW,want,Rs.bind]
def cBlk (i:Bool) (L:List Qac):Rs (List Qaa)→((List Qaa)×Int×Int)⊕Int
 | .bad l' =>.inr (pos L l')
 | .ok out l' => if l' = [] then(if i=true then .inr (pos L []) else .inl (out,2,pos L [])) else match want 3 l'.tail.tail with
  | .ok _ l2 =>.inl (out,(if(i&&ahead wEnd l')=true then 0 else 1),pos L l2)
  | .bad l2 =>.inr (pos L l2)
theorem Q0b {L:List Qac} {o:Bool} {y:List Qaa} {l2:List Qac} (h:Stops true o (.ok y l2)):cBlk true L (.ok y l2) =
  if ahead wElse l2=true then(match endW wElse l2 with | .ok _ l3 =>.inl (y,1,pos L l3) | .bad l3 =>.inr (pos L l3)) else(match endW wEnd l2 with | .ok _ l3 =>.inl (y,0,pos L l3) | .bad l3 =>.inr (pos L l3)):=by
 simp only[cBlk]
 by_cases hn:l2=[]
 ·subst hn
  have:ahead wElse []=false:=rfl
  simp[this,Q6l]
 ·rw[if_neg hn]
  by_cases he:ahead wElse l2=true
  ·have hnd:ahead wEnd l2=false:=by
    cases hh:ahead wEnd l2 with
    | false=>rfl
    | true=>exact absurd (Q1r (Qoa he).2 (Qoa hh).2) (by decide)
   rw[if_pos he,Qwj he]
   simp only[hnd,Bool.and_false,Bool.false_eq_true,if_false]
   cases want 3 l2.tail.tail<;>rfl
  ·have hd:ahead wEnd l2=true:=by
    rcases h with h | h | h
    ·exact absurd h hn
    ·simpa using h
    ·simp only[Bool.and_eq_true] at h; exact absurd h.2 he
   rw[if_neg he,Qwj hd]
   simp only[hd,Bool.and_true,if_true]
   cases want 3 l2.tail.tail<;>rfl
theorem Q2s {L:List Qac} {y:List Qaa} {l2:List Qac} (h:Stops true false (.ok y l2)):cBlk true L (.ok y l2)=match endW wEnd l2 with | .ok _ l3 =>.inl (y,0,pos L l3) | .bad l3 =>.inr (pos L l3):=by
 rw[Q0b h]
 have:¬ ahead wElse l2=true:=fun he=>by
  rcases h with h | h | h
  ·subst h; simp[ahead] at he
  ·simp only[Bool.and_eq_true] at h
   exact absurd (Q1r (Qoa he).2 (Qoa h.2).2) (by decide)
  ·simp at h
 rw[if_neg this]
def cB (i:Bool) (L:List Qac):Rs (List Qaa)→((List Qaa)×Int)⊕((List Qaa)×Int×Int)⊕Int
 | .bad l' =>.inr (.inr (pos L l'))
 | .ok out l' => if l' = [] then .inl (out,pos L []) else match want 3 l'.tail.tail with
  | .ok _ l2 =>.inr (.inl (out,(if(i&&ahead wEnd l')=true then 0 else 1),pos L l2))
  | .bad l2 =>.inr (.inr (pos L l2))
section
variable {L:List Qac} (hL:Toks L)
include hL
def PB (L:List Qac) (n:Nat) (B:Bool→Bool→List Qac→Rs (List Qaa)):Prop:=∀ i o l,l <:+ L→l.length<n→Qa1 i o L (pos L l)=some (cBlk i L (B i o l))
theorem pStmt {n:Nat} {B:Bool→Bool→List Qac→Rs (List Qaa)} (hB:PB L n B) (hS:∀ i o l,Suf0 l (B i o l)) (hT:∀ i o l,Stops i o (B i o l)) {l:List Qac} (h:l <:+ L) (hn:l.length≤n):Qfp L (pos L l)=some (cP L (actR B l)):=by
 rw[Qfp,pWord hL h,Qad]
 unfold actR
 have hblk:∀ (k:Int) (s:List UInt8) (x:Qaa) (l3:List Qac),l3 <:+ L→l3.length<n→(Qa1 true false L (pos L l3)>>=fun o23 =>
      match o23 with
      | .inl x22 =>
       some (.inl ((Qaa.mk k s [] 0 [x] x22.1 []),x22.2.2))
      | .inr z24 =>
       some (.inr z24):Option ((Qaa×Int)⊕Int))=some (cP L ((B true false l3).bind fun y l4=>(endW wEnd l4).bind fun _ l5 =>.ok ⟨k,s,[],0,[x],y,[]⟩ l5)):=fun k s x l3 t3 n3=>by
  rw[hB true false l3 t3 n3,Qad]
  have st:=hT true false l3
  cases hb:B true false l3 with
  | bad l4=>simp[cBlk,Rs.bind,cP]
  | ok y l4 =>
   rw[hb] at st
   rw[Q2s st]
   simp only[Rs.bind]
   cases endW wEnd l4 with
   | ok u l5=>simp[cP]
   | bad l5=>simp[cP]
 by_cases w1:isW wIf l=true
 ·have t1:=Qa8 h
  have n1:=Qb8 (Qd2 w1)
  simp only[if_pos w1,if_true,pClosed hL t1,Qad]
  have s1:=Qdq l.tail
  cases hc:closedR l.tail with
  | bad l1=>simp[Rs.bind,cP]
  | ok x l1 =>
   rw[hc] at s1
   have t2:l1 <:+ L:=s1.1.trans t1
   have n2:l1.length<n:=by have:=s1.2; omega
   simp only[Rs.bind,hB true true l1 t2 n2,Qad]
   have st:=hT true true l1
   have s2:=hS true true l1
   cases hb:B true true l1 with
   | bad l2=>simp[cBlk,cP]
   | ok y l2 =>
    rw[hb] at st s2
    rw[Q0b st]
    simp only
    have t3:l2 <:+ L:=List.IsSuffix.trans s2 t2
    by_cases he:ahead wElse l2=true
    ·rw[if_pos he,if_pos he]
     have s3:=Qx9 wElse l2
     cases hz:endW wElse l2 with
     | bad l3=>simp[cP]
     | ok u l3 =>
      rw[hz] at s3
      have t4:l3 <:+ L:=s3.1.trans t3
      have n4:l3.length<n:=by have:=s3.2; have:=List.IsSuffix.length_le s2; omega
      simp only[beq_self_eq_true,if_true,hB true false l3 t4 n4,Qad]
      have st2:=hT true false l3
      cases hb2:B true false l3 with
      | bad l4=>simp[cBlk,cP]
      | ok z l4 =>
       rw[hb2] at st2
       rw[Q2s st2]
       simp only
       cases endW wEnd l4 with
       | ok u l5=>simp[cP]
       | bad l5=>simp[cP]
    ·rw[if_neg he,if_neg he]
     cases hz:endW wEnd l2 with
     | bad l3=>simp[cP]
     | ok u l3 =>
      have e01:((0:Int)==1)=false:=rfl
      simp only[e01,Bool.false_eq_true,if_false,cP]
 simp only[if_neg w1,Bool.false_eq_true,if_false,pWord hL h,Qad]
 by_cases w2:isW wEach l=true
 ·have t1:=Qa8 h
  have n1:=Qb8 (Qd2 w2)
  simp only[if_pos w2,if_true,pName hL t1,Qad]
  have s1:=Qer l.tail
  cases hc:nameR l.tail with
  | bad l1 =>
   have:l1=l.tail:=by unfold nameR at hc; split at hc<;>cases hc; rfl
   subst this
   simp[Rs.bind,cP]
  | ok s l1 =>
   rw[hc] at s1
   have t2:l1 <:+ L:=s1.1.trans t1
   simp only[Rs.bind,pWord hL t2,Qad,Qa0,mustO,wantW]
   by_cases wi:isW wIn l1=true
   ·have t3:=Qa8 t2
    have n3:=Qb8 (Qd2 wi)
    simp only[if_pos wi,if_true,pClosed hL t3,Qad]
    have s3:=Qdq l1.tail
    cases hc2:closedR l1.tail with
    | bad l3=>simp[cP]
    | ok x l3 =>
     rw[hc2] at s3
     simp only
     exact hblk 11 s x l3 (s3.1.trans t3) (by have:=s3.2; have:=s1.2; omega)
   ·simp[if_neg wi,cP]
 simp only[if_neg w2,Bool.false_eq_true,if_false,pWord hL h,Qad]
 by_cases w3:isW wLet l=true
 ·have t1:=Qa8 h
  have n1:=Qb8 (Qd2 w3)
  simp only[if_pos w3,if_true,pName hL t1,Qad]
  have s1:=Qer l.tail
  cases hc:nameR l.tail with
  | bad l1 =>
   have:l1=l.tail:=by unfold nameR at hc; split at hc<;>cases hc; rfl
   subst this
   simp[Rs.bind,cP]
  | ok s l1 =>
   rw[hc] at s1
   have t2:l1 <:+ L:=s1.1.trans t1
   simp only[Rs.bind,pWant hL t2 11 (by decide),Qad]
   by_cases wi:kd l1=11
   ·have t3:=Qa8 t2
    have n3:=Qb8 (kd_ne (by decide) wi)
    simp only[if_pos wi,Qgo hL wi,pClosed hL t3,Qad]
    have s3:=Qdq l1.tail
    cases hc2:closedR l1.tail with
    | bad l3=>simp[cP]
    | ok x l3 =>
     rw[hc2] at s3
     simp only
     exact hblk 12 s x l3 (s3.1.trans t3) (by have:=s3.2; have:=s1.2; omega)
   ·simp[if_neg wi,Qek hL wi,cP]
 simp only[if_neg w3,Bool.false_eq_true,if_false,pWord hL h,Qad]
 by_cases w4:isW wUse l=true
 ·have t1:=Qa8 h
  simp only[if_pos w4,if_true,pName hL t1,Qad]
  have s1:=Qer l.tail
  cases hc:nameR l.tail with
  | bad l1 =>
   have:l1=l.tail:=by unfold nameR at hc; split at hc<;>cases hc; rfl
   subst this
   simp[Rs.bind,cP]
  | ok s l1 =>
   rw[hc] at s1
   have t2:l1 <:+ L:=s1.1.trans t1
   simp only[Rs.bind,pClosed hL t2,Qad]
   cases closedR l1 with
   | bad l3=>simp[cP]
   | ok x l3=>simp[cP]
 simp only[if_neg w4,Bool.false_eq_true,if_false,pClosed hL h,Qad]
 cases closedR l with
 | bad l3=>simp[cP,Rs.bind]
 | ok x l3=>simp[cP,Rs.bind]
theorem p1Step {f:Nat} (hB:PB L f (fun i o l=>loopR f i o [] l)) (ih:∀ (i o:Bool) (out:List Qaa) (l:List Qac),l <:+ L→l.length<f→BD out l→Qaw i o L out (pos L l)=some (cB i L (loopR f i o out l)))
  (i o:Bool) (out:List Qaa) (l:List Qac) (h:l <:+ L) (hn:l.length<f+1) (hd0:BD out l):Qaw i o L out (pos L l)=some (cB i L (loopR (f+1) i o out l)):=by
 rw[Qaw,loopR]
 by_cases hne:l=[]
 ·subst hne
  have e:decide (pos L []<(L.length:Int))=false:=by rw[Qqa]; simp
  simp[e,cB]
 have e:decide (pos L l<(L.length:Int))=true:=(Qn9 h hne).2.2
 have t1:=Qa8 h
 have n1:=Qb8 hne
 simp only[e,if_true,pNext hL h,Qad,if_neg hne,pSign hL h 1 (by decide)]
 by_cases k1:kd l=1
 ·simp only[if_pos k1,if_true]
  refine(litO out (hd l).Text (fun v=>Qaw i o L v (pos L l.tail)) (by have:=hd0.len; omega) (by have:=hd0.txt; have:=Qux l; omega)).trans ?_
  exact ih i o _ l.tail t1 (by omega) (hd0.lit hne)
 simp only[if_neg k1,Bool.false_eq_true,if_false,pWant hL h 2 (by decide),Qad]
 by_cases k2:kd l=2
 ·have ha:∀ w,ahead w l=isW w l.tail:=fun w=>by simp[ahead,k2]
  simp only[if_pos k2,pSign hL t1 3 (by decide),Qad,ha]
  by_cases k3:kd l.tail=3
  ·have hw:∀ w,isW w l.tail=false:=fun w=>by simp[isW,k3]
   have n2:=Qb8 (kd_ne (by decide) k3)
   simp only[if_pos k3,if_true,hw,Bool.and_false,Bool.or_self,Bool.false_eq_true,if_false]
   exact ih i o out l.tail.tail (Qa8 t1) (by omega) (hd0.suf ((List.tail_suffix _).trans (List.tail_suffix l)))
  ·simp only[if_neg k3,Bool.false_eq_true,if_false]
   have t2:=Qa8 t1
   by_cases c1:(i&&isW wEnd l.tail)=true
   ·simp only[Bool.and_eq_true] at c1
    obtain⟨ci,cw⟩:=c1
    subst ci
    have cw' : isW [101,110,100] l.tail=true:=cw
    simp only[if_true,pWord hL t1,cw', Qad,pWant hL t2 3 (by decide),Bool.true_and,cw,Bool.true_or]
    simp only[cB,if_neg hne,ha,Bool.true_and,cw,if_true]
    by_cases k4:kd l.tail.tail=3
    ·simp only[if_pos k4,Qgo hL k4]
    ·simp only[if_neg k4,Qek hL k4]
   have e19:(( if i then
       Qau [101,110,100] L (pos L l.tail)>>=fun x20 =>
       some (x20.1,x20.2)
      else
       some (false,(pos L l.tail)):Option ((Bool×Int))))=some (false,pos L l.tail):=by
    cases i with
    | false=>rfl
    | true =>
     have cw:¬ isW [101,110,100] l.tail=true:=by simpa using c1
     simp only[if_true,pWord hL t1,Qad,if_neg cw]
   simp only[e19,Qad,Bool.false_eq_true,if_false]
   have c1' : (i&&isW wEnd l.tail)=false:=by simpa using c1
   rw[c1', Bool.false_or]
   by_cases c2:(o&&isW wElse l.tail)=true
   ·simp only[Bool.and_eq_true] at c2
    obtain⟨co,cw⟩:=c2
    subst co
    have cw' : isW [101,108,115,101] l.tail=true:=cw
    simp only[if_true,pWord hL t1,cw', Qad,pWant hL t2 3 (by decide),Bool.true_and,cw]
    simp only[cB,if_neg hne,ha,c1', Bool.false_eq_true,if_false]
    by_cases k4:kd l.tail.tail=3
    ·simp only[if_pos k4,Qgo hL k4]
    ·simp only[if_neg k4,Qek hL k4]
   have e24:(( if o then
       Qau [101,108,115,101] L (pos L l.tail)>>=fun x25 =>
       some (x25.1,x25.2)
      else
       some (false,(pos L l.tail)):Option ((Bool×Int))))=some (false,pos L l.tail):=by
    cases o with
    | false=>rfl
    | true =>
     have cw:¬ isW [101,108,115,101] l.tail=true:=by simpa using c2
     simp only[if_true,pWord hL t1,Qad,if_neg cw]
   simp only[e24,Qad,Bool.false_eq_true,if_false,if_neg c2]
   rw[pStmt hL hB (fun i o l=>Qfy f i o [] l) (fun i o l=>Qjx f i o [] l) t1 (by omega),Qad]
   have s1:=Qyb (fun i o l=>Qfy f i o [] l) l.tail
   cases hx:actR (fun i o l=>loopR f i o [] l) l.tail with
   | bad l2=>simp only[cP,Rs.bind,cB]
   | ok x l2 =>
    rw[hx] at s1
    have s2:l2 <:+ l:=s1.1.trans (List.tail_suffix l)
    simp only[cP,Rs.bind,Qgc (show(out.length+[x].length)*120≤140737488355328 by have:=hd0.len; simp; omega) (by have:=hd0.len; simp; omega),Qad]
    exact ih i o (out++[x]) l2 (s2.trans h) (by have:=s1.2; omega) (hd0.app (Q0a hx) s2 (by have:=s1.2; omega))
 ·have ha:∀ w,ahead w l=false:=fun w=>by simp[ahead,k2]
  simp only[if_neg k2,ha,Bool.and_false,Bool.or_self,Bool.false_eq_true,if_false,cB]
theorem pBlock1 {f:Nat} (hl:∀ (i o:Bool) (out:List Qaa) (l:List Qac),l <:+ L→l.length<f→BD out l→Qaw i o L out (pos L l)=some (cB i L (loopR f i o out l))):PB L f (fun i o l=>loopR f i o [] l):=fun i o l h hn=>by
 show Qa1 i o L (pos L l)=some (cBlk i L (loopR f i o [] l))
 rw[Qa1,Qeh,hl i o [] l h hn (.nil hL h),Qad]
 cases hx:loopR f i o [] l with
 | bad l' => simp only[cB,Qad,cBlk]
 | ok out l' =>
  simp only[cB,cBlk]
  by_cases hne:l' = []
  ·subst hne
   simp only[if_true]
   cases i with
   | false=>simp[Qa0,mustO]
   | true=>simp[Qa0,mustO]
  ·simp only[if_neg hne]
   cases want 3 l'.tail.tail with
   | ok u l2=>simp only[Qad]
   | bad l2=>simp only[Qad]
theorem pLoop:∀ (f:Nat) (i o:Bool) (out:List Qaa) (l:List Qac),l <:+ L→l.length<f→BD out l→Qaw i o L out (pos L l)=some (cB i L (loopR f i o out l))
 | 0=>fun i o out l h hn _=>absurd hn (by omega)
 | f+1=>fun i o out l h hn hd=>p1Step hL (pBlock1 hL (pLoop f)) (pLoop f) i o out l h hn hd
theorem pBlk (i o:Bool) {l:List Qac} (h:l <:+ L):Qa1 i o L (pos L l)=some (cBlk i L (bl20 i o l)) :=
 pBlock1 hL (pLoop hL (l.length+1)) i o l h (by omega)
end
end Go.Proofs.YtagokkpnfceidaaGreatDoor
end
