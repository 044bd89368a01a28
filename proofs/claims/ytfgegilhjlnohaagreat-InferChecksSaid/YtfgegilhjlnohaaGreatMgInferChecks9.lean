/- Part 9 of 13. -/
import Derived.Test.YtfgegilhjlnohaaGreatMgInferChecks8

noncomputable section
set_option linter.unusedVariables false
set_option linter.unusedSimpArgs false
set_option maxRecDepth 100000
set_option maxHeartbeats 4000000
namespace Go.Proofs.YtfgegilhjlnohaaGreat
open Go.RowKit
theorem Qadi:(∀ (p0:(List Qab)) (o:(List (List UInt8))),Qep p0=some o->CallOK Tryz.prog 45 [.p (.sl false (p0.map Qaa))] ⟨[],[]⟩ (Qyu o) ⟨[],[(o.map cStr).length]⟩)/\(∀ (p0:(List Qab)) (v3:(List (List UInt8))) (v4:Int) (o1:(List (List UInt8))),Qgl p0 v3 v4=some o1->TL (0,0) Tryz.prog 53 Q9d (JP1 (0,0) 53 o1 (.exit 0) (Qvp p0)) (Qoq p0 v3 v4)):=by
 refine Qep.mutual_partial_correctness _ _ ?_ ?_
 .intro Qgl' iQgl p0 o h;refine CallOK.ofBN mixed tbOk Qwc Tryz.func45 rfl (by kernel_rfl) (Nat.le_of_ble_eq_true rfl) rfl rfl (Nat.le_of_ble_eq_true rfl) ?_;refine Qah h (λo1 ho hk=>?_);refine Exists.intro (JP1 _ _ o1 (.exit 0) (Qvp p0)) (And.intro (Qf5 (τ := Qoq p0 [] 0) ?_ (TL.loop (iQgl p0 [] 0 o1 ho))) (Qaz ?_))
  .exact Le.trans (τ := ⟨[(0,.p (.sl false (p0.map Qaa))),(3,.p (.sl true [])),(4,.p (iV 0))],⟨[],[]⟩⟩) (Le.ty 0 0) ((Le.own 3 9 1 rfl Qv8).trans (Le.ty 0 1))
  have h:=hk;refine Exists.intro _ (And.intro (Le.refl _ _ _) ?_);exact Q19 (t:=Qyu) (ss:=λo=>⟨[],[(o.map cStr).length]⟩) h ⟨[],[0],rfl,rfl,.refl _,.refl _,rfl,rfl⟩
 .intro Qep' Qgl' iQep iQgl p0 v3 v4 o1 h;refine TL.round (Qan mixed tbOk (lv:=Qwc) _ _ _ ?_);refine view (Qau _ _) rfl ?_;refine Qac h (λhb h=>?_) (λhb h=>?_)
  .refine Qah h (λo2 ho hk=>?_);refine Exists.intro (JP1 _ _ o2 .normal (Q9b p0 v4)) (And.intro ?_ (Qaz ?_))
   .have h:=ho;refine Qay (l:=p0) (c:=Qaa) (c' := Qa1) h Qao (λ_=>rfl) (by decide) (λx3 hi h=>?_);refine Qac h (λhb h=>?_) (λhb h=>?_)
    .refine Qay (l:=p0) (c:=Qaa) (c' := Qa1) h Qao (λ_=>rfl) (by decide) (λx4 hi h=>?_);refine Or.inr ?_;refine Q8h _ _ h (λx5 hy=>((Qwg v3 x4.Name x5 hy).fr [] [0] rfl rfl rfl)) (λx5 hy h=>?_);exact JP1.a h (Le.ty 0 1)
    .exact JP1.a h (Le.ty 0 1)
   .have h:=hk;refine And.intro (by decide +kernel) (And.intro rfl ?_);refine Qay (l:=p0) (c:=Qaa) (c' := Qa1) h Qao (λ_=>rfl) (by decide) (λx6 hi h=>?_);refine Q8f _ _ h (λx7 hy=>((iQep x6.Then x7 hy).ft rfl [] rfl rfl rfl)) (λx7 hy h=>?_);refine Qay (l:=p0) (c:=Qaa) (c' := Qa1) h Qao (λ_=>rfl) (by decide) (λx8 hi h=>?_);refine Q8f _ _ h (λx9 hy=>((iQep x8.Else x9 hy).ft rfl [] rfl rfl rfl)) (λx9 hy h=>?_);refine Qhp (a:=x7) (b:=x9) (c:=cStr) h (.refl _) (λ_=>rfl) rfl (λx10 hi h=>?_);refine Qah h (λo11 ho hk=>?_);refine Exists.intro (JP1 _ _ o11 (.exit 2) (Qvo p0 v4 x9 x10)) (And.intro (Qf5 (τ := Qop p0 v4 x9 x10 o2 0) ?_ (TL.loop (Qaml p0 v4 x9 x10 o2 0 o11 ho))) (Qaz ?_))
    .exact Le.ty 0 3
    have h:=hk;refine TL.le (τ := Qoq p0 o11 (wr (v4+1))) ?_ ((iQgl p0 o11 (wr (v4+1)) _ h));exact Le.ty 0 1
  .exact JP1.a h (Le.ty 0 1)
theorem Qwh:∀ (p0:(List Qab)) (o:(List (List UInt8))),Qep p0=some o->CallOK Tryz.prog 45 [.p (.sl false (p0.map Qaa))] ⟨[],[]⟩ (Qyu o) ⟨[],[(o.map cStr).length]⟩:=λp0=>Qadi.1 p0
def Qgm (p0:(List Qae)) (v7:Int):Option (Unit⊕(List UInt8)) :=
 if(decide (v7<(p0.length:Int))) then
  idx p0 v7>>=λx17 =>
  Qep x17.L>>=λx18 =>
  (Qgj p0 v7 x18 0)>>=λo19 =>
  match o19 with
  | .inl y20 =>
   Qgm p0 (wr (v7+1))
  | .inr y21 =>
   some (.inr y21)
 else
  some (.inl ())
 partial_fixpoint
theorem Qakg:∀ (p0:(List Qae)),(∀ (v7:Int) (o14:Unit⊕(List UInt8)),Qgm p0 v7=some o14->TL (0,0) Tryz.prog 119 Q4q (JP2 (0,0) 119 o14 (.exit 2) (Qso p0) .ret (Qsp p0)) (Qm4 p0 v7)):=by
 intro p0;refine Qgm.partial_correctness p0 _ ?_;intro Qgm' iQgm v7 o14 h;refine TL.round (Qan mixed tbOk (lv:=Qk8) _ _ _ ?_);refine view (Qau _ _) rfl ?_;refine Qac h (λhb h=>?_) (λhb h=>?_)
 .refine Qay (l:=p0) (c:=Qaf) (c' := Qaf) h (λ_=>rfl) (λ_=>rfl) (by decide) (λx17 hi h=>?_);refine Qaq _ _ h (λx18 hy=>((Qwh x17.L x18 hy).fr [] [] rfl rfl rfl)) (λx18 hy h=>?_);refine Qah h (λo19 ho hk=>?_);refine Exists.intro (JP2 _ _ o19 (.exit 4) (Qsm p0 v7 x18) .ret (Qsn p0 v7 x18)) (And.intro (Qf5 (τ := Qm3 p0 v7 x18 0) ?_ (TL.loop (Qakf p0 v7 x18 0 o19 ho))) (Qer (λy20 hy=>?_) (λy21 hy=>?_)))
  .exact Le.ty 0 1
  .have h:=(by rw[hy] at hk; exact hk);refine TL.le (τ := Qm4 p0 (wr (v7+1))) ?_ ((iQgm (wr (v7+1)) _ h));exact Le.ty 0 0
  .have h:=(by rw[hy] at hk; exact hk);exact JP2.b h (Le.ty 0 0)
 .exact JP2.a h (Le.ty 0 0)
def Qgn (p0:(List Qae)) (v7:(List (List UInt8))) (v8:Int) (v10:Int) (x7:(List (List UInt8))) (v7__:(List (List UInt8))) (v14:Int):Option ((List (List UInt8))) :=
 if(decide (v14<(x7.length:Int))) then
  idx x7 v14>>=λx9 =>
  Qqh v7__ x9>>=λx10 =>
  Qgn p0 v7 v8 v10 x7 x10 (wr (v14+1))
 else
  some v7__
 partial_fixpoint
theorem Qakh:∀ (p0:(List Qae)) (v7:(List (List UInt8))) (v8:Int) (v10:Int) (x7:(List (List UInt8))),(∀ (v7__:(List (List UInt8))) (v14:Int) (o8:(List (List UInt8))),Qgn p0 v7 v8 v10 x7 v7__ v14=some o8->TL (0,0) Tryz.prog 60 Q4s (JP1 (0,0) 60 o8 (.exit 4) (Qst p0 v7 v8 v10 x7)) (Qm6 p0 v7 v8 v10 x7 v7__ v14)):=by
 intro p0 v7 v8 v10 x7;refine Qgn.partial_correctness p0 v7 v8 v10 x7 _ ?_;intro Qgn' iQgn v7__ v14 o8 h;refine TL.round (Qan mixed tbOk (lv:=Qnz) _ _ _ ?_);refine view (Qau _ _) rfl ?_;refine Qac h (λhb h=>?_) (λhb h=>?_)
 .refine Qay (l:=x7) (c:=cStr) (c' := cStr) h (λ_=>rfl) (λ_=>rfl) (by decide) (λx9 hi h=>?_);refine Or.inr ?_;refine Q8h _ _ h (λx10 hy=>((Qwg v7__ x9 x10 hy).fr [] [0] rfl rfl rfl)) (λx10 hy h=>?_);refine TL.le (τ := Qm6 p0 v7 v8 v10 x7 x10 (wr (v14+1))) ?_ ((iQgn x10 (wr (v14+1)) _ h));exact Le.ty 0 2
 .exact JP1.a h (Le.ty 0 2)
def Qgo (p0:(List Qae)) (v7:(List (List UInt8))) (v8:Int) (v7_:(List (List UInt8))) (v10:Int):Option ((List (List UInt8))) :=
 if(decide (v10<(v7.length:Int))) then
  idx v7 v10>>=λx5 =>
  Qh3 p0 x5>>=λx6 =>
  Qep x6.1>>=λx7 =>
  (Qgn p0 v7 v8 v10 x7 v7_ 0)>>=λo8 =>
  Qgo p0 v7 v8 o8 (wr (v10+1))
 else
  some v7_
 partial_fixpoint
theorem Qaki:∀ (p0:(List Qae)) (v7:(List (List UInt8))) (v8:Int),(∀ (v7_:(List (List UInt8))) (v10:Int) (o4:(List (List UInt8))),Qgo p0 v7 v8 v7_ v10=some o4->TL (0,0) Tryz.prog 60 Q4t (JP1 (0,0) 60 o4 (.exit 2) (Qsu p0 v7 v8)) (Qm7 p0 v7 v8 v7_ v10)):=by
 intro p0 v7 v8;refine Qgo.partial_correctness p0 v7 v8 _ ?_;intro Qgo' iQgo v7_ v10 o4 h;refine TL.round (Qan mixed tbOk (lv:=Qnz) _ _ _ ?_);refine view (Qau _ _) rfl ?_;refine Qac h (λhb h=>?_) (λhb h=>?_)
 .refine Qay (l:=v7) (c:=cStr) (c' := cStr) h (λ_=>rfl) (λ_=>rfl) (by decide) (λx5 hi h=>?_);refine Qam [.sl false (p0.map Qaf),sV x5] Qes h (λx6 hy=>(Qgh p0 x5 x6 hy)) (λx6 hy h=>?_);refine Qaq _ _ h (λx7 hy=>((Qwh x6.1 x7 hy).fr [] [] rfl rfl rfl)) (λx7 hy h=>?_);refine Qah h (λo8 ho hk=>?_);refine Exists.intro (JP1 _ _ o8 (.exit 4) (Qst p0 v7 v8 v10 x7)) (And.intro (Qf5 (τ := Qm6 p0 v7 v8 v10 x7 v7_ 0) ?_ (TL.loop (Qakh p0 v7 v8 v10 x7 v7_ 0 o8 ho))) (Qaz ?_))
  .exact Le.ty 0 2
  have h:=hk;refine TL.le (τ := Qm7 p0 v7 v8 o8 (wr (v10+1))) ?_ ((iQgo o8 (wr (v10+1)) _ h));exact Le.ty 0 1
 .exact JP1.a h (Le.ty 0 1)
def Qgp (p0:(List Qae)) (v7:(List (List UInt8))) (v8:Int):Option ((List (List UInt8))) :=
 if(decide (v8<(p0.length:Int))) then
  (Qgo p0 v7 v8 v7 0)>>=λo4 =>
  Qgp p0 o4 (wr (v8+1))
 else
  some v7
 partial_fixpoint
theorem Qakj:∀ (p0:(List Qae)),(∀ (v7:(List (List UInt8))) (v8:Int) (o3:(List (List UInt8))),Qgp p0 v7 v8=some o3->TL (0,0) Tryz.prog 60 Q4u (JP1 (0,0) 60 o3 (.exit 0) (Qsv p0)) (Qm8 p0 v7 v8)):=by
 intro p0;refine Qgp.partial_correctness p0 _ ?_;intro Qgp' iQgp v7 v8 o3 h;refine TL.round (Qan mixed tbOk (lv:=Qnz) _ _ _ ?_);refine view (Qau _ _) rfl ?_;refine Qac h (λhb h=>?_) (λhb h=>?_)
 .refine Qah h (λo4 ho hk=>?_);refine Exists.intro (JP1 _ _ o4 (.exit 2) (Qsu p0 v7 v8)) (And.intro (Qf5 (τ := Qm7 p0 v7 v8 v7 0) ?_ (TL.loop (Qaki p0 v7 v8 v7 0 o4 ho))) (Qaz ?_))
  .exact Le.tow 0 1 rfl (.cons rfl (.refl _) (.cons rfl (.refl _) (.cons rfl (.refl _) (.cons rfl (.drop rfl (.refl _)) (.cons rfl (.refl _) (.nil)))))) (.refl _) rfl
  have h:=hk;refine TL.le (τ := Qm8 p0 o4 (wr (v8+1))) ?_ ((iQgp o4 (wr (v8+1)) _ h));exact Le.ty 0 1
 .exact JP1.a h (Le.ty 0 1)
def Qs8 (p0:(List Qae)) (p1:(List UInt8)):Option ((List (List UInt8))) :=
 Qh3 p0 p1>>=λx1 =>
 Qep x1.1>>=λx2 =>
 (Qgp p0 x2 0)>>=λo3 =>
 some o3
theorem Qadj:∀ (p0:(List Qae)) (p1:(List UInt8)) (o:(List (List UInt8))),Qs8 p0 p1=some o->CallOK Tryz.prog 46 [.p (.sl false (p0.map Qaf)),.p (sV p1)] ⟨[],[]⟩ (Q2h o) ⟨[],[(o.map cStr).length]⟩:=by
 intro p0 p1 o h;unfold Qs8 at h;refine CallOK.ofBN mixed tbOk Qnz Tryz.func46 rfl (by kernel_rfl) (Nat.le_of_ble_eq_true rfl) rfl rfl (Nat.le_of_ble_eq_true rfl) ?_;refine Qam [.sl false (p0.map Qaf),sV p1] Qes h (λx1 hy=>(Qgh p0 p1 x1 hy)) (λx1 hy h=>?_);refine Qaq _ _ h (λx2 hy=>((Qwh x1.1 x2 hy).fr [] [] rfl rfl rfl)) (λx2 hy h=>?_);refine Qah h (λo3 ho hk=>?_);refine Exists.intro (JP1 _ _ o3 (.exit 0) (Qsv p0)) (And.intro (Qf5 (τ := Qm8 p0 x2 0) ?_ (TL.loop (Qakj p0 x2 0 o3 ho))) (Qaz ?_))
 .exact Le.ty 0 1
 have h:=hk;refine Exists.intro _ (And.intro (Le.refl _ _ _) ?_);exact Q19 (t:=Q2h) (ss:=λo=>⟨[],[(o.map cStr).length]⟩) h ⟨[],[0],rfl,rfl,.refl _,.refl _,rfl,rfl⟩
def Qgq (p0:(List Qae)) (v12:Int):Option (Unit⊕(List UInt8)) :=
 if(decide (v12<(p0.length:Int))) then
  idx p0 v12>>=λx28 =>
  Qs8 p0 x28.Name>>=λx29 =>
  idx p0 v12>>=λx30 =>
  Q2z x29 x30.Name>>=λx31 =>
  if x31 then
   idx p0 v12>>=λx32 =>
   some (.inr x32.Name)
  else
   Qgq p0 (wr (v12+1))
 else
  some (.inl ())
 partial_fixpoint
theorem Qakk:∀ (p0:(List Qae)),(∀ (v12:Int) (o25:Unit⊕(List UInt8)),Qgq p0 v12=some o25->TL (0,0) Tryz.prog 119 Q4r (JP2 (0,0) 119 o25 (.exit 6) (Qsq p0) .ret (Qsr p0)) (Qm5 p0 v12)):=by
 intro p0;refine Qgq.partial_correctness p0 _ ?_;intro Qgq' iQgq v12 o25 h;refine TL.round (Qan mixed tbOk (lv:=Qk8) _ _ _ ?_);refine view (Qau _ _) rfl ?_;refine Qac h (λhb h=>?_) (λhb h=>?_)
 .refine And.intro (by decide +kernel) (And.intro rfl ?_);refine Qay (l:=p0) (c:=Qaf) (c' := Qaf) h (λ_=>rfl) (λ_=>rfl) (by decide) (λx28 hi h=>?_);refine Q8f _ _ h (λx29 hy=>((Qadj p0 x28.Name x29 hy).ft rfl [] rfl rfl rfl)) (λx29 hy h=>?_);refine Qay (l:=p0) (c:=Qaf) (c' := Qaf) h (λ_=>rfl) (λ_=>rfl) (by decide) (λx30 hi h=>?_);refine Qcf [.sl false (x29.map cStr),sV x30.Name] Qua h (λx31 hy=>(Q20 x29 x30.Name x31 hy)) (λx31 hy h=>?_);refine Qac h (λhb h=>?_) (λhb h=>?_)
  .refine Qay (l:=p0) (c:=Qaf) (c' := Qaf) h (λ_=>rfl) (λ_=>rfl) (by decide) (λx32 hi h=>?_);exact JP2.b h (Le.ty 0 0)
  .refine TL.le (τ := Qm5 p0 (wr (v12+1))) ?_ ((iQgq (wr (v12+1)) _ h));exact Le.ty 0 0
 .exact JP2.a h (Le.ty 0 0)
def Qpl (p0:(List Qae)):Option ((List UInt8)×Int) :=
 if(decide ((p0.length:Int)>16)) then
  some ([],5)
 else
  (Qgi p0 0)>>=λo1 =>
  match o1 with
  | .inl y2 =>
   (Qgm p0 0)>>=λo14 =>
   match o14 with
   | .inl y15 =>
    (Qgq p0 0)>>=λo25 =>
    match o25 with
    | .inl y26 =>
     some ([],0)
    | .inr y27 =>
     some (y27,10)
   | .inr y16 =>
    some (y16,4)
  | .inr y3 =>
   some (y3.1,y3.2)
theorem Qzq:∀ (p0:(List Qae)) (o:(List UInt8)×Int),Qpl p0=some o->PCall Tryz.prog 14 [.sl false (p0.map Qaf)] (Qgc o):=by
 intro p0 o h;unfold Qpl at h;refine PCall.ofY Qk8 Tryz.func14 ?_;refine view (Qau _ _) rfl ?_;refine Qac h (λhb h=>?_) (λhb h=>?_)
 .refine Qak (t:=Qgc) h ?_;exact .refl _
 .refine Qah h (λo1 ho hk=>?_);refine Exists.intro (JP2 _ _ o1 (.exit 0) (Qsk p0) .ret (Qsl p0)) (And.intro (Qf5 (τ := Qm2 p0 0) ?_ (TL.loop (Qake p0 0 o1 ho))) (Qer (λy2 hy=>?_) (λy3 hy=>?_)))
  .exact Le.ty 0 0
  .have h:=(by rw[hy] at hk; exact hk);refine Qah h (λo14 ho hk=>?_);refine Exists.intro (JP2 _ _ o14 (.exit 2) (Qso p0) .ret (Qsp p0)) (And.intro (Qf5 (τ := Qm4 p0 0) ?_ (TL.loop (Qakg p0 0 o14 ho))) (Qer (λy15 hy=>?_) (λy16 hy=>?_)))
   .exact Le.ty 0 0
   .have h:=(by rw[hy] at hk; exact hk);refine Qah h (λo25 ho hk=>?_);refine Exists.intro (JP2 _ _ o25 (.exit 6) (Qsq p0) .ret (Qsr p0)) (And.intro (Qf5 (τ := Qm5 p0 0) ?_ (TL.loop (Qakk p0 0 o25 ho))) (Qer (λy26 hy=>?_) (λy27 hy=>?_)))
    .exact Le.ty 0 0
    .have h:=(by rw[hy] at hk; exact hk);refine Qak (t:=Qgc) h ?_;exact .refl _
    .have h:=(by rw[hy] at hk; exact hk);refine Qak (t:=Qgc) h ?_;exact .refl _
   .have h:=(by rw[hy] at hk; exact hk);refine Qak (t:=Qgc) h ?_;exact .refl _
  .have h:=(by rw[hy] at hk; exact hk);refine Qak (t:=Qgc) h ?_;exact .refl _
def Qe9 (p0:(List Qae)) (p1:(List UInt8)) (v10:Int):Option (Unit⊕(List Qab)) :=
 if(decide (v10<(p0.length:Int))) then
  idx p0 v10>>=λx4 =>
  if(x4.Name==p1) then
   some (.inr x4.L)
  else
   Qe9 p0 p1 (wr (v10+1))
 else
  some (.inl ())
 partial_fixpoint
theorem Qajs:∀ (p0:(List Qae)) (p1:(List UInt8)),(∀ (v10:Int) (o1:Unit⊕(List Qab)),Qe9 p0 p1 v10=some o1->TL (0,0) Tryz.prog 21 Q2j (JP2 (0,0) 21 o1 (.exit 0) (Qq3 p0 p1) .ret (Qq4 p0 p1)) (Qlp p0 p1 v10)):=by
 intro p0 p1;refine Qe9.partial_correctness p0 p1 _ ?_;intro Qe9' iQe9 v10 o1 h;refine TL.round (Qan mixed tbOk (lv:=Qxh) _ _ _ ?_);refine Qac h (λhb h=>?_) (λhb h=>?_)
 .refine Qay (l:=p0) (c:=Qaf) (c' := Qaf) h (λ_=>rfl) (λ_=>rfl) (by decide) (λx4 hi h=>?_);refine Qac h (λhb h=>?_) (λhb h=>?_)
  .exact JP2.b h (Le.ty 0 0)
  .refine TL.le (τ := Qlp p0 p1 (wr (v10+1))) ?_ ((iQe9 (wr (v10+1)) _ h));exact Le.ty 0 0
 .exact JP2.a h (Le.ty 0 0)
def Qkm (p0:(List Qae)) (p1:(List UInt8)):Option ((List Qab)×Bool) :=
 (Qe9 p0 p1 0)>>=λo1 =>
 match o1 with
 | .inl y2 =>
  some ([],false)
 | .inr y3 =>
  some (y3,true)
theorem Qqi:∀ (p0:(List Qae)) (p1:(List UInt8)) (o:(List Qab)×Bool),Qkm p0 p1=some o->PCall Tryz.prog 39 [.sl false (p0.map Qaf),sV p1] (Qiu o):=by
 intro p0 p1 o h;unfold Qkm at h;refine PCall.ofY Qxh Tryz.func39 ?_;refine view (Qau _ _) rfl ?_;refine Qah h (λo1 ho hk=>?_);refine Exists.intro (JP2 _ _ o1 (.exit 0) (Qq3 p0 p1) .ret (Qq4 p0 p1)) (And.intro (Qf5 (τ := Qlp p0 p1 0) ?_ (TL.loop (Qajs p0 p1 0 o1 ho))) (Qer (λy2 hy=>?_) (λy3 hy=>?_)))
 .exact Le.ty 0 0
 .have h:=(by rw[hy] at hk; exact hk);refine Qak (t:=Qiu) h ?_;exact .tup (xs:=[.sl true [],bV false]) (ys:=[.sl false [],bV false]) (.cons (.not) (.cons (.refl _) (.nil)))
 .have h:=(by rw[hy] at hk; exact hk);refine Qak (t:=Qiu) h ?_;exact .refl _
def Qfa (x1:(List Qab)×Int) (l4:(List (Qab×Int))) (h0_0:Int):Option (Int) :=
 match l4 with
 | [] =>
  some h0_0
 | x2::r3 =>
  Qfa x1 r3 (wr (h0_0+1))
 partial_fixpoint
theorem Qajt:∀ (x1:(List Qab)×Int),(∀ (l4:(List (Qab×Int))) (h0_0:Int) (o6:Int),Qfa x1 l4 h0_0=some o6->RL 1 0 Tryz.prog 11 (rgP Qna) (rgA Qna) (rgB Qna) (Qh0 x1 h0_0).env (JP1 (0,0) 11 o6 .normal (Qq5 x1)) (l4.map Qck) (Qh0 x1 h0_0).s):=by
 intro x1;refine Qfa.partial_correctness x1 _ ?_;intro Qfa' iQfa l4 h0_0 o6 h;cases l4 with
 | nil =>
  refine Qah3 ?_;exact JP1.a h (Le.ty 1 0)
 | cons x2 r3 =>
  refine Q8g (Qan mixed tbOk (lv:=Qqe) _ _ _ ?_);refine And.intro rfl (Qan mixed tbOk (lv:=Qqe) _ _ _ ?_);exact Exists.intro (Qh0 x1 (wr (h0_0+1))).s (And.intro (Le.ty 1 0) (And.intro rfl (And.intro rfl ((iQfa r3 (wr (h0_0+1)) _ h)))))
def Qk2 (p0:(List Qab)) (p1:Int):Option ((List Qab)×Int) :=
 some (p0,p1)
theorem Qwi:∀ (p0:(List Qab)) (p1:Int) (o:(List Qab)×Int),Qk2 p0 p1=some o->PCall Tryz.prog 96 [.sl false (p0.map Qaa),iV p1] (Qpi o):=by
 intro p0 p1 o h;unfold Qk2 at h;refine PCall.ofM mixed tbOk Qaf9 Tryz.func96 rfl (by kernel_rfl) (Nat.le_of_ble_eq_true rfl) ?_;refine Qak (t:=Qpi) h ?_;exact .refl _
def Qfb (p0:(List Qab)) (p1:Int) (v12:Int) (x3:Qab) (v28:Int) (x7:(List Qab)×Int) (l10:(List (Qab×Int))):Option ((List (Qab×Int))×(Unit)) :=
 match l10 with
 | [] =>
  some ([],())
 | x8::r9 =>
  ( Qfb p0 p1 v12 x3 v28 x7 r9 )>>=λq=>some (((Qab.mk x8.1.Kind x8.1.Name x8.1.Text x8.1.N x8.1.L x8.1.Then x8.1.Else),x8.2)::q.1,q.2)
 partial_fixpoint
theorem Qaju:∀ (p0:(List Qab)) (p1:Int) (v12:Int) (x3:Qab) (v28:Int) (x7:(List Qab)×Int),(∀ (l10:(List (Qab×Int))) (o13:(List (Qab×Int))×(Unit)),Qfb p0 p1 v12 x3 v28 x7 l10=some o13->∀ (gxs gp gpost gq12:List (List V)),gxs=gp++(o13.1.map Qck++gpost)->gxs=gq12++gpost->RL 2 1 Tryz.prog 44 (rgP Qnb) (rgA Qnb) (rgB Qnb) (Qh1 p0 p1 v12 x3 v28 x7 gxs gp).env (Qs (0,1) 44 gxs (JP1 (0,1) 44 o13.2 .normal (Qq6 p0 p1 v12 x3 v28 x7 gxs gq12))) (l10.map Qck) (Qh1 p0 p1 v12 x3 v28 x7 gxs gp).s):=by
 intro p0 p1 v12 x3 v28 x7;refine Qfb.partial_correctness p0 p1 v12 x3 v28 x7 _ ?_;intro Qfb' iQfb l10 o13 h;intro gxs gp gpost gq12 hx hq;cases l10 with
 | nil =>
  refine Qah3 ?_;exact .inl (JP1.a (sndI h) (Le.tz 2 1 rfl rfl (Qaoq h hx hq rfl)))
 | cons x8 r9 =>
  refine Q8g (Qan mixed tbOk (lv:=Qjc) _ _ _ ?_);refine And.intro rfl (Qan mixed tbOk (lv:=Qjc) _ _ _ ?_);refine Qal1 (c:=Qck) h hx (.refl _) (by exact rfl) (by exact rfl) (λ_ h hx=>?_) ?_
  .refine bF ?_;exact Exists.intro (Qh1 p0 p1 v12 x3 v28 x7  gxs (gp++[Qck ((Qab.mk x8.1.Kind x8.1.Name x8.1.Text x8.1.N x8.1.L x8.1.Then x8.1.Else),x8.2)])).s (And.intro (Le.ty 2 1) (And.intro rfl (And.intro rfl ((iQfb r9 _ h) _ _ _ _ hx hq))))
  .refine bT ?_;exact⟨_,(Le.env0 _).trans (Le.tow 2 1 rfl .nil (.refl _) rfl),rfl,rfl,.inr ⟨rfl,Qaop rfl⟩⟩
mutual
def Qfy (p0 : (List Qab)) (p1 : Int) : Option ((List (Qab × Int)) × Unit) :=
  ( Qfc p0 p1 0) >>= fun o2 => (
    some ([], ())) >>= fun q => some (o2.1 ++ q.1, q.2)
  partial_fixpoint
def Qfc (p0 : (List Qab)) (p1 : Int) (v12 : Int) : Option ((List (Qab × Int)) × (Unit)) :=
  if (decide (v12 < (p0.length : Int))) then
    idx p0 v12 >>= fun x3 =>
    ( ( Qcg p0 p1 v12 x3 0) >>= fun o5 => (
        Qfc p0 p1 (wr (v12 + 1))) >>= fun q => some (o5.1 ++ q.1, q.2)) >>= fun q => some ((x3, p1) :: q.1, q.2)
  else
    some ([], ())
  partial_fixpoint
def Qcg (p0 : (List Qab)) (p1 : Int) (v12 : Int) (x3 : Qab) (v28 : Int) : Option ((List (Qab × Int)) × (Unit)) :=
  if (decide (v28 < 3)) then
    idx ([x3.L, x3.Then, x3.Else] : List (List Qab)) v28 >>= fun x6 =>
    Qk2 x6 (wr (p1 + 1)) >>= fun x7 =>
    Qfy x7.1 x7.2 >>= fun y11 =>
    ( Qfb p0 p1 v12 x3 v28 x7 y11.1) >>= fun o13 => (
      Qcg p0 p1 v12 x3 (wr (v28 + 1))) >>= fun q => some (o13.1 ++ q.1, q.2)
  else
    some ([], ())
  partial_fixpoint
end
theorem Q5e:(∀ (p0:(List Qab)) (p1:Int) (o:(List (Qab×Int))×Unit),Qfy p0 p1=some o->∀ gxs:List (List V),gxs=o.1.map Qck->IterOK Tryz.prog 125 [.ep [.sl false (p0.map Qaa)],.ep [iV p1]] gxs)/\(∀ (p0:(List Qab)) (p1:Int) (v12:Int) (o2:(List (Qab×Int))×(Unit)),Qfc p0 p1 v12=some o2->∀ (gxs gp gpost gq1:List (List V)),gxs=gp++(o2.1.map Qck++gpost)->gxs=gq1++gpost->TL (0,1) Tryz.prog 44 Q2o (Qs (0,1) 44 gxs (JP1 (0,1) 44 o2.2 (.exit 0) (Qq8 p0 p1 gxs gq1))) (Qls p0 p1 v12 gxs gp))/\(∀ (p0:(List Qab)) (p1:Int) (v12:Int) (x3:Qab) (v28:Int) (o5:(List (Qab×Int))×(Unit)),Qcg p0 p1 v12 x3 v28=some o5->∀ (gxs gp gpost gq4:List (List V)),gxs=gp++(o5.1.map Qck++gpost)->gxs=gq4++gpost->TL (0,1) Tryz.prog 44 Q2n (Qs (0,1) 44 gxs (JP1 (0,1) 44 o5.2 (.exit 2) (Qq7 p0 p1 v12 x3 gxs gq4))) (Qlr p0 p1 v12 x3 v28 gxs gp)):=by
 refine Qfy.mutual_partial_correctness _ _ _ ?_ ?_ ?_
 .intro Qfc' iQfc p0 p1 o h;intro gxs hg;have hx:gxs=[]++(o.1.map Qck++[]):=by simp[hg]
  refine IterOK.ofB mixed tbOk Qjc Tryz.func125 rfl (by kernel_rfl) (Nat.le_of_ble_eq_true rfl) rfl ?_;refine view (Qau _ _) rfl ?_;refine Q05 h hx (λo2 lgq1 gq1 ho hk hxa hjgq1=>?_);refine Exists.intro (Qs _ _ gxs (JP1 _ _ o2.2 (.exit 0) (Qq8 p0 p1 gxs gq1))) (And.intro (Qf5 (τ := Qls p0 p1 0 gxs ([]:List (List V))) ?_ (TL.loop ((iQfc p0 p1 0 o2 ho) _ _ _ _ hxa hjgq1))) (Qaor (Qaz ?_) ?_))
  .exact Le.ty 1 1
  .have h:=hk;have hx:=hjgq1;exact Qal0 h hx (.inl rfl) rfl
  .exact λs1 h1 h2 hs=>Qah4 (.inr rfl) hs
 .intro Qfc' Qcg' iQfc iQcg p0 p1 v12 o2 h;intro gxs gp gpost gq1 hx hq;refine TL.round (Qan mixed tbOk (lv:=Qjc) _ _ _ ?_);refine Qac h (λhb h=>?_) (λhb h=>?_)
  .refine Qay (l:=p0) (c:=Qaa) (c' := Qa1) h Qao (λ_=>rfl) (by decide) (λx3 hi h=>?_);refine Qal1 (c:=Qck) h hx (.refl _) (by exact rfl) (by exact rfl) (λ_ h hx=>?_) ?_
   .refine bF ?_;refine Q05 h hx (λo5 lgq4 gq4 ho hk hxa hjgq4=>?_);refine Exists.intro (Qs _ _ gxs (JP1 _ _ o5.2 (.exit 2) (Qq7 p0 p1 v12 x3 gxs gq4))) (And.intro (Qf5 (τ := Qlr p0 p1 v12 x3 0 gxs (gp++[Qck (x3,p1)])) ?_ (TL.loop ((iQcg p0 p1 v12 x3 0 o5 ho) _ _ _ _ hxa hjgq4))) (Qaor (Qaz ?_) ?_))
    .exact Le.ty 2 1
    .have h:=hk;have hx:=hjgq4;refine TL.le (τ := Qls p0 p1 (wr (v12+1)) gxs gq4) ?_ ((iQfc p0 p1 (wr (v12+1)) _ h) _ _ _ _ hx hq);exact Le.ty 1 1
    .exact λs1 h1 h2 hs =>.inr ⟨rfl,s1,.refl _ _ _,h1,h2,hs⟩
   .refine bT ?_;exact .inr ⟨rfl,_,(Le.env0 _).trans (Le.tow 0 1 rfl .nil (.refl _) rfl),rfl,rfl,rfl⟩
  .exact .inl (JP1.a (sndI h) (Le.tz 1 1 rfl rfl (Qaoq h hx hq rfl)))
 .intro Qfy' Qcg' iQfy iQcg p0 p1 v12 x3 v28 o5 h;intro gxs gp gpost gq4 hx hq;refine TL.round (Qan mixed tbOk (lv:=Qjc) _ _ _ ?_);refine Qac h (λhb h=>?_) (λhb h=>?_)
  .refine Qaqr (l:=([x3.L,x3.Then,x3.Else]:List (List Qab))) (c:=λx6 =>.sl false (x6.map Qaa)) h rfl rfl rfl rfl (λx6 hi h=>?_);refine Qam [.sl false (x6.map Qaa),iV (wr (p1+1))] Qpi h (λx7 hy=>(Qwi x6 (wr (p1+1)) x7 hy)) (λx7 hy h=>?_);refine Qah h (λy11 hy11 h=>?_);refine Q05 h hx (λo13 lgq12 gq12 ho hk hxa hjgq12=>?_);refine Exists.intro (Qs _ _ gxs (JP1 _ _ o13.2 .normal (Qq6 p0 p1 v12 x3 v28 x7 gxs gq12))) (And.intro (Qf5 (τ := Qh1 p0 p1 v12 x3 v28 x7 gxs gp) ?_ (Q8a (g:=125) (cap:=[.ep [.sl false (x7.1.map Qaa)],.ep [iV x7.2]]) rfl ((iQfy x7.1 x7.2 y11 hy11) _ rfl) (Q14 λ_=>rfl) rfl (Nat.le_of_ble_eq_true rfl) (Nat.le_of_ble_eq_true rfl) ((Qaju p0 p1 v12 x3 v28 x7 y11.1 o13 ho) _ _ _ _ hxa hjgq12))) (Qaor (Qaz ?_) ?_))
   .exact Le.ty 2 1
   .have h:=hk;have hx:=hjgq12;refine TL.le (τ := Qlr p0 p1 v12 x3 (wr (v28+1)) gxs gq12) ?_ ((iQcg p0 p1 v12 x3 (wr (v28+1)) _ h) _ _ _ _ hx hq);exact Le.ty 2 1
   .exact λs1 h1 h2 hs =>.inr ⟨rfl,s1,.refl _ _ _,h1,h2,hs⟩
  .exact .inl (JP1.a (sndI h) (Le.tz 2 1 rfl rfl (Qaoq h hx hq rfl)))
theorem Qxl:∀ (p0:(List Qab)) (p1:Int) (o:(List (Qab×Int))×Unit),Qfy p0 p1=some o->∀ gxs:List (List V),gxs=o.1.map Qck->IterOK Tryz.prog 125 [.ep [.sl false (p0.map Qaa)],.ep [iV p1]] gxs:=λp0 p1=>Q5e.1 p0 p1
def Qpm (p0:(List Qab)):Option (Int) :=
 Qk2 p0 1>>=λx1 =>
 Qfy x1.1 x1.2>>=λy5 =>
 (Qfa x1 y5.1 0)>>=λo6 =>
 some o6
theorem Q9w:∀ (p0:(List Qab)) (o:Int),Qpm p0=some o->PCall Tryz.prog 71 [.sl false (p0.map Qaa)] (Qs3 o):=by
 intro p0 o h;unfold Qpm at h;refine PCall.ofY Qqe Tryz.func71 ?_;refine Qam [.sl false (p0.map Qaa),iV 1] Qpi h (λx1 hy=>(Qwi p0 1 x1 hy)) (λx1 hy h=>?_);refine Qah h (λy5 hy5 h=>?_);refine Qah h (λo6 ho hk=>?_);refine Exists.intro (JP1 _ _ o6 .normal (Qq5 x1)) (And.intro (Qf5 (τ := Qh0 x1 0) ?_ (Q8a (g:=125) (cap:=[.ep [.sl false (x1.1.map Qaa)],.ep [iV x1.2]]) rfl ((Qxl x1.1 x1.2 y5 hy5) _ rfl) (Q14 λ_=>rfl) rfl (Nat.le_of_ble_eq_true rfl) (Nat.le_of_ble_eq_true rfl) (Qajt x1 y5.1 0 o6 ho))) (Qaz ?_))
 .exact Le.ty 1 0
 have h:=hk;refine Qak (t:=Qs3) h ?_;exact .refl _
def Qgr (x1:(List Qab)×Int) (l4:(List (Qab×Int))) (h0_0:Int):Option (Int) :=
 match l4 with
 | [] =>
  some h0_0
 | x2::r3 =>
  Qgr x1 r3 (if x2.2>h0_0 then x2.2 else h0_0)
 partial_fixpoint
theorem Qakl:∀ (x1:(List Qab)×Int),(∀ (l4:(List (Qab×Int))) (h0_0:Int) (o6:Int),Qgr x1 l4 h0_0=some o6->RL 1 0 Tryz.prog 14 (rgP Qou) (rgA Qou) (rgB Qou) (Qjb x1 h0_0).env (JP1 (0,0) 14 o6 .normal (Qs5 x1)) (l4.map Qck) (Qjb x1 h0_0).s):=by
 intro x1;refine Qgr.partial_correctness x1 _ ?_;intro Qgr' iQgr l4 h0_0 o6 h;cases l4 with
 | nil =>
  refine Qah3 ?_;exact JP1.a h (Le.ty 1 0)
 | cons x2 r3 =>
  refine Q8g (Qan mixed tbOk (lv:=Qs4) _ _ _ ?_);refine And.intro rfl (Qan mixed tbOk (lv:=Qs4) _ _ _ ?_);exact Exists.intro (Qjb x1 (if x2.2>h0_0 then x2.2 else h0_0)).s (And.intro (Le.ty 1 0) (And.intro rfl (And.intro rfl ((iQgr r3 (if x2.2>h0_0 then x2.2 else h0_0) _ h)))))
def Qs9 (p0:(List Qab)):Option (Int) :=
 Qk2 p0 1>>=λx1 =>
 Qfy x1.1 x1.2>>=λy5 =>
 (Qgr x1 y5.1 0)>>=λo6 =>
 some o6
theorem Qadk:∀ (p0:(List Qab)) (o:Int),Qs9 p0=some o->PCall Tryz.prog 70 [.sl false (p0.map Qaa)] (Qwe o):=by
 intro p0 o h;unfold Qs9 at h;refine PCall.ofY Qs4 Tryz.func70 ?_;refine Qam [.sl false (p0.map Qaa),iV 1] Qpi h (λx1 hy=>(Qwi p0 1 x1 hy)) (λx1 hy h=>?_);refine Qah h (λy5 hy5 h=>?_);refine Qah h (λo6 ho hk=>?_);refine Exists.intro (JP1 _ _ o6 .normal (Qs5 x1)) (And.intro (Qf5 (τ := Qjb x1 0) ?_ (Q8a (g:=125) (cap:=[.ep [.sl false (x1.1.map Qaa)],.ep [iV x1.2]]) rfl ((Qxl x1.1 x1.2 y5 hy5) _ rfl) (Q14 λ_=>rfl) rfl (Nat.le_of_ble_eq_true rfl) (Nat.le_of_ble_eq_true rfl) (Qakl x1 y5.1 0 o6 ho))) (Qaz ?_))
 .exact Le.ty 1 0
 have h:=hk;refine Qak (t:=Qwe) h ?_;exact .refl _
def Qb7 (p0:(List UInt8)) (p1:(List UInt8)):Option (Bool) :=
 ( if(decide ((p0.length:Int) >= (p1.length:Int))) then
   cutL p0 (wr ((p0.length:Int)-(p1.length:Int))) (p0.length:Int)>>=λx2 =>
   some (x2==p1)
  else
   some false:Option (Bool))>>=λo1 =>
 some o1
theorem Qje:∀ (p0:(List UInt8)) (p1:(List UInt8)) (o:Bool),Qb7 p0 p1=some o->PCall Tryz.prog 129 [sV p0,sV p1] (Qct o):=by
 intro p0 p1 o h;unfold Qb7 at h;refine PCall.ofY Qi8 Tryz.func129 ?_;refine Qah h (λo1 ho hk=>?_);refine Exists.intro (JP1 _ _ o1 .normal (Qh8 )) (And.intro ?_ (Qaz ?_))
 .have h:=ho;refine vrfl ?_;refine vrfl ?_;refine Qac h (λhb h=>?_) (λhb h=>?_)
  .refine vrfl ?_;refine vrfl ?_;refine Qi4 (some (wr ((p0.length:Int)-(p1.length:Int)))) none h (λx2 hi h=>?_);exact JP1.a h (Le.ty 0 0)
  .exact JP1.a h (Le.ty 0 0)
 .have h:=hk;refine Qak (t:=Qct) h ?_;exact .refl _
def Qcl (p0:(List UInt8)) (p1:(List UInt8)):Option (Bool) :=
 Qb7 p0 p1>>=λx1 =>
 some x1
theorem Qeq:∀ (p0:(List UInt8)) (p1:(List UInt8)) (o:Bool),Qcl p0 p1=some o->PCall Tryz.prog 98 [sV p0,sV p1] (Qc2 o):=by
 intro p0 p1 o h;unfold Qcl at h;refine PCall.ofY Qut Tryz.func98 ?_;refine Qam [sV p0,sV p1] Qct h (λx1 hy=>(Qje p0 p1 x1 hy)) (λx1 hy h=>?_);refine Qak (t:=Qc2) h ?_;exact .refl _
def Qcw (p0:(List UInt8)) (p1:(List UInt8)):Option (Int) :=
 need (p0.length<4294967281)>>=λ_ =>
 some (Lib.index p0 p1)
theorem Qlu:∀ (p0:(List UInt8)) (p1:(List UInt8)) (o:Int),Qcw p0 p1=some o->PCall Tryz.prog 167 [sV p0,sV p1] (Qf3 o):=by
 intro p0 p1 o h;unfold Qcw at h;obtain⟨h1,h⟩:=Qacu h;cases h;exact Qaot _ _ h1
def Qmd (p0:(List UInt8)) (p1:(List UInt8)):Option (Int) :=
 Qcw p0 p1>>=λx1 =>
 some x1
theorem Q0g:∀ (p0:(List UInt8)) (p1:(List UInt8)) (o:Int),Qmd p0 p1=some o->PCall Tryz.prog 153 [sV p0,sV p1] (Qm9 o):=by
 intro p0 p1 o h;unfold Qmd at h;refine PCall.ofY Q0f Tryz.func153 ?_;refine Qam [sV p0,sV p1] Qf3 h (λx1 hy=>(Qlu p0 p1 x1 hy)) (λx1 hy h=>?_);refine Qak (t:=Qm9) h ?_;exact .refl _
def Qfs (p0:(List UInt8)) (p1:(List UInt8)):Option (Bool) :=
 Qmd p0 p1>>=λx1 =>
 some (decide (x1 >= 0))
theorem Qwj:∀ (p0:(List UInt8)) (p1:(List UInt8)) (o:Bool),Qfs p0 p1=some o->PCall Tryz.prog 127 [sV p0,sV p1] (Qja o):=by
 intro p0 p1 o h;unfold Qfs at h;refine PCall.ofY Qwd Tryz.func127 ?_;refine Qam [sV p0,sV p1] Qm9 h (λx1 hy=>(Q0g p0 p1 x1 hy)) (λx1 hy h=>?_);refine Qak (t:=Qja) h ?_;exact .refl _
def Qpn (p0:Int):Option (Bool) :=
 ( if(decide (p0 >= 48)) then
   some (decide (p0<=57))
  else
   some false:Option (Bool))>>=λo1 =>
 some o1
theorem Qzr:∀ (p0:Int) (o:Bool),Qpn p0=some o->PCall Tryz.prog 124 [nV .u8 p0] (Qqd o):=by
 intro p0 o h;unfold Qpn at h;refine PCall.ofY Qac4 Tryz.func124 ?_;refine Qah h (λo1 ho hk=>?_);refine Exists.intro (JP1 _ _ o1 .normal (Q4y )) (And.intro ?_ (Qaz ?_))
 .have h:=ho;refine Qac h (λhb h=>?_) (λhb h=>?_)
  .exact JP1.a h (Le.ty 0 0)
  .exact JP1.a h (Le.ty 0 0)
 .have h:=hk;refine Qak (t:=Qqd) h ?_;exact .refl _
def Qpo (p0:Int):Option (Bool) :=
 ( if(decide (p0 >= 97)) then
   if(decide (p0<=122)) then
    some true
   else
    Qpn p0>>=λx2 =>
    if x2 then
     some true
    else
     some (p0==95)
  else
   Qpn p0>>=λx3 =>
   if x3 then
    some true
   else
    some (p0==95):Option (Bool))>>=λo1 =>
 some o1
theorem Q9x:∀ (p0:Int) (o:Bool),Qpo p0=some o->PCall Tryz.prog 95 [nV .u8 p0] (Qs2 o):=by
 intro p0 o h;unfold Qpo at h;refine PCall.ofY Q9j Tryz.func95 ?_;refine Qah h (λo1 ho hk=>?_);refine Exists.intro (JP1 _ _ o1 .normal (Q2l )) (And.intro ?_ (Qaz ?_))
 .have h:=ho;refine Qac h (λhb h=>?_) (λhb h=>?_)
  .refine Qac h (λhb h=>?_) (λhb h=>?_)
   .refine bT ?_;exact JP1.a h (Le.ty 0 0)
   .refine Qam [nV .u8 p0] Qqd h (λx2 hy=>(Qzr p0 x2 hy)) (λx2 hy h=>?_);refine Qac h (λhb h=>?_) (λhb h=>?_)
    .exact JP1.a h (Le.ty 0 0)
    .exact JP1.a h (Le.ty 0 0)
  .refine bF ?_;refine Qam [nV .u8 p0] Qqd h (λx3 hy=>(Qzr p0 x3 hy)) (λx3 hy h=>?_);refine Qac h (λhb h=>?_) (λhb h=>?_)
   .exact JP1.a h (Le.ty 0 0)
   .exact JP1.a h (Le.ty 0 0)
 .have h:=hk;refine Qak (t:=Qs2) h ?_;exact .refl _
def Qic (p0:(List UInt8)) (v6:Int):Option (Unit⊕Unit) :=
 if(decide (v6<(p0.length:Int))) then
  idx p0 v6>>=λx4 =>
  Qpo (x4.toNat:Int)>>=λx5 =>
  if(!x5) then
   some (.inr ())
  else
   Qic p0 (wr (v6+1))
 else
  some (.inl ())
 partial_fixpoint
theorem Qamm:∀ (p0:(List UInt8)),(∀ (v6:Int) (o1:Unit⊕Unit),Qic p0 v6=some o1->TL (0,0) Tryz.prog 27 Q9h (JP2 (0,0) 27 o1 (.exit 0) (Qvs p0) .ret (Qvt p0)) (Qot p0 v6)):=by
 intro p0;refine Qic.partial_correctness p0 _ ?_;intro Qic' iQic v6 o1 h;refine TL.round (Qan mixed tbOk (lv:=Q2k) _ _ _ ?_);refine Qac h (λhb h=>?_) (λhb h=>?_)
 .refine Qda h (λx4 hi h=>?_);refine Qam [nV .u8 (x4.toNat:Int)] Qs2 h (λx5 hy=>(Q9x (x4.toNat:Int) x5 hy)) (λx5 hy h=>?_);refine Qac h (λhb h=>?_) (λhb h=>?_)
  .exact JP2.b h (Le.ty 0 0)
  .refine TL.le (τ := Qot p0 (wr (v6+1))) ?_ ((iQic (wr (v6+1)) _ h));exact Le.ty 0 0
 .exact JP2.a h (Le.ty 0 0)
def Qqj (p0:(List UInt8)):Option (Bool) :=
 (Qic p0 0)>>=λo1 =>
 match o1 with
 | .inl y2 =>
  ( if(!(p0==[])) then
    if(decide ((p0.length:Int)<=32)) then
     idx p0 0>>=λx7 =>
     some (decide ((x7.toNat:Int) >= 97))
    else
     some false
   else
    some false:Option (Bool))>>=λo6 =>
  some o6
 | .inr y3 =>
  some false
theorem Qwk:∀ (p0:(List UInt8)) (o:Bool),Qqj p0=some o->PCall Tryz.prog 69 [sV p0] (Qmj o):=by
 intro p0 o h;unfold Qqj at h;refine PCall.ofY Q2k Tryz.func69 ?_;refine vrfl ?_;refine Qah h (λo1 ho hk=>?_);refine Exists.intro (JP2 _ _ o1 (.exit 0) (Qvs p0) .ret (Qvt p0)) (And.intro (Qf5 (τ := Qot p0 0) ?_ (TL.loop (Qamm p0 0 o1 ho))) (Qer (λy2 hy=>?_) (λy3 hy=>?_)))
 .exact Le.ty 0 0
 .have h:=(by rw[hy] at hk; exact hk);refine Qah h (λo6 ho hk=>?_);refine Exists.intro (JP1 _ _ o6 .normal (Q9i )) (And.intro ?_ (Qaz ?_))
  .have h:=ho;refine Qac h (λhb h=>?_) (λhb h=>?_)
   .refine vrfl ?_;refine Qac h (λhb h=>?_) (λhb h=>?_)
    .refine Qda h (λx7 hi h=>?_);exact JP1.a h (Le.ty 0 0)
    .exact JP1.a h (Le.ty 0 0)
   .refine bF ?_;exact JP1.a h (Le.ty 0 0)
  .have h:=hk;refine Qak (t:=Qmj) h ?_;exact .refl _
 .have h:=(by rw[hy] at hk; exact hk);refine Qak (t:=Qmj) h ?_;exact .refl _
def Qjf (p0:(List UInt8)):Option (Bool) :=
 ( if(p0==[105,102]) then
   some (p0==[105,102])
  else
   if(p0==[101,108,115,101]) then
    some (p0==[101,108,115,101])
   else
    if(p0==[101,110,100]) then
     some (p0==[101,110,100])
    else
     if(p0==[101,97,99,104]) then
      some (p0==[101,97,99,104])
     else
      if(p0==[105,110]) then
       some (p0==[105,110])
      else
       if(p0==[108,101,116]) then
        some (p0==[108,101,116])
       else
        if(p0==[117,115,101]) then
         some (p0==[117,115,101])
        else
         if(p0==[116,114,117,101]) then
          some (p0==[116,114,117,101])
         else
          if(p0==[102,97,108,115,101]) then
           some (p0==[102,97,108,115,101])
          else
           some (p0==[115,101,99,114,101,116]):Option (Bool))>>=λo1 =>
 if o1 then
  some false
 else
  Qqj p0>>=λx2 =>
  some x2
theorem Qlb:∀ (p0:(List UInt8)) (o:Bool),Qjf p0=some o->PCall Tryz.prog 37 [sV p0] (Qge o):=by
 intro p0 o h;unfold Qjf at h;refine PCall.ofY Qac6 Tryz.func37 ?_;refine Qah h (λo1 ho hk=>?_);refine Exists.intro (JP1 _ _ o1 .normal (Q4z p0)) (And.intro ?_ (Qaz ?_))
 .have h:=ho;refine Qac h (λhb h=>?_) (λhb h=>?_)
  .exact JP1.a h (Le.ty 0 0)
  .refine Qac h (λhb h=>?_) (λhb h=>?_)
   .exact JP1.a h (Le.ty 0 0)
   .refine Qac h (λhb h=>?_) (λhb h=>?_)
    .exact JP1.a h (Le.ty 0 0)
    .refine Qac h (λhb h=>?_) (λhb h=>?_)
     .exact JP1.a h (Le.ty 0 0)
     .refine Qac h (λhb h=>?_) (λhb h=>?_)
      .exact JP1.a h (Le.ty 0 0)
      .refine Qac h (λhb h=>?_) (λhb h=>?_)
       .exact JP1.a h (Le.ty 0 0)
       .refine Qac h (λhb h=>?_) (λhb h=>?_)
        .exact JP1.a h (Le.ty 0 0)
        .refine Qac h (λhb h=>?_) (λhb h=>?_)
         .exact JP1.a h (Le.ty 0 0)
         .refine Qac h (λhb h=>?_) (λhb h=>?_)
          .exact JP1.a h (Le.ty 0 0)
          .exact JP1.a h (Le.ty 0 0)
 .have h:=hk;refine Qac h (λhb h=>?_) (λhb h=>?_)
  .refine Qak (t:=Qge) h ?_;exact .refl _
  .refine Qam [sV p0] Qmj h (λx2 hy=>(Qwk p0 x2 hy)) (λx2 hy h=>?_);refine Qak (t:=Qge) h ?_;exact .refl _
def Qdb (p0:(List UInt8)) (v4:(List Int)) (v18:Int):Option ((List Int)) :=
 if(decide (v18<(p0.length:Int))) then
  idx p0 v18>>=λx5 =>
  if((x5.toNat:Int)==10) then
   appL 1 v4 (s2b [92,110])>>=λx6 =>
   Qdb p0 x6 (wr (v18+1))
  else
   if((x5.toNat:Int)==9) then
    appL 1 v4 (s2b [92,116])>>=λx7 =>
    Qdb p0 x7 (wr (v18+1))
   else
    ( if((x5.toNat:Int)==34) then
      some ((x5.toNat:Int)==34)
     else
      some ((x5.toNat:Int)==92):Option (Bool))>>=λo8 =>
    if o8 then
     appL 1 v4 [92,(x5.toNat:Int)]>>=λx9 =>
     Qdb p0 x9 (wr (v18+1))
    else
     appL 1 v4 [(x5.toNat:Int)]>>=λx10 =>
     Qdb p0 x10 (wr (v18+1))
 else
  some v4
 partial_fixpoint
theorem Qakm:∀ (p0:(List UInt8)),(∀ (v4:(List Int)) (v18:Int) (o4:(List Int)),Qdb p0 v4 v18=some o4->TL (0,0) Tryz.prog 49 Q4x (JP1 (0,0) 49 o4 (.exit 0) (Qs1 p0)) (Qet p0 v4 v18)):=by
 intro p0;refine Qdb.partial_correctness p0 _ ?_;intro Qdb' iQdb v4 v18 o4 h;refine TL.round (Qan mixed tbOk (lv:=Qzl) _ _ _ ?_);refine Qac h (λhb h=>?_) (λhb h=>?_)
 .refine Qda h (λx5 hi h=>?_);refine Qac h (λhb h=>?_) (λhb h=>?_)
  .refine Qah2 (a:=v4) (b:=[92,110]) h rfl (λx6 hi h=>?_);refine TL.le (τ := Qet p0 x6 (wr (v18+1))) ?_ ((iQdb x6 (wr (v18+1)) _ h));exact Le.ty 0 1
  .refine Qac h (λhb h=>?_) (λhb h=>?_)
   .refine Qah2 (a:=v4) (b:=[92,116]) h rfl (λx7 hi h=>?_);refine TL.le (τ := Qet p0 x7 (wr (v18+1))) ?_ ((iQdb x7 (wr (v18+1)) _ h));exact Le.ty 0 1
   .refine Qah h (λo8 ho hk=>?_);refine Exists.intro (JP1 _ _ o8 .normal (Q4w p0 v4 v18 x5)) (And.intro ?_ (Qaz ?_))
    .have h:=ho;refine Qac h (λhb h=>?_) (λhb h=>?_)
     .exact JP1.a h (Le.ty 0 1)
     .exact JP1.a h (Le.ty 0 1)
    .have h:=hk;refine Qac h (λhb h=>?_) (λhb h=>?_)
     .refine Qhp (a:=v4) (b:=[92,(x5.toNat:Int)]) (c:=(cNum .u8)) h (.refl _) (λ_=>rfl) rfl (λx9 hi h=>?_);refine TL.le (τ := Qet p0 x9 (wr (v18+1))) ?_ ((iQdb x9 (wr (v18+1)) _ h));exact Le.ty 0 1
     .refine Qhp (a:=v4) (b:=[(x5.toNat:Int)]) (c:=(cNum .u8)) h (.refl _) (λ_=>rfl) rfl (λx10 hi h=>?_);refine TL.le (τ := Qet p0 x10 (wr (v18+1))) ?_ ((iQdb x10 (wr (v18+1)) _ h));exact Le.ty 0 1
 .exact JP1.a h (Le.ty 0 1)
def Qb8 (p0:(List UInt8)) (p1:Int):Option (Int) :=
 some (Lib.indexByte p0 p1.toNat.toUInt8)
theorem Qjg:∀ (p0:(List UInt8)) (p1:Int) (o:Int),Qb8 p0 p1=some o->PCall Tryz.prog 174 [sV p0,nV .u8 p1] (Qel o):=by
 intro p0 p1 o h;unfold Qb8 at h;cases h;exact Qacv _ _
def Qhh (p0:(List UInt8)) (p1:Int):Option (Int) :=
 Qb8 p0 p1>>=λx1 =>
 some x1
theorem Quv:∀ (p0:(List UInt8)) (p1:Int) (o:Int),Qhh p0 p1=some o->PCall Tryz.prog 169 [sV p0,nV .u8 p1] (Qh9 o):=by
 intro p0 p1 o h;unfold Qhh at h;refine PCall.ofY Quu Tryz.func169 ?_;refine Qam [sV p0,nV .u8 p1] Qel h (λx1 hy=>(Qjg p0 p1 x1 hy)) (λx1 hy h=>?_);refine Qak (t:=Qh9) h ?_;exact .refl _
def Qlc (x1:(List UInt8)) (l4:(List (Int×Int))):Option (Unit⊕Unit) :=
 match l4 with
 | [] =>
  some (.inl ())
 | x2::r3 =>
  ( if(x2.1==65533) then
    some (x2.2==1)
   else
    some false:Option (Bool))>>=λo9 =>
  if o9 then
   some (.inr ())
  else
   Qlc x1 r3
 partial_fixpoint
theorem Qaoz:∀ (x1:(List UInt8)),(∀ (l4:(List (Int×Int))) (o6:Unit⊕Unit),Qlc x1 l4=some o6->RL 1 0 Tryz.prog 15 (rgP Qwf) (rgA Qwf) (rgB Qwf) (Qn2 x1).env (JP2 (0,0) 15 o6 .normal (Qzm x1) .ret (Qzn x1)) (l4.map Qkk) (Qn2 x1).s):=by
 intro x1;refine Qlc.partial_correctness x1 _ ?_;intro Qlc' iQlc l4 o6 h;cases l4 with
 | nil =>
  refine Qah3 ?_;exact JP2.a h (Le.ty 1 0)
 | cons x2 r3 =>
  refine Q8g (Qan mixed tbOk (lv:=Q2s) _ _ _ ?_);refine And.intro rfl (Qan mixed tbOk (lv:=Q2s) _ _ _ ?_);refine Qah h (λo9 ho hk=>?_);refine Exists.intro (JP1 _ _ o9 .normal (Qaga x1 x2)) (And.intro ?_ (Qaz ?_))
  .have h:=ho;refine Qac h (λhb h=>?_) (λhb h=>?_)
   .exact JP1.a h (Le.ty 1 0)
   .exact JP1.a h (Le.ty 1 0)
  .have h:=hk;refine Qac h (λhb h=>?_) (λhb h=>?_)
   .exact Exists.intro (⟨[[.p (bV false)]],[]⟩:S) (And.intro (Le.tow 1 0 rfl .nil (.refl _) rfl) (And.intro rfl (And.intro rfl (JP2.b h (Le.ty 1 0)))))
   .exact Exists.intro (Qn2 x1 ).s (And.intro (Le.ty 1 0) (And.intro rfl (And.intro rfl ((iQlc r3 _ h)))))
def Q9y (p0:(List UInt8)):Option ((List UInt8)) :=
 some p0
theorem Qajv:∀ (p0:(List UInt8)) (o:(List UInt8)),Q9y p0=some o->PCall Tryz.prog 178 [sV p0] (Q2t o):=by
 intro p0 o h;unfold Q9y at h;refine PCall.ofM mixed tbOk Qajq Tryz.func178 rfl (by kernel_rfl) (Nat.le_of_ble_eq_true rfl) ?_;refine Qak (t:=Q2t) h ?_;exact .refl _
def Q65 (p0:Int):Option (Bool) :=
 ( if(decide (p0 >= 0)) then
   if(decide (p0<=1114111)) then
    if(decide (p0<55296)) then
     some true
    else
     some (decide (p0>57343))
   else
    some false
  else
   some false:Option (Bool))>>=λo1 =>
 some o1
theorem Qamn:∀ (p0:Int) (o:Bool),Q65 p0=some o->PCall Tryz.prog 188 [nV .i32 p0] (Q9r o):=by
 intro p0 o h;unfold Q65 at h;refine PCall.ofY Qamc Tryz.func188 ?_;refine Qah h (λo1 ho hk=>?_);refine Exists.intro (JP1 _ _ o1 .normal (Qagc )) (And.intro ?_ (Qaz ?_))
 .have h:=ho;refine Qac h (λhb h=>?_) (λhb h=>?_)
  .refine Qac h (λhb h=>?_) (λhb h=>?_)
   .refine Qac h (λhb h=>?_) (λhb h=>?_)
    .exact JP1.a h (Le.ty 0 0)
    .exact JP1.a h (Le.ty 0 0)
   .exact JP1.a h (Le.ty 0 0)
  .refine bF ?_;exact JP1.a h (Le.ty 0 0)
 .have h:=hk;refine Qak (t:=Q9r) h ?_;exact .refl _
def Qid (p0:(List UInt8)) (p2:Int) (v1:Int) (v14:Int):Option (Int⊕Unit) :=
 if(decide (v14<p2)) then
  idx p0 v14>>=λx4 =>
  if((bits .and .u8 (x4.toNat:Int) 192) != 128) then
   some (.inr ())
  else
   idx p0 v14>>=λx5 =>
   Qid p0 p2 (bits .or .i32 (IntKind.i32.wrap (v1*2 ^ (min (6:Int).toNat (IntKind.i32.bits)))) (IntKind.i32.wrap (bits .and .u8 (x5.toNat:Int) 63))) (wr (v14+1))
 else
  some (.inl v1)
 partial_fixpoint
theorem Qamo:∀ (p0:(List UInt8)) (p2:Int),(∀ (v1:Int) (v14:Int) (o1:Int⊕Unit),Qid p0 p2 v1 v14=some o1->TL (0,0) Tryz.prog 32 Q9s (JP2 (0,0) 32 o1 (.exit 0) (Qvu p0 p2) .ret (Qvv p0 p2)) (Qov p0 p2 v1 v14)):=by
 intro p0 p2;refine Qid.partial_correctness p0 p2 _ ?_;intro Qid' iQid v1 v14 o1 h;refine TL.round (Qan mixed tbOk (lv:=Q2u) _ _ _ ?_);refine Qac h (λhb h=>?_) (λhb h=>?_)
 .refine Qda h (λx4 hi h=>?_);refine Qac h (λhb h=>?_) (λhb h=>?_)
  .exact JP2.b h (Le.ty 0 0)
  .refine And.intro (by decide) ?_;refine Qda h (λx5 hi h=>?_);refine vrfl ?_;refine TL.le (τ := Qov p0 p2 (bits .or .i32 (IntKind.i32.wrap (v1*2 ^ (min (6:Int).toNat (IntKind.i32.bits)))) (IntKind.i32.wrap (bits .and .u8 (x5.toNat:Int) 63))) (wr (v14+1))) ?_ ((iQid (bits .or .i32 (IntKind.i32.wrap (v1*2 ^ (min (6:Int).toNat (IntKind.i32.bits)))) (IntKind.i32.wrap (bits .and .u8 (x5.toNat:Int) 63))) (wr (v14+1)) _ h));exact Le.ty 0 0
 .exact JP2.a h (Le.ty 0 0)
def Quc (p0:(List UInt8)) (p1:Int) (p2:Int):Option (Int×Bool) :=
 if(decide ((p0.length:Int)<p2)) then
  some (0,false)
 else
  (Qid p0 p2 p1 0)>>=λo1 =>
  match o1 with
  | .inl y2 =>
   some (y2,true)
  | .inr y3 =>
   some (0,false)
theorem Qagd:∀ (p0:(List UInt8)) (p1:Int) (p2:Int) (o:Int×Bool),Quc p0 p1 p2=some o->PCall Tryz.prog 187 [sV p0,nV .i32 p1,iV p2] (Qpj o):=by
 intro p0 p1 p2 o h;unfold Quc at h;refine PCall.ofY Q2u Tryz.func187 ?_;refine vrfl ?_;refine Qac h (λhb h=>?_) (λhb h=>?_)
 .refine Qak (t:=Qpj) h ?_;exact .refl _
 .refine Qah h (λo1 ho hk=>?_);refine Exists.intro (JP2 _ _ o1 (.exit 0) (Qvu p0 p2) .ret (Qvv p0 p2)) (And.intro (Qf5 (τ := Qov p0 p2 p1 0) ?_ (TL.loop (Qamo p0 p2 p1 0 o1 ho))) (Qer (λy2 hy=>?_) (λy3 hy=>?_)))
  .exact Le.ty 0 0
  .have h:=(by rw[hy] at hk; exact hk);refine Qak (t:=Qpj) h ?_;exact .refl _
  .have h:=(by rw[hy] at hk; exact hk);refine Qak (t:=Qpj) h ?_;exact .refl _
def Qxm (p0:(List UInt8)) (p1:Int):Option (Int×Int) :=
 ( if(decide (p1<0)) then
   some true
  else
   some (decide (p1 >= (p0.length:Int))):Option (Bool))>>=λo1 =>
 if o1 then
  some (0,0)
 else
  idx p0 p1>>=λx2 =>
  ( if(decide ((x2.toNat:Int)<128)) then
    some (.inr (IntKind.i32.wrap (x2.toNat:Int)))
   else
    ( if(decide ((x2.toNat:Int) >= 192)) then
      some (decide ((x2.toNat:Int)<224))
     else
      some false:Option (Bool))>>=λo6 =>
    if o6 then
     some (.inl ((IntKind.i32.wrap (bits .and .u8 (x2.toNat:Int) 31)),128,1))
    else
     ( if(decide ((x2.toNat:Int) >= 224)) then
       some (decide ((x2.toNat:Int)<240))
      else
       some false:Option (Bool))>>=λo7 =>
     if o7 then
      some (.inl ((IntKind.i32.wrap (bits .and .u8 (x2.toNat:Int) 15)),2048,2))
     else
      ( if(decide ((x2.toNat:Int) >= 240)) then
        some (decide ((x2.toNat:Int)<248))
       else
        some false:Option (Bool))>>=λo8 =>
      if o8 then
       some (.inl ((IntKind.i32.wrap (bits .and .u8 (x2.toNat:Int) 7)),65536,3))
      else
       some (.inr 65533):Option ((Int×Int×Int)⊕Int))>>=λo3 =>
  match o3 with
  | .inl y4 =>
   cutL p0 (wr (p1+1)) (p0.length:Int)>>=λx9 =>
   Quc x9 y4.1 y4.2.2>>=λx10 =>
   ( if(!x10.2) then
     some true
    else
     if(decide (x10.1<y4.2.1)) then
      some true
     else
      Q65 x10.1>>=λx12 =>
      some (!x12):Option (Bool))>>=λo11 =>
   if o11 then
    some (65533,1)
   else
    some (x10.1,(wr (y4.2.2+1)))
  | .inr y5 =>
   some (y5,1)
theorem Qage:∀ (p0:(List UInt8)) (p1:Int) (o:Int×Int),Qxm p0 p1=some o->PCall Tryz.prog 186 [sV p0,iV p1] (Qmk o):=by
 intro p0 p1 o h;unfold Qxm at h;refine PCall.ofY Qagb Tryz.func186 ?_;refine Qah h (λo1 ho hk=>?_);refine Exists.intro (JP1 _ _ o1 .normal (Q9k p0 p1)) (And.intro ?_ (Qaz ?_))
 .have h:=ho;refine Qac h (λhb h=>?_) (λhb h=>?_)
  .exact JP1.a h (Le.ty 0 0)
  .refine vrfl ?_;exact JP1.a h (Le.ty 0 0)
 .have h:=hk;refine Qac h (λhb h=>?_) (λhb h=>?_)
  .refine Qak (t:=Qmk) h ?_;exact .refl _
  .refine Qda h (λx2 hi h=>?_);refine Qah h (λo3 ho hk=>?_);refine Exists.intro (JP2 _ _ o3 .normal (Q9l p0 p1) .ret (Q9m p0 p1)) (And.intro ?_ (Qer (λy4 hy=>?_) (λy5 hy=>?_)))
   .have h:=ho;refine Qac h (λhb h=>?_) (λhb h=>?_)
    .refine vrfl ?_;exact JP2.b h (Le.ty 0 0)
    .refine Qah h (λo6 ho hk=>?_);refine Exists.intro (JP1 _ _ o6 .normal (Q9n p0 p1 x2)) (And.intro ?_ (Qaz ?_))
     .have h:=ho;refine Qac h (λhb h=>?_) (λhb h=>?_)
      .exact JP1.a h (Le.ty 0 0)
      .exact JP1.a h (Le.ty 0 0)
     .have h:=hk;refine Qac h (λhb h=>?_) (λhb h=>?_)
      .refine vrfl ?_;exact JP2.a h (Le.ty 0 0)
      .refine Qah h (λo7 ho hk=>?_);refine Exists.intro (JP1 _ _ o7 .normal (Q9o p0 p1 x2)) (And.intro ?_ (Qaz ?_))
       .have h:=ho;refine Qac h (λhb h=>?_) (λhb h=>?_)
        .exact JP1.a h (Le.ty 0 0)
        .exact JP1.a h (Le.ty 0 0)
       .have h:=hk;refine Qac h (λhb h=>?_) (λhb h=>?_)
        .refine vrfl ?_;exact JP2.a h (Le.ty 0 0)
        .refine Qah h (λo8 ho hk=>?_);refine Exists.intro (JP1 _ _ o8 .normal (Q9p p0 p1 x2)) (And.intro ?_ (Qaz ?_))
         .have h:=ho;refine Qac h (λhb h=>?_) (λhb h=>?_)
          .exact JP1.a h (Le.ty 0 0)
          .exact JP1.a h (Le.ty 0 0)
         .have h:=hk;refine Qac h (λhb h=>?_) (λhb h=>?_)
          .refine vrfl ?_;exact JP2.a h (Le.ty 0 0)
          .exact JP2.b h (Le.ty 0 0)
   .have h:=(by rw[hy] at hk; exact hk);refine Qi4 (some (wr (p1+1))) none h (λx9 hi h=>?_);refine Qam [sV x9,nV .i32 y4.1,iV y4.2.2] Qpj h (λx10 hy=>(Qagd x9 y4.1 y4.2.2 x10 hy)) (λx10 hy h=>?_);refine Qah h (λo11 ho hk=>?_);refine Exists.intro (JP1 _ _ o11 .normal (Q9q y4 x10)) (And.intro ?_ (Qaz ?_))
    .have h:=ho;refine Qac h (λhb h=>?_) (λhb h=>?_)
     .refine bT ?_;exact JP1.a h (Le.ty 0 0)
     .refine Qac h (λhb h=>?_) (λhb h=>?_)
      .exact JP1.a h (Le.ty 0 0)
      .refine Qam [nV .i32 x10.1] Q9r h (λx12 hy=>(Qamn x10.1 x12 hy)) (λx12 hy h=>?_);exact JP1.a h (Le.ty 0 0)
    .have h:=hk;refine Qac h (λhb h=>?_) (λhb h=>?_)
     .refine Qak (t:=Qmk) h ?_;exact .refl _
     .refine Qak (t:=Qmk) h ?_;exact .refl _
   .have h:=(by rw[hy] at hk; exact hk);refine Qak (t:=Qmk) h ?_;exact .refl _
def Qe1 (p0:(List UInt8)) (v3:Int):Option ((List (Int×Int))×(Unit)) :=
 if(decide (v3<(p0.length:Int))) then
  Qxm p0 v3>>=λx3 =>
  ( Qe1 p0 (wr (v3+x3.2)))>>=λq=>some ((x3.1,x3.2)::q.1,q.2)
 else
  some ([],())
 partial_fixpoint
theorem Qakn:∀ (p0:(List UInt8)),(∀ (v3:Int) (o2:(List (Int×Int))×(Unit)),Qe1 p0 v3=some o2->∀ (gxs gp gpost gq1:List (List V)),gxs=gp++(o2.1.map Qkk++gpost)->gxs=gq1++gpost->TL (0,1) Tryz.prog 24 Q5d (Qs (0,1) 24 gxs (JP1 (0,1) 24 o2.2 (.exit 0) (Qs6 p0 gxs gq1))) (Qnc p0 v3 gxs gp)):=by
 intro p0;refine Qe1.partial_correctness p0 _ ?_;intro Qe1' iQe1 v3 o2 h;intro gxs gp gpost gq1 hx hq;refine TL.round (Qan mixed tbOk (lv:=Qzo) _ _ _ ?_);refine vrfl ?_;refine Qac h (λhb h=>?_) (λhb h=>?_)
 .refine Qam [sV p0,iV v3] Qmk h (λx3 hy=>(Qage p0 v3 x3 hy)) (λx3 hy h=>?_);refine Qal1 (c:=Qkk) h hx (.refl _) (by exact rfl) (by exact rfl) (λ_ h hx=>?_) ?_
  .refine bF ?_;refine TL.le (τ := Qnc p0 (wr (v3+x3.2)) gxs (gp++[Qkk (x3.1,x3.2)])) ?_ ((iQe1 (wr (v3+x3.2)) _ h) _ _ _ _ hx hq);exact Le.ty 0 1
  .refine bT ?_;exact .inr ⟨rfl,_,(Le.env0 _).trans (Le.tow 0 1 rfl .nil (.refl _) rfl),rfl,rfl,rfl⟩
 .exact .inl (JP1.a (sndI h) (Le.tz 0 1 rfl rfl (Qaoq h hx hq rfl)))
def Qxn (p0:(List UInt8)):Option ((List (Int×Int))×Unit) :=
 ( Qe1 p0 0)>>=λo2=>(
  some ([],()))>>=λq=>some (o2.1++q.1,q.2)
theorem Qadl:∀ (p0:(List UInt8)) (o:(List (Int×Int))×Unit),Qxn p0=some o->∀ gxs:List (List V),gxs=o.1.map Qkk->IterOK Tryz.prog 185 [.ep [sV p0]] gxs:=by
 intro p0 o h;unfold Qxn at h;intro gxs hg;have hx:gxs=[]++(o.1.map Qkk++[]):=by simp[hg]
 refine IterOK.ofB mixed tbOk Qzo Tryz.func185 rfl (by kernel_rfl) (Nat.le_of_ble_eq_true rfl) rfl ?_;refine Q05 h hx (λo2 lgq1 gq1 ho hk hxa hjgq1=>?_);refine Exists.intro (Qs _ _ gxs (JP1 _ _ o2.2 (.exit 0) (Qs6 p0 gxs gq1))) (And.intro (Qf5 (τ := Qnc p0 0 gxs ([]:List (List V))) ?_ (TL.loop ((Qakn p0 0 o2 ho) _ _ _ _ hxa hjgq1))) (Qaor (Qaz ?_) ?_))
 .exact Le.ty 0 1
 .have h:=hk;have hx:=hjgq1;exact Qal0 h hx (.inl rfl) rfl
 .exact λs1 h1 h2 hs=>Qah4 (.inr rfl) hs
def Qadm (p0:(List UInt8)):Option (Bool) :=
 Q9y p0>>=λx1 =>
 Qxn x1>>=λy5 =>
 (Qlc x1 y5.1)>>=λo6 =>
 match o6 with
 | .inl y7 =>
  some true
 | .inr y8 =>
  some false
theorem Qamp:∀ (p0:(List UInt8)) (o:Bool),Qadm p0=some o->PCall Tryz.prog 168 [sV p0] (Q08 o):=by
 intro p0 o h;unfold Qadm at h;refine PCall.ofY Q2s Tryz.func168 ?_;refine Qam [sV p0] Q2t h (λx1 hy=>(Qajv p0 x1 hy)) (λx1 hy h=>?_);refine Qah h (λy5 hy5 h=>?_);refine Qah h (λo6 ho hk=>?_);refine Exists.intro (JP2 _ _ o6 .normal (Qzm x1) .ret (Qzn x1)) (And.intro (Qf5 (τ := Qn2 x1) ?_ (Q8a (g:=185) (cap:=[.ep [sV x1]]) rfl ((Qadl x1 y5 hy5) _ rfl) (Q14 λ_=>rfl) rfl (Nat.le_of_ble_eq_true rfl) (Nat.le_of_ble_eq_true rfl) (Qaoz x1 y5.1 o6 ho))) (Qer (λy7 hy=>?_) (λy8 hy=>?_)))
 .exact Le.ty 1 0
 .have h:=(by rw[hy] at hk; exact hk);refine Qak (t:=Q08) h ?_;exact .refl _
 .have h:=(by rw[hy] at hk; exact hk);refine Qak (t:=Q08) h ?_;exact .refl _
def Qld (p0:(List UInt8)):Option ((List UInt8)×Bool) :=
 ( Qadm p0>>=λx2 =>
  if(!x2) then
   some true
  else
   Qhh p0 13>>=λx3 =>
   some (decide (x3 >= 0)):Option (Bool))>>=λo1 =>
 if o1 then
  some ([],false)
 else
  (Qdb p0 [34] 0)>>=λo4 =>
  appL 1 o4 [34]>>=λx11 =>
  b2s x11>>=λx12 =>
  some (x12,true)
theorem Qadn:∀ (p0:(List UInt8)) (o:(List UInt8)×Bool),Qld p0=some o->PCall Tryz.prog 154 [sV p0] (Qqc o):=by
 intro p0 o h;unfold Qld at h;refine PCall.ofY Qzl Tryz.func154 ?_;refine Qah h (λo1 ho hk=>?_);refine Exists.intro (JP1 _ _ o1 .normal (Q4v p0)) (And.intro ?_ (Qaz ?_))
 .have h:=ho;refine Qam [sV p0] Q08 h (λx2 hy=>(Qamp p0 x2 hy)) (λx2 hy h=>?_);refine Qac h (λhb h=>?_) (λhb h=>?_)
  .exact JP1.a h (Le.ty 0 0)
  .refine Qam [sV p0,nV .u8 13] Qh9 h (λx3 hy=>(Quv p0 13 x3 hy)) (λx3 hy h=>?_);exact JP1.a h (Le.ty 0 0)
 .have h:=hk;refine Qac h (λhb h=>?_) (λhb h=>?_)
  .refine Qak (t:=Qqc) h ?_;exact .refl _
  .refine vrfl ?_;refine Qah h (λo4 ho hk=>?_);refine Exists.intro (JP1 _ _ o4 (.exit 0) (Qs1 p0)) (And.intro (Qf5 (τ := Qet p0 [34] 0) ?_ (TL.loop (Qakm p0 [34] 0 o4 ho))) (Qaz ?_))
   .exact Le.trans (τ := ⟨[(0,.p (sV p0)),(4,.p (.sl true ([34].map (cNum .u8)))),(17,.p (iV (p0.length:Int))),(18,.p (iV 0))],⟨[],[]⟩⟩) (Le.ty 0 0) ((Le.ownW 4 5 1 rfl (Q14 λ_=>rfl)).trans (Le.ty 0 1))
   have h:=hk;refine Qhp (a:=o4) (b:=[34]) (c:=(cNum .u8)) h (.refl _) (λ_=>rfl) rfl (λx11 hi h=>?_);refine Qacs (l:=x11) h (λx12 hi h=>?_);refine Qak (t:=Qqc) h ?_;exact .refl _
def Qiw (p0:Qab):Option (Qdf) :=
 some (Qdf.mk (!(p0.Name==[])) (!(p0.Text==[])) (p0.N != 0) (decide ((p0.Then.length:Int)>0)) (decide ((p0.Else.length:Int)>0)) (p0.L.length:Int))
theorem Qta:∀ (p0:Qab) (o:Qdf),Qiw p0=some o->PCall Tryz.prog 126 [.agg [iV p0.Kind,sV p0.Name,sV p0.Text,iV p0.N,.sl false (p0.L.map Qaa),.sl false (p0.Then.map Qaa),.sl false (p0.Else.map Qaa)]] (Qk1 o):=by
 intro p0 o h;unfold Qiw at h;refine PCall.ofY Q2r Tryz.func126 ?_;refine view (Qau _ _) rfl ?_;refine view (Qau _ _) rfl ?_;refine view (Qau _ _) rfl ?_;refine Qak (t:=Qk1) h ?_;exact .refl _
mutual
def Qa7 (p0:(List Qab)):Option (Bool) :=
 Qbm p0>>=λx1 =>
 some (decide (x1 >= 0))
 partial_fixpoint
def Qbm (p0:(List Qab)):Option (Int) :=
 (Qaw p0 0)>>=λo1 =>
 match o1 with
 | .inl y2 =>
  some (-1)
 | .inr y3 =>
  some y3
 partial_fixpoint
def Qaw (p0:(List Qab)) (v8:Int):Option (Unit⊕Int) :=
 if(decide (v8<(p0.length:Int))) then
  idx p0 v8>>=λx4 =>
  Qwl x4>>=λx5 =>
  if x5 then
   some (.inr v8)
  else
   Qaw p0 (wr (v8+1))
 else
  some (.inl ())
 partial_fixpoint
def Qwl (p0:Qab):Option (Bool) :=
 Qft p0>>=λx1 =>
 some (!x1)
 partial_fixpoint
def Qft (p0:Qab):Option (Bool) :=
 Qiw p0>>=λx1 =>
 if(p0.Kind==1) then
  Qld p0.Text>>=λx2 =>
  ( if x2.2 then
    some ((x1.name_==false)&&((x1.text_==x1.text_)&&((x1.num_==false)&&((x1.then_==false)&&((x1.other_==false)&&((x1.l_==0)&&true))))))
   else
    some false:Option (Bool))>>=λo3 =>
  some o3
 else
  if(p0.Kind==2) then
   some ((x1.name_==false)&&((x1.text_==false)&&((x1.num_==x1.num_)&&((x1.then_==false)&&((x1.other_==false)&&((x1.l_==0)&&true))))))
  else
   if(p0.Kind==3) then
    ( if((bits .andNot .i64 p0.N 1)==0) then
      some ((x1.name_==false)&&((x1.text_==false)&&((x1.num_==x1.num_)&&((x1.then_==false)&&((x1.other_==false)&&((x1.l_==0)&&true))))))
     else
      some false:Option (Bool))>>=λo4 =>
    some o4
   else
    if(p0.Kind==4) then
     ( Qjf p0.Name>>=λx6 =>
      if x6 then
       some ((x1.name_==true)&&((x1.text_==false)&&((x1.num_==false)&&((x1.then_==false)&&((x1.other_==false)&&((x1.l_==0)&&true))))))
      else
       some false:Option (Bool))>>=λo5 =>
     some o5
    else
     if(p0.Kind==7) then
      ( Qqj p0.Name>>=λx8 =>
       if x8 then
        some ((x1.name_==true)&&((x1.text_==false)&&((x1.num_==false)&&((x1.then_==false)&&((x1.other_==false)&&((x1.l_==0)&&true))))))
       else
        some false:Option (Bool))>>=λo7 =>
      some o7
     else
      if(p0.Kind==5) then
       ( Qqj p0.Name>>=λx10 =>
        if x10 then
         if((x1.name_==true)&&((x1.text_==false)&&((x1.num_==false)&&((x1.then_==false)&&((x1.other_==false)&&((x1.l_==1)&&true)))))) then
          idx p0.L 0>>=λx11 =>
          Qft x11>>=λx12 =>
          some x12
         else
          some false
        else
         some false:Option (Bool))>>=λo9 =>
       some o9
      else
       if(p0.Kind==6) then
        ( Qjf p0.Name>>=λx14 =>
         if x14 then
          if((x1.name_==true)&&((x1.text_==false)&&((x1.num_==false)&&((x1.then_==false)&&((x1.other_==false)&&((x1.l_==(if 3<x1.l_ then 3 else x1.l_))&&true)))))) then
           Qa7 p0.L>>=λx15 =>
           some (!x15)
          else
           some false
         else
          some false:Option (Bool))>>=λo13 =>
        some o13
       else
        some false
 partial_fixpoint
end
theorem Qdi:(∀ (p0:(List Qab)) (o:Bool),Qa7 p0=some o->CallOK Tryz.prog 56 [.p (.sl false (p0.map Qaa)),.fn (.func 155) [] []] ⟨[],[]⟩ (Qbw o) ⟨[],[]⟩)/\(∀ (p0:(List Qab)) (o:Int),Qbm p0=some o->CallOK Tryz.prog 83 [.p (.sl false (p0.map Qaa)),.fn (.func 155) [] []] ⟨[],[]⟩ (Qbi o) ⟨[],[]⟩)/\(∀ (p0:(List Qab)) (v8:Int) (o1:Unit⊕Int),Qaw p0 v8=some o1->TL (0,0) Tryz.prog 19 Qdu (JP2 (0,0) 19 o1 (.exit 0) (Qbu p0) .ret (Qbv p0)) (Qbc p0 v8))/\(∀ (p0:Qab) (o:Bool),Qwl p0=some o->PCall Tryz.prog 155 [.agg [iV p0.Kind,sV p0.Name,sV p0.Text,iV p0.N,.sl false (p0.L.map Qaa),.sl false (p0.Then.map Qaa),.sl false (p0.Else.map Qaa)]] (Qqf o))/\(∀ (p0:Qab) (o:Bool),Qft p0=some o->PCall Tryz.prog 128 [.agg [iV p0.Kind,sV p0.Name,sV p0.Text,iV p0.N,.sl false (p0.L.map Qaa),.sl false (p0.Then.map Qaa),.sl false (p0.Else.map Qaa)]] (Qc3 o)):=by
 refine Qa7.mutual_partial_correctness _ _ _ _ _ ?_ ?_ ?_ ?_ ?_
 .intro Qbm' iQbm p0 o h;refine CallOK.ofB mixed tbOk Qdp Tryz.func56 rfl (by kernel_rfl) (Nat.le_of_ble_eq_true rfl) rfl rfl rfl ?_;refine Qaq _ _ h (λx1 hy=>((iQbm p0 x1 hy).fr [] [] rfl rfl rfl)) (λx1 hy h=>?_);refine Exists.intro _ (And.intro (Le.refl _ _ _) ?_);exact Qb3 (t:=Qbw) (ss:=λo=>⟨[],[]⟩) h ⟨[],rfl,.refl _,.refl _,rfl⟩
 .intro Qaw' iQaw p0 o h;refine CallOK.ofB mixed tbOk Qb5 Tryz.func83 rfl (by kernel_rfl) (Nat.le_of_ble_eq_true rfl) rfl rfl rfl ?_;refine view (Qau _ _) rfl ?_;refine Qah h (λo1 ho hk=>?_);refine Exists.intro (JP2 _ _ o1 (.exit 0) (Qbu p0) .ret (Qbv p0)) (And.intro (Qf5 (τ := Qbc p0 0) ?_ (TL.loop (iQaw p0 0 o1 ho))) (Qer (λy2 hy=>?_) (λy3 hy=>?_)))
  .exact Le.ty 0 0
  .have h:=(by rw[hy] at hk; exact hk);refine Exists.intro _ (And.intro (Le.refl _ _ _) ?_);exact Qb3 (t:=Qbi) (ss:=λo=>⟨[],[]⟩) h ⟨[],rfl,.refl _,.refl _,rfl⟩
  .have h:=(by rw[hy] at hk; exact hk);refine Exists.intro _ (And.intro (Le.refl _ _ _) ?_);exact Qb3 (t:=Qbi) (ss:=λo=>⟨[],[]⟩) h ⟨[],rfl,.refl _,.refl _,rfl⟩
 .intro Qaw' Qwl' iQaw iQwl p0 v8 o1 h;refine TL.round (Qan mixed tbOk (lv:=Qb5) _ _ _ ?_);refine Qac h (λhb h=>?_) (λhb h=>?_)
  .refine Qay (l:=p0) (c:=Qaa) (c' := Qa1) h Qao (λ_=>rfl) (by decide) (λx4 hi h=>?_);refine Qam [.agg [iV x4.Kind,sV x4.Name,sV x4.Text,iV x4.N,.sl false (x4.L.map Qaa),.sl false (x4.Then.map Qaa),.sl false (x4.Else.map Qaa)]] Qqf h (λx5 hy=>(iQwl x4 x5 hy)) (λx5 hy h=>?_);refine Qac h (λhb h=>?_) (λhb h=>?_)
   .exact JP2.b h (Le.ty 0 0)
   .refine TL.le (τ := Qbc p0 (wr (v8+1))) ?_ ((iQaw p0 (wr (v8+1)) _ h));exact Le.ty 0 0
  .exact JP2.a h (Le.ty 0 0)
 .intro Qft' iQft p0 o h;refine PCall.ofY Q46 Tryz.func155 ?_;refine Qam [.agg [iV p0.Kind,sV p0.Name,sV p0.Text,iV p0.N,.sl false (p0.L.map Qaa),.sl false (p0.Then.map Qaa),.sl false (p0.Else.map Qaa)]] Qc3 h (λx1 hy=>(iQft p0 x1 hy)) (λx1 hy h=>?_);refine Qak (t:=Qqf) h ?_;exact .refl _
 .intro Qa7' Qft' iQa7 iQft p0 o h;refine PCall.ofY Qac7 Tryz.func128 ?_;refine Qam [.agg [iV p0.Kind,sV p0.Name,sV p0.Text,iV p0.N,.sl false (p0.L.map Qaa),.sl false (p0.Then.map Qaa),.sl false (p0.Else.map Qaa)]] Qk1 h (λx1 hy=>(Qta p0 x1 hy)) (λx1 hy h=>?_);refine Qac h (λhb h=>?_) (λhb h=>?_)
  .refine Qam [sV p0.Text] Qqc h (λx2 hy=>(Qadn p0.Text x2 hy)) (λx2 hy h=>?_);refine Qah h (λo3 ho hk=>?_);refine Exists.intro (JP1 _ _ o3 .normal (Q40 p0 x1)) (And.intro ?_ (Qaz ?_))
   .have h:=ho;refine Qac h (λhb h=>?_) (λhb h=>?_)
    .refine And.intro rfl ?_;exact JP1.a h (Le.ty 3 0)
    .exact JP1.a h (Le.ty 3 0)
   .have h:=hk;refine Qak (t:=Qc3) h ?_;exact .refl _
  .refine Qac h (λhb h=>?_) (λhb h=>?_)
   .refine And.intro rfl ?_;refine Qak (t:=Qc3) h ?_;exact .refl _
   .refine Qac h (λhb h=>?_) (λhb h=>?_)
    .refine Qah h (λo4 ho hk=>?_);refine Exists.intro (JP1 _ _ o4 .normal (Q41 p0 x1)) (And.intro ?_ (Qaz ?_))
     .have h:=ho;refine Qac h (λhb h=>?_) (λhb h=>?_)
      .refine And.intro rfl ?_;exact JP1.a h (Le.ty 3 0)
      .exact JP1.a h (Le.ty 3 0)
     .have h:=hk;refine Qak (t:=Qc3) h ?_;exact .refl _
    .refine Qac h (λhb h=>?_) (λhb h=>?_)
     .refine Qah h (λo5 ho hk=>?_);refine Exists.intro (JP1 _ _ o5 .normal (Q42 p0 x1)) (And.intro ?_ (Qaz ?_))
      .have h:=ho;refine Qam [sV p0.Name] Qge h (λx6 hy=>(Qlb p0.Name x6 hy)) (λx6 hy h=>?_);refine Qac h (λhb h=>?_) (λhb h=>?_)
       .refine And.intro rfl ?_;exact JP1.a h (Le.ty 3 0)
       .exact JP1.a h (Le.ty 3 0)
      .have h:=hk;refine Qak (t:=Qc3) h ?_;exact .refl _
     .refine Qac h (λhb h=>?_) (λhb h=>?_)
      .refine Qah h (λo7 ho hk=>?_);refine Exists.intro (JP1 _ _ o7 .normal (Q43 p0 x1)) (And.intro ?_ (Qaz ?_))
       .have h:=ho;refine Qam [sV p0.Name] Qmj h (λx8 hy=>(Qwk p0.Name x8 hy)) (λx8 hy h=>?_);refine Qac h (λhb h=>?_) (λhb h=>?_)
        .refine And.intro rfl ?_;exact JP1.a h (Le.ty 3 0)
        .exact JP1.a h (Le.ty 3 0)
       .have h:=hk;refine Qak (t:=Qc3) h ?_;exact .refl _
      .refine Qac h (λhb h=>?_) (λhb h=>?_)
       .refine Qah h (λo9 ho hk=>?_);refine Exists.intro (JP1 _ _ o9 .normal (Q44 p0 x1)) (And.intro ?_ (Qaz ?_))
        .have h:=ho;refine Qam [sV p0.Name] Qmj h (λx10 hy=>(Qwk p0.Name x10 hy)) (λx10 hy h=>?_);refine Qac h (λhb h=>?_) (λhb h=>?_)
         .refine And.intro rfl ?_;refine Qac h (λhb h=>?_) (λhb h=>?_)
          .refine Qay (l:=p0.L) (c:=Qaa) (c' := Qa1) h Qao (λ_=>rfl) (by decide) (λx11 hi h=>?_);refine Qam [.agg [iV x11.Kind,sV x11.Name,sV x11.Text,iV x11.N,.sl false (x11.L.map Qaa),.sl false (x11.Then.map Qaa),.sl false (x11.Else.map Qaa)]] Qc3 h (λx12 hy=>(iQft x11 x12 hy)) (λx12 hy h=>?_);exact JP1.a h (Le.ty 3 0)
          .exact JP1.a h (Le.ty 3 0)
         .refine bF ?_;exact JP1.a h (Le.ty 3 0)
        .have h:=hk;refine Qak (t:=Qc3) h ?_;exact .refl _
       .refine Qac h (λhb h=>?_) (λhb h=>?_)
        .refine Qah h (λo13 ho hk=>?_);refine Exists.intro (JP1 _ _ o13 .normal (Q45 p0 x1)) (And.intro ?_ (Qaz ?_))
         .have h:=ho;refine Qam [sV p0.Name] Qge h (λx14 hy=>(Qlb p0.Name x14 hy)) (λx14 hy h=>?_);refine Qac h (λhb h=>?_) (λhb h=>?_)
          .refine And.intro rfl ?_;refine Qac h (λhb h=>?_) (λhb h=>?_)
           .refine Qaq _ _ h (λx15 hy=>((iQa7 p0.L x15 hy).fr [] [] rfl rfl rfl)) (λx15 hy h=>?_);exact JP1.a h (Le.ty 3 0)
           .exact JP1.a h (Le.ty 3 0)
          .refine bF ?_;exact JP1.a h (Le.ty 3 0)
         .have h:=hk;refine Qak (t:=Qc3) h ?_;exact .refl _
        .refine Qak (t:=Qc3) h ?_;exact .refl _
theorem Qado:∀ (p0:Qab) (o:Bool),Qft p0=some o->PCall Tryz.prog 128 [.agg [iV p0.Kind,sV p0.Name,sV p0.Text,iV p0.N,.sl false (p0.L.map Qaa),.sl false (p0.Then.map Qaa),.sl false (p0.Else.map Qaa)]] (Qc3 o):=λp0=>Qdi.2.2.2.2 p0
mutual
def Qix (p0:(List Qab)) (p1:Bool):Option (Bool) :=
 (Qhi p0 p1 0)>>=λo1 =>
 match o1 with
 | .inl y2 =>
  some true
 | .inr y3 =>
  some false
 partial_fixpoint
def Qhi (p0:(List Qab)) (p1:Bool) (v10:Int):Option (Unit⊕Unit) :=
 if(decide (v10<(p0.length:Int))) then
  idx p0 v10>>=λx4 =>
  Qtb x4>>=λx5 =>
  if(!x5) then
   some (.inr ())
  else
   ( if(x4.Kind==8) then
     if(!(v10==(wr ((p0.length:Int)-1)))) then
      idx p0 (wr (v10+1))>>=λx7 =>
      if(x7.Kind==8) then
       some true
      else
       if(v10==(wr ((p0.length:Int)-1))) then
        if(!p1) then
         Qcl x4.Text [123]>>=λx8 =>
         some x8
        else
         some false
       else
        Qcl x4.Text [123]>>=λx9 =>
        some x9
     else
      if(v10==(wr ((p0.length:Int)-1))) then
       if(!p1) then
        Qcl x4.Text [123]>>=λx10 =>
        some x10
       else
        some false
      else
       Qcl x4.Text [123]>>=λx11 =>
       some x11
    else
     some false:Option (Bool))>>=λo6 =>
   if o6 then
    some (.inr ())
   else
    Qhi p0 p1 (wr (v10+1))
 else
  some (.inl ())
 partial_fixpoint
def Qtb (p0:Qab):Option (Bool) :=
 Qiw p0>>=λx1 =>
 ( if(p0.Kind==8) then
   ( if((x1.name_==false)&&((x1.text_==true)&&((x1.num_==false)&&((x1.then_==false)&&((x1.other_==false)&&((x1.l_==0)&&true)))))) then
     Qfs p0.Text [123,123]>>=λx6 =>
     some (!x6)
    else
     some false:Option (Bool))>>=λo5 =>
   some (.inr o5)
  else
   if(p0.Kind==9) then
    some (.inl (false,false,false))
   else
    if(p0.Kind==10) then
     some (.inl (false,x1.then_,x1.other_))
    else
     ( if(p0.Kind==11) then
       some (p0.Kind==11)
      else
       some (p0.Kind==12):Option (Bool))>>=λo7 =>
     if o7 then
      Qjf p0.Name>>=λx8 =>
      some (.inl (x8,x1.then_,false))
     else
      if(p0.Kind==13) then
       Qjf p0.Name>>=λx9 =>
       some (.inl (x9,false,false))
      else
       some (.inr false):Option ((Bool×Bool×Bool)⊕Bool))>>=λo2 =>
 match o2 with
 | .inl y3 =>
  ( if(p0.Kind==11) then
    some true
   else
    if(p0.Kind==12) then
     some true
    else
     some (p0.Kind==13):Option (Bool))>>=λo10 =>
  ( if(y3.1==o10) then
    if((x1.name_==y3.1)&&((x1.text_==false)&&((x1.num_==false)&&((x1.then_==y3.2.1)&&((x1.other_==y3.2.2)&&((x1.l_==1)&&true)))))) then
     idx p0.L 0>>=λx12 =>
     Qft x12>>=λx13 =>
     if x13 then
      Qix p0.Then false>>=λx14 =>
      if x14 then
       Qix p0.Else false>>=λx15 =>
       some x15
      else
       some false
     else
      some false
    else
     some false
   else
    some false:Option (Bool))>>=λo11 =>
  some o11
 | .inr y4 =>
  some y4
 partial_fixpoint
end
theorem Q5f:(∀ (p0:(List Qab)) (p1:Bool) (o:Bool),Qix p0 p1=some o->PCall Tryz.prog 72 [.sl false (p0.map Qaa),bV p1] (Qgf o))/\(∀ (p0:(List Qab)) (p1:Bool) (v10:Int) (o1:Unit⊕Unit),Qhi p0 p1 v10=some o1->TL (0,0) Tryz.prog 52 Q2q (JP2 (0,0) 52 o1 (.exit 0) (Qq9 p0 p1) .ret (Qra p0 p1)) (Qlt p0 p1 v10))/\(∀ (p0:Qab) (o:Bool),Qtb p0=some o->PCall Tryz.prog 97 [.agg [iV p0.Kind,sV p0.Name,sV p0.Text,iV p0.N,.sl false (p0.L.map Qaa),.sl false (p0.Then.map Qaa),.sl false (p0.Else.map Qaa)]] (Qqg o)):=by
 refine Qix.mutual_partial_correctness _ _ _ ?_ ?_ ?_
 .intro Qhi' iQhi p0 p1 o h;refine PCall.ofY Qxj Tryz.func72 ?_;refine view (Qau _ _) rfl ?_;refine Qah h (λo1 ho hk=>?_);refine Exists.intro (JP2 _ _ o1 (.exit 0) (Qq9 p0 p1) .ret (Qra p0 p1)) (And.intro (Qf5 (τ := Qlt p0 p1 0) ?_ (TL.loop (iQhi p0 p1 0 o1 ho))) (Qer (λy2 hy=>?_) (λy3 hy=>?_)))
  .exact Le.ty 0 0
  .have h:=(by rw[hy] at hk; exact hk);refine Qak (t:=Qgf) h ?_;exact .refl _
  .have h:=(by rw[hy] at hk; exact hk);refine Qak (t:=Qgf) h ?_;exact .refl _
 .intro Qhi' Qtb' iQhi iQtb p0 p1 v10 o1 h;refine TL.round (Qan mixed tbOk (lv:=Qxj) _ _ _ ?_);refine Qac h (λhb h=>?_) (λhb h=>?_)
  .refine Qay (l:=p0) (c:=Qaa) (c' := Qa1) h Qao (λ_=>rfl) (by decide) (λx4 hi h=>?_);refine Qam [.agg [iV x4.Kind,sV x4.Name,sV x4.Text,iV x4.N,.sl false (x4.L.map Qaa),.sl false (x4.Then.map Qaa),.sl false (x4.Else.map Qaa)]] Qqg h (λx5 hy=>(iQtb x4 x5 hy)) (λx5 hy h=>?_);refine Qac h (λhb h=>?_) (λhb h=>?_)
   .exact JP2.b h (Le.ty 0 0)
   .refine view (Qau _ _) rfl ?_;refine Qah h (λo6 ho hk=>?_);refine Exists.intro (JP1 _ _ o6 .normal (Q2p p0 p1 v10 x4)) (And.intro ?_ (Qaz ?_))
    .have h:=ho;refine Qac h (λhb h=>?_) (λhb h=>?_)
     .refine Qac h (λhb h=>?_) (λhb h=>?_)
      .refine Qay (l:=p0) (c:=Qaa) (c' := Qa1) h Qao (λ_=>rfl) (by decide) (λx7 hi h=>?_);refine Qac h (λhb h=>?_) (λhb h=>?_)
       .exact JP1.a h (Le.ty 1 0)
       .refine Qac h (λhb h=>?_) (λhb h=>?_)
        .refine Qac h (λhb h=>?_) (λhb h=>?_)
         .refine Qam [sV x4.Text,sV [123]] Qc2 h (λx8 hy=>(Qeq x4.Text [123] x8 hy)) (λx8 hy h=>?_);exact JP1.a h (Le.ty 1 0)
         .exact JP1.a h (Le.ty 1 0)
        .refine bT ?_;refine Qam [sV x4.Text,sV [123]] Qc2 h (λx9 hy=>(Qeq x4.Text [123] x9 hy)) (λx9 hy h=>?_);exact JP1.a h (Le.ty 1 0)
      .refine bF ?_;refine Qac h (λhb h=>?_) (λhb h=>?_)
       .refine Qac h (λhb h=>?_) (λhb h=>?_)
        .refine Qam [sV x4.Text,sV [123]] Qc2 h (λx10 hy=>(Qeq x4.Text [123] x10 hy)) (λx10 hy h=>?_);exact JP1.a h (Le.ty 1 0)
        .exact JP1.a h (Le.ty 1 0)
       .refine bT ?_;refine Qam [sV x4.Text,sV [123]] Qc2 h (λx11 hy=>(Qeq x4.Text [123] x11 hy)) (λx11 hy h=>?_);exact JP1.a h (Le.ty 1 0)
     .exact JP1.a h (Le.ty 1 0)
    .have h:=hk;refine Qac h (λhb h=>?_) (λhb h=>?_)
     .exact JP2.b h (Le.ty 0 0)
     .refine TL.le (τ := Qlt p0 p1 (wr (v10+1))) ?_ ((iQhi p0 p1 (wr (v10+1)) _ h));exact Le.ty 0 0
  .exact JP2.a h (Le.ty 0 0)
 .intro Qix' iQix p0 o h;refine PCall.ofY Qac8 Tryz.func97 ?_;refine Qam [.agg [iV p0.Kind,sV p0.Name,sV p0.Text,iV p0.N,.sl false (p0.L.map Qaa),.sl false (p0.Then.map Qaa),.sl false (p0.Else.map Qaa)]] Qk1 h (λx1 hy=>(Qta p0 x1 hy)) (λx1 hy h=>?_);refine Qah h (λo2 ho hk=>?_);refine Exists.intro (JP2 _ _ o2 .normal (Q47 p0 x1) .ret (Q48 p0 x1)) (And.intro ?_ (Qer (λy3 hy=>?_) (λy4 hy=>?_)))
  .have h:=ho;refine Qac h (λhb h=>?_) (λhb h=>?_)
   .refine Qah h (λo5 ho hk=>?_);refine Exists.intro (JP1 _ _ o5 .normal (Q49 p0 x1)) (And.intro ?_ (Qaz ?_))
    .have h:=ho;refine And.intro rfl ?_;refine Qac h (λhb h=>?_) (λhb h=>?_)
     .refine Qam [sV p0.Text,sV [123,123]] Qja h (λx6 hy=>(Qwj p0.Text [123,123] x6 hy)) (λx6 hy h=>?_);exact JP1.a h (Le.ty 3 0)
     .exact JP1.a h (Le.ty 3 0)
    .have h:=hk;exact JP2.b h (Le.ty 3 0)
   .refine Qac h (λhb h=>?_) (λhb h=>?_)
    .exact JP2.a h (Le.ty 3 0)
    .refine Qac h (λhb h=>?_) (λhb h=>?_)
     .refine And.intro (by decide +kernel) (And.intro rfl ?_);exact JP2.a h (Le.ty 3 0)
     .refine Qah h (λo7 ho hk=>?_);refine Exists.intro (JP1 _ _ o7 .normal (Q5a p0 x1)) (And.intro ?_ (Qaz ?_))
      .have h:=ho;refine Qac h (λhb h=>?_) (λhb h=>?_)
       .exact JP1.a h (Le.ty 3 0)
       .exact JP1.a h (Le.ty 3 0)
      .have h:=hk;refine Qac h (λhb h=>?_) (λhb h=>?_)
       .refine And.intro (by decide +kernel) (And.intro rfl ?_);refine Qcf [sV p0.Name] Qge h (λx8 hy=>(Qlb p0.Name x8 hy)) (λx8 hy h=>?_);exact JP2.a h (Le.ty 3 0)
       .refine Qac h (λhb h=>?_) (λhb h=>?_)
        .refine Qam [sV p0.Name] Qge h (λx9 hy=>(Qlb p0.Name x9 hy)) (λx9 hy h=>?_);exact JP2.a h (Le.ty 3 0)
        .exact JP2.b h (Le.ty 3 0)
  .have h:=(by rw[hy] at hk; exact hk);refine Qah h (λo10 ho hk=>?_);refine Exists.intro (JP1 _ _ o10 .normal (Q5b p0 x1 y3)) (And.intro ?_ (Qaz ?_))
   .have h:=ho;refine Qac h (λhb h=>?_) (λhb h=>?_)
    .refine bT ?_;exact JP1.a h (Le.ty 3 0)
    .refine Qac h (λhb h=>?_) (λhb h=>?_)
     .exact JP1.a h (Le.ty 3 0)
     .exact JP1.a h (Le.ty 3 0)
   .have h:=hk;refine Qah h (λo11 ho hk=>?_);refine Exists.intro (JP1 _ _ o11 .normal (Q5c p0 x1 y3)) (And.intro ?_ (Qaz ?_))
    .have h:=ho;refine Qac h (λhb h=>?_) (λhb h=>?_)
     .refine And.intro rfl ?_;refine Qac h (λhb h=>?_) (λhb h=>?_)
      .refine Qay (l:=p0.L) (c:=Qaa) (c' := Qa1) h Qao (λ_=>rfl) (by decide) (λx12 hi h=>?_);refine Qam [.agg [iV x12.Kind,sV x12.Name,sV x12.Text,iV x12.N,.sl false (x12.L.map Qaa),.sl false (x12.Then.map Qaa),.sl false (x12.Else.map Qaa)]] Qc3 h (λx13 hy=>(Qado x12 x13 hy)) (λx13 hy h=>?_);refine Qac h (λhb h=>?_) (λhb h=>?_)
       .refine Qam [.sl false (p0.Then.map Qaa),bV false] Qgf h (λx14 hy=>(iQix p0.Then false x14 hy)) (λx14 hy h=>?_);refine Qac h (λhb h=>?_) (λhb h=>?_)
        .refine Qam [.sl false (p0.Else.map Qaa),bV false] Qgf h (λx15 hy=>(iQix p0.Else false x15 hy)) (λx15 hy h=>?_);exact JP1.a h (Le.ty 3 0)
        .exact JP1.a h (Le.ty 3 0)
       .refine bF ?_;exact JP1.a h (Le.ty 3 0)
      .refine bF ?_;refine bF ?_;exact JP1.a h (Le.ty 3 0)
     .refine bF ?_;refine bF ?_;refine bF ?_;exact JP1.a h (Le.ty 3 0)
    .have h:=hk;refine Qak (t:=Qqg) h ?_;exact .refl _
  .have h:=(by rw[hy] at hk; exact hk);refine Qak (t:=Qqg) h ?_;exact .refl _
theorem Q9z:∀ (p0:(List Qab)) (p1:Bool) (o:Bool),Qix p0 p1=some o->PCall Tryz.prog 72 [.sl false (p0.map Qaa),bV p1] (Qgf o):=λp0 p1=>Q5f.1 p0 p1
def Q21 (p0:(List Qab)):Option (Bool) :=
 ( Qs9 p0>>=λx2 =>
  if(decide (x2<=12)) then
   Qpm p0>>=λx3 =>
   if(decide (x3<=1024)) then
    Qix p0 true>>=λx4 =>
    some x4
   else
    some false
  else
   some false:Option (Bool))>>=λo1 =>
 some o1
theorem Qajw:∀ (p0:(List Qab)) (o:Bool),Q21 p0=some o->PCall Tryz.prog 38 [.sl false (p0.map Qaa)] (Q2m o):=by
 intro p0 o h;unfold Q21 at h;refine PCall.ofY Qajp Tryz.func38 ?_;refine Qah h (λo1 ho hk=>?_);refine Exists.intro (JP1 _ _ o1 .normal (Qac5 )) (And.intro ?_ (Qaz ?_))
 .have h:=ho;refine Qam [.sl false (p0.map Qaa)] Qwe h (λx2 hy=>(Qadk p0 x2 hy)) (λx2 hy h=>?_);refine Qac h (λhb h=>?_) (λhb h=>?_)
  .refine Qam [.sl false (p0.map Qaa)] Qs3 h (λx3 hy=>(Q9w p0 x3 hy)) (λx3 hy h=>?_);refine Qac h (λhb h=>?_) (λhb h=>?_)
   .refine Qam [.sl false (p0.map Qaa),bV true] Qgf h (λx4 hy=>(Q9z p0 true x4 hy)) (λx4 hy h=>?_);exact JP1.a h (Le.ty 0 0)
   .exact JP1.a h (Le.ty 0 0)
  .refine bF ?_;exact JP1.a h (Le.ty 0 0)
 .have h:=hk;refine Qak (t:=Q2m) h ?_;exact .refl _
def Qeg (p0:(List Qae)) (v22:Int):Option (Unit⊕((List UInt8)×Int)) :=
 if(decide (v22<(p0.length:Int))) then
  idx p0 v22>>=λx4 =>
  ( Qjf x4.Name>>=λx6 =>
   if(!x6) then
    some true
   else
    Q21 x4.L>>=λx7 =>
    some (!x7):Option (Bool))>>=λo5 =>
  if o5 then
   some (.inr (x4.Name,7))
  else
   cutL p0 0 v22>>=λx8 =>
   Qkm x8 x4.Name>>=λx9 =>
   if x9.2 then
    some (.inr (x4.Name,9))
   else
    Qeg p0 (wr (v22+1))
 else
  some (.inl ())
 partial_fixpoint
theorem Qaia:∀ (p0:(List Qae)),(∀ (v22:Int) (o1:Unit⊕((List UInt8)×Int)),Qeg p0 v22=some o1->TL (0,0) Tryz.prog 102 Q0a (JP2 (0,0) 102 o1 (.exit 0) (Qo9 p0) .ret (Qpa p0)) (Qke p0 v22)):=by
 intro p0;refine Qeg.partial_correctness p0 _ ?_;intro Qeg' iQeg v22 o1 h;refine TL.round (Qan mixed tbOk (lv:=Qhs) _ _ _ ?_);refine Qac h (λhb h=>?_) (λhb h=>?_)
 .refine Qay (l:=p0) (c:=Qaf) (c' := Qaf) h (λ_=>rfl) (λ_=>rfl) (by decide) (λx4 hi h=>?_);refine Qah h (λo5 ho hk=>?_);refine Exists.intro (JP1 _ _ o5 .normal (Qz9 p0 v22 x4)) (And.intro ?_ (Qaz ?_))
  .have h:=ho;refine Qam [sV x4.Name] Qge h (λx6 hy=>(Qlb x4.Name x6 hy)) (λx6 hy h=>?_);refine Qac h (λhb h=>?_) (λhb h=>?_)
   .exact JP1.a h (Le.ty 1 0)
   .refine Qam [.sl false (x4.L.map Qaa)] Q2m h (λx7 hy=>(Qajw x4.L x7 hy)) (λx7 hy h=>?_);exact JP1.a h (Le.ty 1 0)
  .have h:=hk;refine Qac h (λhb h=>?_) (λhb h=>?_)
   .exact JP2.b h (Le.ty 0 0)
   .refine And.intro (by decide +kernel) (And.intro rfl ?_);refine Qacr (c:=Qaf) none (some v22) h (λ_=>rfl) (λx8 hi h=>?_);refine Qcf [.sl false (x8.map Qaf),sV x4.Name] Qiu h (λx9 hy=>(Qqi x8 x4.Name x9 hy)) (λx9 hy h=>?_);refine Qac h (λhb h=>?_) (λhb h=>?_)
    .exact JP2.b h (Le.ty 0 0)
    .refine TL.le (τ := Qke p0 (wr (v22+1))) ?_ ((iQeg (wr (v22+1)) _ h));exact Le.ty 0 0
 .exact JP2.a h (Le.ty 0 0)
def Qeh (p0:(List Qae)) (x10:(List ((List UInt8)×(List (List UInt8))))) (v56:Int) (x14:Qae) (v66:Int):Option (Unit⊕Unit) :=
 if(decide (v66<(((mget (λa b=>a==b) x14.Name x10).getD []).length:Int))) then
  idx ((mget (λa b=>a==b) x14.Name x10).getD []) v66>>=λx18 =>
  if(!((mget (λa b=>a==b) x18 x10).isSome)) then
   some (.inr ())
  else
   Qeh p0 x10 v56 x14 (wr (v66+1))
 else
  some (.inl ())
 partial_fixpoint
theorem Qaib:∀ (p0:(List Qae)) (x10:(List ((List UInt8)×(List (List UInt8))))) (v56:Int) (x14:Qae),(∀ (v66:Int) (o15:Unit⊕Unit),Qeh p0 x10 v56 x14 v66=some o15->TL (0,0) Tryz.prog 102 Q0b (JP2 (0,0) 102 o15 (.exit 4) (Qpb p0 x10 v56 x14) .ret (Qpc p0 x10 v56 x14)) (Qkf p0 x10 v56 x14 v66)):=by
 intro p0 x10 v56 x14;refine Qeh.partial_correctness p0 x10 v56 x14 _ ?_;intro Qeh' iQeh v66 o15 h;refine TL.round (Qan mixed tbOk (lv:=Qhs) _ _ _ ?_);refine Qac h (λhb h=>?_) (λhb h=>?_)
 .refine Qay (l:=((mget (λa b=>a==b) x14.Name x10).getD [])) (c:=cStr) (c' := cStr) h (λ_=>rfl) (λ_=>rfl) (by decide) (λx18 hi h=>?_);refine Qv9 (l:=x10) (k:=x18) (λa b=>a==b) (ck:=sV) (ca:=(λx =>.sl false (x.map cStr))) (z0:=[]) (by exact rfl) (by exact rfl) (by exact rfl) (by exact λ_ _=>rfl) (by exact rfl) (by exact .not) ?_;refine Qac h (λhb h=>?_) (λhb h=>?_)
  .exact JP2.b h (Le.ty 3 0)
  .refine TL.le (τ := Qkf p0 x10 v56 x14 (wr (v66+1))) ?_ ((iQeh (wr (v66+1)) _ h));exact Le.ty 3 0
 .exact JP2.a h (Le.ty 3 0)
def Qei (p0:(List Qae)) (x10:(List ((List UInt8)×(List (List UInt8))))) (v56:Int):Option (Unit⊕(List UInt8)) :=
 if(decide (v56<(p0.length:Int))) then
  idx p0 v56>>=λx14 =>
  (Qeh p0 x10 v56 x14 0)>>=λo15 =>
  match o15 with
  | .inl y16 =>
   Qei p0 x10 (wr (v56+1))
  | .inr y17 =>
   some (.inr x14.Name)
 else
  some (.inl ())
 partial_fixpoint
theorem Qaic:∀ (p0:(List Qae)) (x10:(List ((List UInt8)×(List (List UInt8))))),(∀ (v56:Int) (o11:Unit⊕(List UInt8)),Qei p0 x10 v56=some o11->TL (0,0) Tryz.prog 102 Q0c (JP2 (0,0) 102 o11 (.exit 2) (Qpd p0 x10) .ret (Qpe p0 x10)) (Qkg p0 x10 v56)):=by
 intro p0 x10;refine Qei.partial_correctness p0 x10 _ ?_;intro Qei' iQei v56 o11 h;refine TL.round (Qan mixed tbOk (lv:=Qhs) _ _ _ ?_);refine Qac h (λhb h=>?_) (λhb h=>?_)
 .refine Qay (l:=p0) (c:=Qaf) (c' := Qaf) h (λ_=>rfl) (λ_=>rfl) (by decide) (λx14 hi h=>?_);refine Qv9 (l:=x10) (k:=x14.Name) (λa b=>a==b) (ck:=sV) (ca:=(λx =>.sl false (x.map cStr))) (z0:=[]) (by exact rfl) (by exact rfl) (by exact rfl) (by exact λ_ _=>rfl) (by exact rfl) (by exact .not) ?_;refine view (Qau _ _) rfl ?_;refine Qah h (λo15 ho hk=>?_);refine Exists.intro (JP2 _ _ o15 (.exit 4) (Qpb p0 x10 v56 x14) .ret (Qpc p0 x10 v56 x14)) (And.intro (Qf5 (τ := Qkf p0 x10 v56 x14 0) ?_ (TL.loop (Qaib p0 x10 v56 x14 0 o15 ho))) (Qer (λy16 hy=>?_) (λy17 hy=>?_)))
  .exact Le.ty 3 0
  .have h:=(by rw[hy] at hk; exact hk);refine TL.le (τ := Qkg p0 x10 (wr (v56+1))) ?_ ((iQei (wr (v56+1)) _ h));exact Le.ty 2 0
  .have h:=(by rw[hy] at hk; exact hk);exact JP2.b h (Le.ty 2 0)
 .exact JP2.a h (Le.ty 2 0)
def Qcj (h0_0:(List ((List UInt8)×(List (List UInt8))))) (x1:(List (List UInt8))) (v17:Int) (h2_0:(List ((List UInt8)×Int))):Option (((List ((List UInt8)×Int)))) :=
 if(decide (v17<(x1.length:Int))) then
  idx x1 v17>>=λx3 =>
  Qcj h0_0 x1 (wr (v17+1)) (mset (λa b=>a==b) x3 1 h2_0)
 else
  some h2_0
 partial_fixpoint
theorem Q90:∀ (h0_0:(List ((List UInt8)×(List (List UInt8))))) (x1:(List (List UInt8))),(∀ (v17:Int) (h2_0:(List ((List UInt8)×Int))) (o2:((List ((List UInt8)×Int)))),Qcj h0_0 x1 v17 h2_0=some o2->TL (1,0) Tryz.prog 56 Qsy (JP1 (1,0) 56 o2 (.exit 0) (Qjy h0_0 x1)) (Qf1 h0_0 x1 v17 h2_0)):=by
 intro h0_0 x1;refine Qcj.partial_correctness h0_0 x1 _ ?_;intro Qcj' iQcj v17 h2_0 o2 h;refine TL.round (Qan mixed tbOk (lv:=Qe4) _ _ _ ?_);refine Qac h (λhb h=>?_) (λhb h=>?_)
 .refine Q16 (l:=x1) (c:=cStr) (c' := cStr) h rfl (λ_=>rfl) (λ_=>rfl) (by decide) (λx3 hi h=>?_);refine And.intro rfl (And.intro (Nat.le_of_ble_eq_true rfl) ?_);refine Qah8 (l:=h2_0) (k:=x3) (x:=1) (λa b=>a==b) (ck:=sV) (ca:=iV) (by exact rfl) (by exact rfl) (by exact rfl) (by exact .refl _) (by exact λ_ _=>rfl) ?_;refine TL.le (τ := Qf1 h0_0 x1 (wr (v17+1)) (mset (λa b=>a==b) x3 1 h2_0)) ?_ ((iQcj (wr (v17+1)) (mset (λa b=>a==b) x3 1 h2_0) _ h));exact Le.ty 3 1
 .exact JP1.a h (Le.ty 3 1)
def Qbx (h0_0:(List ((List UInt8)×(List (List UInt8))))) (v9:Int) (x5:(List UInt8)) (v6_:(List (List UInt8))) (v38:Int) (h2_0_:(List ((List UInt8)×Int))):Option (((List (List UInt8))×(List ((List UInt8)×Int)))) :=
 if(decide (v38<(((mget (λa b=>a==b) x5 h0_0).getD []).length:Int))) then
  idx ((mget (λa b=>a==b) x5 h0_0).getD []) v38>>=λx7 =>
  if(((mget (λa b=>a==b) x7 h2_0_).getD 0)==0) then
   appL 16 v6_ [x7]>>=λx8 =>
   Qbx h0_0 v9 x5 x8 (wr (v38+1)) (mset (λa b=>a==b) x7 1 h2_0_)
  else
   Qbx h0_0 v9 x5 v6_ (wr (v38+1)) h2_0_
 else
  some (v6_,h2_0_)
 partial_fixpoint
theorem Q91:∀ (h0_0:(List ((List UInt8)×(List (List UInt8))))) (v9:Int) (x5:(List UInt8)),(∀ (v6_:(List (List UInt8))) (v38:Int) (h2_0_:(List ((List UInt8)×Int))) (o6:((List (List UInt8))×(List ((List UInt8)×Int)))),Qbx h0_0 v9 x5 v6_ v38 h2_0_=some o6->TL (1,0) Tryz.prog 56 Qsz (JP1 (1,0) 56 o6 (.exit 4) (Qjz h0_0 v9 x5)) (Qd2 h0_0 v9 x5 v6_ v38 h2_0_)):=by
 intro h0_0 v9 x5;refine Qbx.partial_correctness h0_0 v9 x5 _ ?_;intro Qbx' iQbx v6_ v38 h2_0_ o6 h;refine TL.round (Qan mixed tbOk (lv:=Qe4) _ _ _ ?_);refine Qac h (λhb h=>?_) (λhb h=>?_)
 .refine Qay (l:=((mget (λa b=>a==b) x5 h0_0).getD [])) (c:=cStr) (c' := cStr) h (λ_=>rfl) (λ_=>rfl) (by decide) (λx7 hi h=>?_);refine Qv9 (l:=h2_0_) (k:=x7) (λa b=>a==b) (ck:=sV) (ca:=iV) (z0:=0) (by exact rfl) (by exact rfl) (by exact rfl) (by exact λ_ _=>rfl) (by exact rfl) (by exact .refl _) ?_;refine Qac h (λhb h=>?_) (λhb h=>?_)
  .refine Qah8 (l:=h2_0_) (k:=x7) (x:=1) (λa b=>a==b) (ck:=sV) (ca:=iV) (by exact rfl) (by exact rfl) (by exact rfl) (by exact .refl _) (by exact λ_ _=>rfl) ?_;refine Q17 (a:=v6_) (b:=[x7]) (c:=cStr) h (.refl _) (λ_=>rfl) rfl (λx8 hi h=>?_);refine TL.le (τ := Qd2 h0_0 v9 x5 x8 (wr (v38+1)) (mset (λa b=>a==b) x7 1 h2_0_)) ?_ ((iQbx x8 (wr (v38+1)) (mset (λa b=>a==b) x7 1 h2_0_) _ h));exact Le.trans (τ := ⟨[(2,.ptr 1 0),(5,.mh 2),(6,.x 0 2 (.sl 9 1 (x8.map cStr))),(9,.p (iV v9)),(36,.p (.sl false (((mget (λa b=>a==b) x5 h0_0).getD []).map cStr))),(37,.p (iV (((mget (λa b=>a==b) x5 h0_0).getD []).length:Int))),(38,.p (iV (wr (v38+1))))],⟨[[mpD sV (λx =>.sl false (x.map cStr)) h0_0],[.mh 0],[mpD sV iV (mset (λa b=>a==b) x7 1 h2_0_)]],[2]⟩⟩) (Le.ty 3 1) ((Le.ver (.s 6) 0 2 1 rfl rfl rfl rfl).trans (Le.ty 3 1))
  .refine TL.le (τ := Qd2 h0_0 v9 x5 v6_ (wr (v38+1)) h2_0_) ?_ ((iQbx v6_ (wr (v38+1)) h2_0_ _ h));exact Le.ty 3 1
 .exact JP1.a h (Le.ty 3 1)
def Qby (h0_0:(List ((List UInt8)×(List (List UInt8))))) (v6:(List (List UInt8))) (v9:Int) (h2_0:(List ((List UInt8)×Int))):Option (((List (List UInt8))×(List ((List UInt8)×Int)))) :=
 if(decide (v9<(v6.length:Int))) then
  idx v6 v9>>=λx5 =>
  (Qbx h0_0 v9 x5 v6 0 h2_0)>>=λo6 =>
  Qby h0_0 o6.1 (wr (v9+1)) o6.2
 else
  some (v6,h2_0)
 partial_fixpoint
theorem Q92:∀ (h0_0:(List ((List UInt8)×(List (List UInt8))))),(∀ (v6:(List (List UInt8))) (v9:Int) (h2_0:(List ((List UInt8)×Int))) (o4:((List (List UInt8))×(List ((List UInt8)×Int)))),Qby h0_0 v6 v9 h2_0=some o4->TL (1,0) Tryz.prog 56 Qs0 (JP1 (1,0) 56 o4 (.exit 2) (Qj0 h0_0)) (Qf2 h0_0 v6 v9 h2_0)):=by
 intro h0_0;refine Qby.partial_correctness h0_0 _ ?_;intro Qby' iQby v6 v9 h2_0 o4 h;refine TL.round (Qan mixed tbOk (lv:=Qe4) _ _ _ ?_);refine And.intro rfl (Exists.intro _ (And.intro (List.length_map _) ?_));refine Qac h (λhb h=>?_) (λhb h=>?_)
 .refine And.intro (by decide +kernel) (And.intro rfl ?_);refine And.intro rfl ?_;refine Q16 (l:=v6) (c:=cStr) (c' := cStr) h rfl (λ_=>rfl) (λ_=>rfl) (by decide) (λx5 hi h=>?_);refine And.intro rfl ?_;refine And.intro rfl (And.intro (Nat.le_of_ble_eq_true rfl) ?_);refine And.intro rfl ?_;refine Qv9 (l:=h0_0) (k:=x5) (λa b=>a==b) (ck:=sV) (ca:=(λx =>.sl false (x.map cStr))) (z0:=[]) (by exact rfl) (by exact rfl) (by exact rfl) (by exact λ_ _=>rfl) (by exact rfl) (by exact .not) ?_;refine view (Qau _ _) rfl ?_;refine Qah h (λo6 ho hk=>?_);refine Exists.intro (JP1 _ _ o6 (.exit 4) (Qjz h0_0 v9 x5)) (And.intro (Qf5 (τ := Qd2 h0_0 v9 x5 v6 0 h2_0) ?_ (TL.loop (Q91 h0_0 v9 x5 v6 0 h2_0 o6 ho))) (Qaz ?_))
  .exact Le.ty 3 1
  have h:=hk;refine TL.le (τ := Qf2 h0_0 o6.1 (wr (v9+1)) o6.2) ?_ ((iQby o6.1 (wr (v9+1)) o6.2 _ h));exact Le.ty 3 1
 .exact JP1.a h (Le.ty 3 1)
def Qcx (p0:(List (List UInt8))):Option ((List (List UInt8))) :=
 appL 16 [] p0
theorem Qlv:∀ (p0:(List (List UInt8))) (o:(List (List UInt8))),Qcx p0=some o->CallOK Tryz.prog 75 [.p (.sl false (p0.map cStr))] ⟨[],[]⟩ (Qdh o) ⟨[],[1]⟩:=by
 intro p0 o h;unfold Qcx at h;have h:(appL 16 ([]:List (List UInt8)) p0>>=λr=>some r)=some o:=by rw[h]; rfl
 refine CallOK.ofB mixed tbOk Qlq Tryz.func75 rfl (by kernel_rfl) (Nat.le_of_ble_eq_true rfl) rfl rfl rfl ?_;refine⟨rfl,rfl,rfl,λb hb=>?_⟩;cases b with
 | true =>
  refine bT ?_;obtain rfl:=List.map_eq_nil_iff.1 (hb rfl);have h:some ([]:List (List UInt8))=some o:=h;refine Exists.intro _ (And.intro (Le.xnil (.s 2) 9 1 rfl) ?_);exact Qb3 (t:=Qdh) (ss:=λo=>⟨[],[1]⟩) h ⟨[0],rfl,.refl _,.refl _,rfl⟩
 | false =>
  refine bF ?_;refine Qah5 (a:=([]:List (List UInt8))) (b:=p0) (c:=cStr) h (.refl _) (.refl _) (λ_=>rfl) (.inl rfl) (λr hi h=>?_);refine Exists.intro _ (And.intro (Le.refl _ _ _) ?_);exact Qb3 (t:=Qdh) (ss:=λo=>⟨[],[1]⟩) h ⟨[0],rfl,.refl _,.refl _,rfl⟩
def Qfu (p1:(List (List UInt8))) (h0_0:(List ((List UInt8)×(List (List UInt8))))):Option ((List (List UInt8))) :=
 Qcx p1>>=λx1 =>
 (Qcj h0_0 x1 0 [])>>=λo2 =>
 (Qby h0_0 x1 0 o2)>>=λo4 =>
 need (o4.1.length<4611686018427387904)>>=λ_ =>
 some (srtL o4.1)
theorem Qwm:∀ (p1:(List (List UInt8))) (h0_0:(List ((List UInt8)×(List (List UInt8))))) (o:(List (List UInt8))),Qfu p1 h0_0=some o->CallOK Tryz.prog 42 [.agg [.mh 0],.p (.sl false (p1.map cStr))] ⟨[[mpD sV (λx =>.sl false (x.map cStr)) h0_0]],[]⟩ (Qi7 o) ⟨[[mpD sV (λx =>.sl false (x.map cStr)) h0_0]],[]⟩:=by
 intro p1 h0_0 o h;unfold Qfu at h;refine CallOK.ofB mixed tbOk Qe4 Tryz.func42 rfl (by kernel_rfl) (Nat.le_of_ble_eq_true rfl) rfl rfl rfl ?_;refine And.intro rfl (Exists.intro false ?_);refine Qaq _ _ h (λx1 hy=>((Qlv p1 x1 hy).fr [] [] rfl rfl rfl)) (λx1 hy h=>?_);refine And.intro rfl (Exists.intro _ (And.intro (List.length_map _) ?_));refine Qah h (λo2 ho hk=>?_);refine Exists.intro (JP1 _ _ o2 (.exit 0) (Qjy h0_0 x1)) (And.intro (Qf5 (τ := Qf1 h0_0 x1 0 []) ?_ (TL.loop (Q90 h0_0 x1 0 [] o2 ho))) (Qaz ?_))
 .exact Le.ty 3 1
 have h:=hk;refine Qah h (λo4 ho hk=>?_);refine Exists.intro (JP1 _ _ o4 (.exit 2) (Qj0 h0_0)) (And.intro (Qf5 (τ := Qf2 h0_0 x1 0 o2) ?_ (TL.loop (Q92 h0_0 x1 0 o2 o4 ho))) (Qaz ?_))
 .exact Le.ty 3 1
 have h:=hk;refine Q06 h (λhn0 h=>?_);refine Or.inl ?_;refine⟨rfl,rfl,_,false,o4.1,(srtL o4.1),_,rfl,rfl,Qapr  hn0 ,rfl,rfl,?_⟩;refine Exists.intro _ (And.intro (Le.trans (τ := ⟨[(4,.x 0 2 (.sl 9 1 ((srtL o4.1).map cStr)))],⟨[[mpD sV (λx =>.sl false (x.map cStr)) h0_0]],[2]⟩⟩) (Le.ty 1 1) (Le.trans (τ := ⟨[(4,.x 0 2 (.sl 9 1 ((srtL o4.1).map cStr)))],⟨[[mpD sV (λx =>.sl false (x.map cStr)) h0_0]],[2]⟩⟩) (Le.ty 1 1) ((Le.frzv (.s 4) 0 2 rfl rfl rfl rfl).trans (Le.refl _ _ _)))) ?_);refine Qb3 (t:=Qi7) (ss:=λo=>⟨[[mpD sV (λx =>.sl false (x.map cStr)) h0_0]],[]⟩) h ?_;exact⟨[],rfl,.refl _,.refl _,rfl⟩
def Qa9 (p0:(List (List UInt8))) (p1:(List UInt8)) (v8:Int):Option (Unit⊕Int) :=
 if(decide (v8<(p0.length:Int))) then
  idx p0 v8>>=λx4 =>
  if(p1==x4) then
   some (.inr v8)
  else
   Qa9 p0 p1 (wr (v8+1))
 else
  some (.inl ())
 partial_fixpoint
theorem Qxo:∀ (p0:(List (List UInt8))) (p1:(List UInt8)),(∀ (v8:Int) (o1:Unit⊕Int),Qa9 p0 p1 v8=some o1->TL (0,0) Tryz.prog 19 Qkj (JP2 (0,0) 19 o1 (.exit 0) (Qem p0 p1) .ret (Qen p0 p1)) (Qcu p0 p1 v8)):=by
 intro p0 p1;refine Qa9.partial_correctness p0 p1 _ ?_;intro Qa9' iQa9 v8 o1 h;refine TL.round (Qan mixed tbOk (lv:=Qfp) _ _ _ ?_);refine Qac h (λhb h=>?_) (λhb h=>?_)
 .refine Qay (l:=p0) (c:=cStr) (c' := cStr) h (λ_=>rfl) (λ_=>rfl) (by decide) (λx4 hi h=>?_);refine Qac h (λhb h=>?_) (λhb h=>?_)
  .exact JP2.b h (Le.ty 0 0)
  .refine TL.le (τ := Qcu p0 p1 (wr (v8+1))) ?_ ((iQa9 (wr (v8+1)) _ h));exact Le.ty 0 0
 .exact JP2.a h (Le.ty 0 0)
def Qcy (p0:(List (List UInt8))) (p1:(List UInt8)):Option (Int) :=
 (Qa9 p0 p1 0)>>=λo1 =>
 match o1 with
 | .inl y2 =>
  some (-1)
 | .inr y3 =>
  some y3
theorem Qlw:∀ (p0:(List (List UInt8))) (p1:(List UInt8)) (o:Int),Qcy p0 p1=some o->PCall Tryz.prog 74 [.sl false (p0.map cStr),sV p1] (Qcm o):=by
 intro p0 p1 o h;unfold Qcy at h;refine PCall.ofY Qfp Tryz.func74 ?_;refine view (Qau _ _) rfl ?_;refine Qah h (λo1 ho hk=>?_);refine Exists.intro (JP2 _ _ o1 (.exit 0) (Qem p0 p1) .ret (Qen p0 p1)) (And.intro (Qf5 (τ := Qcu p0 p1 0) ?_ (TL.loop (Qxo p0 p1 0 o1 ho))) (Qer (λy2 hy=>?_) (λy3 hy=>?_)))
 .exact Le.ty 0 0
 .have h:=(by rw[hy] at hk; exact hk);refine Qak (t:=Qcm) h ?_;exact .refl _
 .have h:=(by rw[hy] at hk; exact hk);refine Qak (t:=Qcm) h ?_;exact .refl _
def Qbh (p0:(List (List UInt8))) (p1:(List UInt8)):Option (Bool) :=
 Qcy p0 p1>>=λx1 =>
 some (decide (x1 >= 0))
theorem Qeo:∀ (p0:(List (List UInt8))) (p1:(List UInt8)) (o:Bool),Qbh p0 p1=some o->PCall Tryz.prog 41 [.sl false (p0.map cStr),sV p1] (Qb4 o):=by
 intro p0 p1 o h;unfold Qbh at h;refine PCall.ofY Qjw Tryz.func41 ?_;refine Qam [.sl false (p0.map cStr),sV p1] Qcm h (λx1 hy=>(Qlw p0 p1 x1 hy)) (λx1 hy h=>?_);refine Qak (t:=Qb4) h ?_;exact .refl _
def Qej (p0:(List Qae)) (x10:(List ((List UInt8)×(List (List UInt8))))) (v85:Int):Option (Unit⊕(List UInt8)) :=
 if(decide (v85<(p0.length:Int))) then
  idx p0 v85>>=λx22 =>
  Qfu ((mget (λa b=>a==b) x22.Name x10).getD []) x10>>=λx23 =>
  Qbh x23 x22.Name>>=λx24 =>
  if x24 then
   some (.inr x22.Name)
  else
   Qej p0 x10 (wr (v85+1))
 else
  some (.inl ())
 partial_fixpoint
theorem Qaid:∀ (p0:(List Qae)) (x10:(List ((List UInt8)×(List (List UInt8))))),(∀ (v85:Int) (o19:Unit⊕(List UInt8)),Qej p0 x10 v85=some o19->TL (0,0) Tryz.prog 102 Q0d (JP2 (0,0) 102 o19 (.exit 6) (Qpf p0 x10) .ret (Qpg p0 x10)) (Qkh p0 x10 v85)):=by
 intro p0 x10;refine Qej.partial_correctness p0 x10 _ ?_;intro Qej' iQej v85 o19 h;refine TL.round (Qan mixed tbOk (lv:=Qhs) _ _ _ ?_);refine Qac h (λhb h=>?_) (λhb h=>?_)
 .refine Qay (l:=p0) (c:=Qaf) (c' := Qaf) h (λ_=>rfl) (λ_=>rfl) (by decide) (λx22 hi h=>?_);refine And.intro (by decide +kernel) (And.intro rfl ?_);refine And.intro rfl ?_;refine Qv9 (l:=x10) (k:=x22.Name) (λa b=>a==b) (ck:=sV) (ca:=(λx =>.sl false (x.map cStr))) (z0:=[]) (by exact rfl) (by exact rfl) (by exact rfl) (by exact λ_ _=>rfl) (by exact rfl) (by exact .not) ?_;refine Qqb (λx23=>(Qi7 x23).ren [0] []) h (λx23 hy=>(Qwm ((mget (λa b=>a==b) x22.Name x10).getD []) x10 x23 hy).fd rfl rfl [0] rfl rfl) (λx23 hy h=>?_);refine Qcf [.sl false (x23.map cStr),sV x22.Name] Qb4 h (λx24 hy=>(Qeo x23 x22.Name x24 hy)) (λx24 hy h=>?_);refine Qac h (λhb h=>?_) (λhb h=>?_)
  .exact JP2.b h (Le.ty 2 0)
  .refine TL.le (τ := Qkh p0 x10 (wr (v85+1))) ?_ ((iQej (wr (v85+1)) _ h));exact Le.ty 2 0
 .exact JP2.a h (Le.ty 2 0)
mutual
def Qdj (p0:(List Qab)) (h0_0:(List (List UInt8))):Option ((List (List UInt8))) :=
 (Qdx p0 0 h0_0)>>=λo1 =>
 some o1
 partial_fixpoint
def Qdx (p0:(List Qab)) (v8:Int) (h0_0_:(List (List UInt8))):Option ((List (List UInt8))) :=
 if(decide (v8<(p0.length:Int))) then
  idx p0 v8>>=λx2 =>
  ( if(x2.Kind==13) then
    appL 16 h0_0_ [x2.Name]>>=λx4 =>
    some x4
   else
    some h0_0_:Option ((List (List UInt8))))>>=λo3 =>
  Qdj x2.Then o3>>=λx5 =>
  Qdj x2.Else x5>>=λx6 =>
  Qdx p0 (wr (v8+1)) x6
 else
  some h0_0_
 partial_fixpoint
end
theorem Q0h:(∀ (p0:(List Qab)) (h0_0:(List (List UInt8))) (o:(List (List UInt8))),Qdj p0 h0_0=some o->CallOK Tryz.prog 99 [.p (.sl false (p0.map Qaa)),.ptr 0 0,.ptr 1 0] ⟨[[.x 0 (h0_0.length+1) (.sl 9 1 (h0_0.map cStr))],[.fn (.func 99) [] [.ptr 0 0,.ptr 1 0]]],[(h0_0.length+1)]⟩ (Qos o) ⟨[[.x 0 (o.length+1) (.sl 9 1 (o.map cStr))],[.fn (.func 99) [] [.ptr 0 0,.ptr 1 0]]],[(o.length+1)]⟩)/\(∀ (p0:(List Qab)) (v8:Int) (h0_0_:(List (List UInt8))) (o1:(List (List UInt8))),Qdx p0 v8 h0_0_=some o1->TL (2,1) Tryz.prog 29 Qyx (JP1 (2,1) 29 o1 (.exit 0) (Qn0 p0)) (Qi6 p0 v8 h0_0_)):=by
 refine Qdj.mutual_partial_correctness _ _ ?_ ?_
 .intro Qdx' iQdx p0 h0_0 o h;refine CallOK.ofB mixed tbOk Qsx Tryz.func99 rfl (by kernel_rfl) (Nat.le_of_ble_eq_true rfl) rfl rfl rfl ?_;refine view (Qau _ _) rfl ?_;refine Qah h (λo1 ho hk=>?_);refine Exists.intro (JP1 _ _ o1 (.exit 0) (Qn0 p0)) (And.intro (Qf5 (τ := Qi6 p0 0 h0_0) ?_ (TL.loop (iQdx p0 0 h0_0 o1 ho))) (Qaz ?_))
  .exact Le.ty 2 1
  have h:=hk;refine Exists.intro _ (And.intro (Le.refl _ _ _) ?_);exact Qb3 (t:=Qos) (ss:=λo=>⟨[[.x 0 (o.length+1) (.sl 9 1 (o.map cStr))],[.fn (.func 99) [] [.ptr 0 0,.ptr 1 0]]],[(o.length+1)]⟩) h ⟨[0],rfl,.refl _,.refl _,rfl⟩
 .intro Qdj' Qdx' iQdj iQdx p0 v8 h0_0_ o1 h;refine TL.round (Qan mixed tbOk (lv:=Qsx) _ _ _ ?_);refine Qac h (λhb h=>?_) (λhb h=>?_)
  .refine Qay (l:=p0) (c:=Qaa) (c' := Qa1) h Qao (λ_=>rfl) (by decide) (λx2 hi h=>?_);refine Qah h (λo3 ho hk=>?_);refine Exists.intro (JP1 _ _ o3 .normal (Qyw p0 v8 x2)) (And.intro ?_ (Qaz ?_))
   .have h:=ho;refine Qac h (λhb h=>?_) (λhb h=>?_)
    .refine Qaos (a:=h0_0_) (b:=[x2.Name]) (c:=cStr) h (.refl _) (λ_=>rfl) rfl rfl (Nat.zero_lt_succ _) (λx4 hi h=>?_);exact JP1.a h (Le.ty 3 1)
    .exact JP1.a h (Le.ty 3 1)
   .have h:=hk;refine Qaq _ _ h (λx5 hy=>((iQdj x2.Then o3 x5 hy).fr [0,1] [0] rfl rfl rfl)) (λx5 hy h=>?_);refine Qaq _ _ h (λx6 hy=>((iQdj x2.Else x5 x6 hy).fr [0,1] [0] rfl rfl rfl)) (λx6 hy h=>?_);refine TL.le (τ := Qi6 p0 (wr (v8+1)) x6) ?_ ((iQdx p0 (wr (v8+1)) x6 _ h));exact Le.ty 2 1
  .exact JP1.a h (Le.ty 2 1)
theorem Q22:∀ (p0:(List Qab)) (h0_0:(List (List UInt8))) (o:(List (List UInt8))),Qdj p0 h0_0=some o->CallOK Tryz.prog 99 [.p (.sl false (p0.map Qaa)),.ptr 0 0,.ptr 1 0] ⟨[[.x 0 (h0_0.length+1) (.sl 9 1 (h0_0.map cStr))],[.fn (.func 99) [] [.ptr 0 0,.ptr 1 0]]],[(h0_0.length+1)]⟩ (Qos o) ⟨[[.x 0 (o.length+1) (.sl 9 1 (o.map cStr))],[.fn (.func 99) [] [.ptr 0 0,.ptr 1 0]]],[(o.length+1)]⟩:=λp0 h0_0=>Q0h.1 p0 h0_0
def Qpp (p0:(List Qab)):Option ((List (List UInt8))) :=
 Qdj p0 []>>=λx1 =>
 need (x1.length<4611686018427387904)>>=λ_ =>
 need ((srtL x1).length<4611686018427387904)>>=λ_ =>
 some (Lib.compact (srtL x1))
theorem Q93:∀ (p0:(List Qab)) (o:(List (List UInt8))),Qpp p0=some o->CallOK Tryz.prog 73 [.p (.sl false (p0.map Qaa))] ⟨[],[]⟩ (Qsw o) ⟨[],[]⟩:=by
 intro p0 o h;unfold Qpp at h;refine CallOK.ofB mixed tbOk Q9g Tryz.func73 rfl (by kernel_rfl) (Nat.le_of_ble_eq_true rfl) rfl rfl rfl ?_;refine Exists.intro _ (And.intro (Le.xnil (.h 0 0) 9 1 rfl) ?_);refine Qaq _ _ h (λx1 hy=>((Q22 p0 [] x1 hy).fr [0,1] [0] rfl rfl rfl)) (λx1 hy h=>?_);refine Q06 h (λhn0 h=>?_);refine Or.inl ?_;refine⟨rfl,rfl,_,false,x1,(srtL x1),_,rfl,rfl,Qapr  hn0 ,rfl,rfl,?_⟩;refine Q06 h (λhn0 h=>?_);refine Or.inl ?_;refine⟨rfl,rfl,_,true,(srtL x1),(Lib.compact (srtL x1)),_,rfl,rfl,Qal7  hn0 ,rfl,?_⟩;refine Exists.intro _ (And.intro (Le.trans (τ := ⟨[(2,.x 0 (((x1.length+1)+1)+1) (.sl 9 1 ((Lib.compact (srtL x1)).map cStr)))],⟨[],[(((x1.length+1)+1)+1)]⟩⟩) (Le.ty 0 1) (Le.trans (τ := ⟨[(2,.x 0 (((x1.length+1)+1)+1) (.sl 9 1 ((Lib.compact (srtL x1)).map cStr)))],⟨[],[(((x1.length+1)+1)+1)]⟩⟩) (Le.ty 0 1) ((Le.verh 2 0 (((x1.length+1)+1)+1) 1 rfl rfl rfl rfl).trans ((Le.frzv (.s 2) 0 1 rfl rfl rfl rfl).trans (Le.refl _ _ _))))) ?_);exact Qb3 (t:=Qsw) (ss:=λo=>⟨[],[]⟩) h ⟨[],rfl,.refl _,.refl _,rfl⟩
def Qdk (p0:(List Qae)) (v12:Int) (h1_0:(List ((List UInt8)×(List (List UInt8))))):Option (((List ((List UInt8)×(List (List UInt8)))))) :=
 if(decide (v12<(p0.length:Int))) then
  idx p0 v12>>=λx2 =>
  if(!((mget (λa b=>a==b) x2.Name h1_0).isSome)) then
   Qpp x2.L>>=λx3 =>
   Qdk p0 (wr (v12+1)) (mset (λa b=>a==b) x2.Name x3 h1_0)
  else
   Qdk p0 (wr (v12+1)) h1_0
 else
  some h1_0
 partial_fixpoint
theorem Qaie:∀ (p0:(List Qae)),(∀ (v12:Int) (h1_0:(List ((List UInt8)×(List (List UInt8))))) (o1:((List ((List UInt8)×(List (List UInt8)))))),Qdk p0 v12 h1_0=some o1->TL (0,0) Tryz.prog 35 Q0e (JP1 (0,0) 35 o1 (.exit 0) (Qph p0)) (Qhf p0 v12 h1_0)):=by
 intro p0;refine Qdk.partial_correctness p0 _ ?_;intro Qdk' iQdk v12 h1_0 o1 h;refine TL.round (Qan mixed tbOk (lv:=Qvr) _ _ _ ?_);refine Qac h (λhb h=>?_) (λhb h=>?_)
 .refine Qay (l:=p0) (c:=Qaf) (c' := Qaf) h (λ_=>rfl) (λ_=>rfl) (by decide) (λx2 hi h=>?_);refine Qv9 (l:=h1_0) (k:=x2.Name) (λa b=>a==b) (ck:=sV) (ca:=(λx =>.sl false (x.map cStr))) (z0:=[]) (by exact rfl) (by exact rfl) (by exact rfl) (by exact λ_ _=>rfl) (by exact rfl) (by exact .not) ?_;refine Qac h (λhb h=>?_) (λhb h=>?_)
  .refine And.intro (by decide +kernel) (And.intro (by decide +kernel) (And.intro rfl ?_));refine Qqb (λx3=>(Qsw x3).ren [] []) h (λx3 hy=>(Q93 x2.L x3 hy).fd rfl rfl [] rfl rfl) (λx3 hy h=>?_);refine Qah8 (l:=h1_0) (k:=x2.Name) (x:=x3) (λa b=>a==b) (ck:=sV) (ca:=(λx =>.sl false (x.map cStr))) (by exact rfl) (by exact rfl) (by exact rfl) (by exact .refl _) (by exact λ_ _=>rfl) ?_;refine TL.le (τ := Qhf p0 (wr (v12+1)) (mset (λa b=>a==b) x2.Name x3 h1_0)) ?_ ((iQdk (wr (v12+1)) (mset (λa b=>a==b) x2.Name x3 h1_0) _ h));exact Le.ty 3 0
  .refine TL.le (τ := Qhf p0 (wr (v12+1)) h1_0) ?_ ((iQdk (wr (v12+1)) h1_0 _ h));exact Le.ty 3 0
 .exact JP1.a h (Le.ty 3 0)
def Qni (p0:(List Qae)):Option ((List ((List UInt8)×(List (List UInt8))))) :=
 (Qdk p0 0 [])>>=λo1 =>
 some o1
theorem Q5g:∀ (p0:(List Qae)) (o:(List ((List UInt8)×(List (List UInt8))))),Qni p0=some o->CallOK Tryz.prog 40 [.p (.sl false (p0.map Qaf))] ⟨[],[]⟩ (Qxi o) ⟨[[mpD sV (λx =>.sl false (x.map cStr)) o]],[]⟩:=by
 intro p0 o h;unfold Qni at h;refine CallOK.ofBN mixed tbOk Qvr Tryz.func40 rfl (by kernel_rfl) (Nat.le_of_ble_eq_true rfl) rfl rfl (Nat.le_of_ble_eq_true rfl) ?_;refine And.intro rfl (Exists.intro false ?_);refine view (Qau _ _) rfl ?_;refine Qah h (λo1 ho hk=>?_);refine Exists.intro (JP1 _ _ o1 (.exit 0) (Qph p0)) (And.intro (Qf5 (τ := Qhf p0 0 []) ?_ (TL.loop (Qaie p0 0 [] o1 ho))) (Qaz ?_))
 .exact Le.ty 3 0
 have h:=hk;refine Exists.intro _ (And.intro (Le.refl _ _ _) ?_);refine Q19 (t:=Qxi) (ss:=λo=>⟨[[mpD sV (λx =>.sl false (x.map cStr)) o]],[]⟩) h ?_;exact⟨[1],[],rfl,rfl,.refl _,.refl _,rfl,rfl⟩
def Qnj (p0:(List Qae)):Option ((List UInt8)×Int) :=
 if(decide ((p0.length:Int)>16)) then
  some ([],5)
 else
  (Qeg p0 0)>>=λo1 =>
  match o1 with
  | .inl y2 =>
   Qni p0>>=λx10 =>
   (Qei p0 x10 0)>>=λo11 =>
   match o11 with
   | .inl y12 =>
    (Qej p0 x10 0)>>=λo19 =>
    match o19 with
    | .inl y20 =>
     some ([],0)
    | .inr y21 =>
     some (y21,10)
   | .inr y13 =>
    some (y13,4)
  | .inr y3 =>
   some (y3.1,y3.2)
theorem Q5h:∀ (p0:(List Qae)) (o:(List UInt8)×Int),Qnj p0=some o->PCall Tryz.prog 13 [.sl false (p0.map Qaf)] (Qe3 o):=by
 intro p0 o h;unfold Qnj at h;refine PCall.ofY Qhs Tryz.func13 ?_;refine view (Qau _ _) rfl ?_;refine Qac h (λhb h=>?_) (λhb h=>?_)
 .refine Qak (t:=Qe3) h ?_;exact .refl _
 .refine view (Qau _ _) rfl ?_;refine Qah h (λo1 ho hk=>?_);refine Exists.intro (JP2 _ _ o1 (.exit 0) (Qo9 p0) .ret (Qpa p0)) (And.intro (Qf5 (τ := Qke p0 0) ?_ (TL.loop (Qaia p0 0 o1 ho))) (Qer (λy2 hy=>?_) (λy3 hy=>?_)))
  .exact Le.ty 0 0
  .have h:=(by rw[hy] at hk; exact hk);refine Qaq _ _ h (λx10 hy=>((Q5g p0 x10 hy).frN [] [] rfl rfl rfl)) (λx10 hy h=>?_);refine view (Qau _ _) rfl ?_;refine Qah h (λo11 ho hk=>?_);refine Exists.intro (JP2 _ _ o11 (.exit 2) (Qpd p0 x10) .ret (Qpe p0 x10)) (And.intro (Qf5 (τ := Qkg p0 x10 0) ?_ (TL.loop (Qaic p0 x10 0 o11 ho))) (Qer (λy12 hy=>?_) (λy13 hy=>?_)))
   .exact Le.ty 2 0
   .have h:=(by rw[hy] at hk; exact hk);refine view (Qau _ _) rfl ?_;refine Qah h (λo19 ho hk=>?_);refine Exists.intro (JP2 _ _ o19 (.exit 6) (Qpf p0 x10) .ret (Qpg p0 x10)) (And.intro (Qf5 (τ := Qkh p0 x10 0) ?_ (TL.loop (Qaid p0 x10 0 o19 ho))) (Qer (λy20 hy=>?_) (λy21 hy=>?_)))
    .exact Le.ty 2 0
    .have h:=(by rw[hy] at hk; exact hk);refine Qak (t:=Qe3) h ?_;exact .refl _
    .have h:=(by rw[hy] at hk; exact hk);refine Qak (t:=Qe3) h ?_;exact .refl _
   .have h:=(by rw[hy] at hk; exact hk);refine Qak (t:=Qe3) h ?_;exact .refl _
  .have h:=(by rw[hy] at hk; exact hk);refine Qak (t:=Qe3) h ?_;exact .refl _
mutual
def Qbd (p0:(List Qab)) (p1:Int) (p2:Int):Option ((List Qab)×Int) :=
 (Qb6 p0 p1 p2 [] 0)>>=λo1 =>
 some (o1.2,o1.1)
 partial_fixpoint
def Qb6 (p0:(List Qab)) (p1:Int) (v2:Int) (v8:(List Qab)) (v9:Int):Option ((Int×(List Qab))) :=
 ( if(decide (v9<(p0.length:Int))) then
   if(decide (v2>0)) then
    some (decide (p1>0))
   else
    some false
  else
   some false:Option (Bool))>>=λo2 =>
 if o2 then
  idx p0 v9>>=λx3 =>
  cutL x3.Name 0 (if 40<(x3.Name.length:Int) then 40 else(x3.Name.length:Int))>>=λx4 =>
  cutL x3.Text 0 (if 60<(x3.Text.length:Int) then 60 else(x3.Text.length:Int))>>=λx5 =>
  Qbd x3.L (wr (p1-1)) (wr (v2-1))>>=λx6 =>
  Qbd x3.Then (wr (p1-1)) x6.2>>=λx7 =>
  Qbd x3.Else (wr (p1-1)) x7.2>>=λx8 =>
  appL 120 v8 [(Qab.mk x3.Kind x4 x5 x3.N x6.1 x7.1 x8.1)]>>=λx9 =>
  Qb6 p0 p1 x8.2 x9 (wr (v9+1))
 else
  some (v2,v8)
 partial_fixpoint
end
theorem Qtc:(∀ (p0:(List Qab)) (p1:Int) (p2:Int) (o:(List Qab)×Int),Qbd p0 p1 p2=some o->PCall Tryz.prog 22 [.sl false (p0.map Qaa),iV p1,iV p2] (Qci o))/\(∀ (p0:(List Qab)) (p1:Int) (v2:Int) (v8:(List Qab)) (v9:Int) (o1:(Int×(List Qab))),Qb6 p0 p1 v2 v8 v9=some o1->TL (0,0) Tryz.prog 88 Qrr (JP1 (0,0) 88 o1 (.exit 0) (Qi9 p0 p1)) (Qe5 p0 p1 v2 v8 v9)):=by
 refine Qbd.mutual_partial_correctness _ _ ?_ ?_
 .intro Qb6' iQb6 p0 p1 p2 o h;refine PCall.ofY Ql6 Tryz.func22 ?_;refine Qah h (λo1 ho hk=>?_);refine Exists.intro (JP1 _ _ o1 (.exit 0) (Qi9 p0 p1)) (And.intro (Qf5 (τ := Qe5 p0 p1 p2 [] 0) ?_ (TL.loop (iQb6 p0 p1 p2 [] 0 o1 ho))) (Qaz ?_))
  .exact Le.trans (τ := ⟨[(0,.p (.sl false (p0.map Qaa))),(1,.p (iV p1)),(2,.p (iV p2)),(8,.p (.sl true [])),(9,.p (iV 0))],⟨[],[]⟩⟩) (Le.ty 0 0) ((Le.own 8 38 7 rfl Qv8).trans (Le.ty 0 1))
  have h:=hk;refine Qak (t:=Qci) h ?_;exact .refl _
 .intro Qbd' Qb6' iQbd iQb6 p0 p1 v2 v8 v9 o1 h;refine TL.round (Qan mixed tbOk (lv:=Ql6) _ _ _ ?_);refine Qah h (λo2 ho hk=>?_);refine Exists.intro (JP1 _ _ o2 .normal (Qrq p0 p1 v2 v8 v9)) (And.intro ?_ (Qaz ?_))
  .have h:=ho;refine view (Qau _ _) rfl ?_;refine Qac h (λhb h=>?_) (λhb h=>?_)
   .refine Qac h (λhb h=>?_) (λhb h=>?_)
    .exact JP1.a h (Le.ty 0 1)
    .exact JP1.a h (Le.ty 0 1)
   .refine bF ?_;exact JP1.a h (Le.ty 0 1)
  .have h:=hk;refine Qac h (λhb h=>?_) (λhb h=>?_)
   .refine Qay (l:=p0) (c:=Qaa) (c' := Qa1) h Qao (λ_=>rfl) (by decide) (λx3 hi h=>?_);refine And.intro (by decide +kernel) (And.intro rfl ?_);refine vrfl ?_;refine Qi4 none (some (if 40<(x3.Name.length:Int) then 40 else(x3.Name.length:Int))) h (λx4 hi h=>?_);refine vrfl ?_;refine Qi4 none (some (if 60<(x3.Text.length:Int) then 60 else(x3.Text.length:Int))) h (λx5 hi h=>?_);refine Qam [.sl false (x3.L.map Qaa),iV (wr (p1-1)),iV (wr (v2-1))] Qci h (λx6 hy=>(iQbd x3.L (wr (p1-1)) (wr (v2-1)) x6 hy)) (λx6 hy h=>?_);refine Qam [.sl false (x3.Then.map Qaa),iV (wr (p1-1)),iV x6.2] Qci h (λx7 hy=>(iQbd x3.Then (wr (p1-1)) x6.2 x7 hy)) (λx7 hy h=>?_);refine Qam [.sl false (x3.Else.map Qaa),iV (wr (p1-1)),iV x7.2] Qci h (λx8 hy=>(iQbd x3.Else (wr (p1-1)) x7.2 x8 hy)) (λx8 hy h=>?_);refine Qhp (a:=v8) (b:=[(Qab.mk x3.Kind x4 x5 x3.N x6.1 x7.1 x8.1)]) (c:=Qaa) h (.cons (.ceq (Qao _) (.refl _)) (.nil)) (λx=>by rw[Qao]; rfl) rfl (λx9 hi h=>?_);refine TL.le (τ := Qe5 p0 p1 x8.2 x9 (wr (v9+1))) ?_ ((iQb6 p0 p1 x8.2 x9 (wr (v9+1)) _ h));exact Le.ty 0 1
   .exact JP1.a h (Le.ty 0 1)
theorem Quw:∀ (p0:(List Qab)) (p1:Int) (p2:Int) (o:(List Qab)×Int),Qbd p0 p1 p2=some o->PCall Tryz.prog 22 [.sl false (p0.map Qaa),iV p1,iV p2] (Qci o):=λp0 p1 p2=>Qtc.1 p0 p1 p2
def Qcn (p0:(List Qae)) (p1:Int) (v5:(List Qae)) (v6:Int):Option ((List Qae)) :=
 ( if(decide (v6<(p0.length:Int))) then
   some (decide (v6<p1))
  else
   some false:Option (Bool))>>=λo2 =>
 if o2 then
  idx p0 v6>>=λx3 =>
  Qbd x3.L 14 40>>=λx4 =>
  idx p0 v6>>=λx5 =>
  idx p0 v6>>=λx6 =>
  cutL x5.Name 0 (if 40<(x6.Name.length:Int) then 40 else(x6.Name.length:Int))>>=λx7 =>
  appL 40 v5 [(Qae.mk x7 x4.1)]>>=λx8 =>
  Qcn p0 p1 x8 (wr (v6+1))
 else
  some v5
 partial_fixpoint
theorem Qaa7:∀ (p0:(List Qae)) (p1:Int),(∀ (v5:(List Qae)) (v6:Int) (o1:(List Qae)),Qcn p0 p1 v5 v6=some o1->TL (0,0) Tryz.prog 49 Qus (JP1 (0,0) 49 o1 (.exit 0) (Qk9 p0 p1)) (Qgd p0 p1 v5 v6)):=by
 intro p0 p1;refine Qcn.partial_correctness p0 p1 _ ?_;intro Qcn' iQcn v5 v6 o1 h;refine TL.round (Qan mixed tbOk (lv:=Qn1) _ _ _ ?_);refine Qah h (λo2 ho hk=>?_);refine Exists.intro (JP1 _ _ o2 .normal (Qur p0 p1 v5 v6)) (And.intro ?_ (Qaz ?_))
 .have h:=ho;refine view (Qau _ _) rfl ?_;refine Qac h (λhb h=>?_) (λhb h=>?_)
  .exact JP1.a h (Le.ty 0 1)
  .exact JP1.a h (Le.ty 0 1)
 .have h:=hk;refine Qac h (λhb h=>?_) (λhb h=>?_)
  .refine Qay (l:=p0) (c:=Qaf) (c' := Qaf) h (λ_=>rfl) (λ_=>rfl) (by decide) (λx3 hi h=>?_);refine Qam [.sl false (x3.L.map Qaa),iV 14,iV 40] Qci h (λx4 hy=>(Quw x3.L 14 40 x4 hy)) (λx4 hy h=>?_);refine And.intro (by decide +kernel) (And.intro rfl ?_);refine Qay (l:=p0) (c:=Qaf) (c' := Qaf) h (λ_=>rfl) (λ_=>rfl) (by decide) (λx5 hi h=>?_);refine Qay (l:=p0) (c:=Qaf) (c' := Qaf) h (λ_=>rfl) (λ_=>rfl) (by decide) (λx6 hi h=>?_);refine vrfl ?_;refine Qi4 none (some (if 40<(x6.Name.length:Int) then 40 else(x6.Name.length:Int))) h (λx7 hi h=>?_);refine Qhp (a:=v5) (b:=[(Qae.mk x7 x4.1)]) (c:=Qaf) h (.refl _) (λ_=>rfl) rfl (λx8 hi h=>?_);refine TL.le (τ := Qgd p0 p1 x8 (wr (v6+1))) ?_ ((iQcn x8 (wr (v6+1)) _ h));exact Le.ty 0 1
  .exact JP1.a h (Le.ty 0 1)
def Qgs (p0:(List Qae)) (p1:Int):Option ((List Qae)) :=
 (Qcn p0 p1 [] 0)>>=λo1 =>
 some o1
theorem Qxp:∀ (p0:(List Qae)) (p1:Int) (o:(List Qae)),Qgs p0 p1=some o->PCall Tryz.prog 12 [.sl false (p0.map Qaf),iV p1] (Qki o):=by
 intro p0 p1 o h;unfold Qgs at h;refine PCall.ofY Qn1 Tryz.func12 ?_;refine Qah h (λo1 ho hk=>?_);refine Exists.intro (JP1 _ _ o1 (.exit 0) (Qk9 p0 p1)) (And.intro (Qf5 (τ := Qgd p0 p1 [] 0) ?_ (TL.loop (Qaa7 p0 p1 [] 0 o1 ho))) (Qaz ?_))
 .exact Le.trans (τ := ⟨[(0,.p (.sl false (p0.map Qaf))),(1,.p (iV p1)),(5,.p (.sl true [])),(6,.p (iV 0))],⟨[],[]⟩⟩) (Le.ty 0 0) ((Le.own 5 56 2 rfl Qv8).trans (Le.ty 0 1))
 have h:=hk;refine Qak (t:=Qki) h ?_;exact .refl _
end Go.Proofs.YtfgegilhjlnohaaGreat
end

noncomputable section
namespace Go.Proofs.YtfgegilhjlnohaaGreat
open Go.RowKit
set_option linter.unusedSimpArgs false
set_option linter.unusedVariables false
mutual
def nn:Qab->Nat
 | ⟨_,_,_,_,a,b,c⟩=>1+nns a+nns b+nns c
def nns:List Qab->Nat
 | []=>0
 | x::r=>nn x+nns r
end
mutual
def dp:Qab->Nat
 | ⟨_,_,_,_,a,b,c⟩=>1+max (dps a) (max (dps b) (dps c))
def dps:List Qab->Nat
 | []=>0
 | x::r=>max (dp x) (dps r)
end
mutual
def sm:Qab->Prop
 | ⟨_,s,t,_,a,b,c⟩=>s.length<=40/\t.length<=60/\sms a/\sms b/\sms c
def sms:List Qab->Prop
 | []=>True
 | x::r=>sm x/\sms r
end
theorem Qie(x:Qab):nn x=1+nns x.L+nns x.Then+nns x.Else:=by cases x; rw[nn]
theorem Qamq(x:Qab):dp x=1+max (dps x.L) (max (dps x.Then) (dps x.Else)):=by cases x; rw[dp]
theorem Qasx(x:Qab):sm x↔(x.Name.length<=40/\x.Text.length<=60/\sms x.L/\sms x.Then/\sms x.Else):=by cases x; rw[sm]
theorem Qjh(x:Qab):1<=nn x:=by rw[Qie]; omega
theorem Qfd:∀ l:List Qab,l.length<=nns l
 | []=>by simp[nns]
 | x::r=>by have:=Qfd r; have:=Qjh x; simp[nns]; omega
theorem Qev:∀ {l:List Qab} {x:Qab},x ∈ l->nn x<=nns l
 | y::r,x,h=>by
  rcases List.mem_cons.1 h with rfl | h
  .simp[nns]
  .have:=Qev h; simp[nns]; omega
def Qn6(g:List Qab->Nat->List Qab×Nat):List Qab->Nat->List Qab×Nat
 | [],n=>([],n)
 | x::r,n=>if n=0 then([],0) else
  (⟨x.Kind,x.Name.take 40,x.Text.take 60,x.N,(g x.L (n-1)).1,(g x.Then (g x.L (n-1)).2).1,(g x.Else (g x.Then (g x.L (n-1)).2).2).1⟩ ::
   (Qn6 g r (g x.Else (g x.Then (g x.L (n-1)).2).2).2).1,(Qn6 g r (g x.Else (g x.Then (g x.L (n-1)).2).2).2).2)
def Qht:Nat->List Qab->Nat->List Qab×Nat
 | 0,_,n=>([],n)
 | d+1,l,n=>Qn6 (Qht d) l n
def LG(d:Nat)(g:List Qab->Nat->List Qab×Nat):Prop:=∀ (l:List Qab) (n:Nat),nns (g l n).1+(g l n).2=n/\dps (g l n).1<=d/\sms (g l n).1
theorem Qamr{d:Nat}{g:List Qab->Nat->List Qab×Nat}(hg:LG d g):LG (d+1) (Qn6 g):=λl=>by
 induction l with
 | nil=>intro n; simp[Qn6,nns,dps,sms]
 | cons x r ih =>
  intro n;unfold Qn6;split
  .subst_vars; simp[nns,dps,sms]
  .obtain⟨a1,a2,a3⟩:=hg x.L (n-1);obtain⟨b1,b2,b3⟩:=hg x.Then (g x.L (n-1)).2;obtain⟨c1,c2,c3⟩:=hg x.Else (g x.Then (g x.L (n-1)).2).2;obtain⟨d1,d2,d3⟩:=ih (g x.Else (g x.Then (g x.L (n-1)).2).2).2;simp only[nns,Qie,dps,Qamq,sms,Qasx];refine⟨by omega,by omega,⟨?_,?_,a3,b3,c3⟩,d3⟩
   .simp; omega
   .simp; omega
theorem Qpq:∀ d,LG d (Qht d)
 | 0=>λl n=>by simp[Qht,nns,dps,sms]
 | d+1=>Qamr (Qpq d)
theorem Qaqx{l:List UInt8}{k:Nat}:(l.take (if(k:Int)<(l.length:Int) then(k:Int) else(l.length:Int)).toNat).drop (0:Int).toNat=l.take k:=by
 split
 .simp
 .simp;rw[List.take_of_length_le (by omega)]
theorem Qams(l:List UInt8)(k:Nat):cutL l 0 (if(k:Int)<(l.length:Int) then(k:Int) else(l.length:Int))=some (l.take k):=by
 rw[Qmx (by omega) (by split<;>omega) (by split<;>omega),Qaqx]
def LIs(g:List Qab->Nat->List Qab×Nat)(f:List Qab->Int->Option (List Qab×Int)):Prop:=∀ (l:List Qab) (n:Nat),n<=100->f l n=some ((g l n).1,((g l n).2:Int))
theorem Qao0{d:Nat}(hd:d+1<=15)(hf:LIs (Qht d) (λl n=>Qbd l d n))(l:List Qab):∀ k,k<=l.length->∀ (n:Nat) (acc:List Qab),acc.length=k->k+n<=100 ->
  Qb6 l ((d+1:Nat):Int) n acc k=some (((Qn6 (Qht d) (l.drop k) n).2:Int),acc++(Qn6 (Qht d) (l.drop k) n).1):=by
 refine upto ?_ λk hk ih=>?_
 .intro n acc _ _;rw[Qb6];simp[Qn6]
 .intro n acc ha hn;rw[Qb6,Qcb hk];have h40:=Qams (l[k].Name) 40;have h60:=Qams (l[k].Text) 60;simp only[ltI,hk,decide_true,if_true];by_cases h0:n=0
  .subst h0;simp[Qn6]
  .have e1:wr (((d+1:Nat):Int)-1)=d:=by rw[Qhc (by omega) (by omega)]; omega
   have e2:wr ((n:Int)-1)=((n-1:Nat):Int):=by rw[Qhc (by omega) (by omega)]; omega
   have hpos:decide ((n:Int)>0)=true:=decide_eq_true (by omega);have hpos2:decide (((d+1:Nat):Int)>0)=true:=decide_eq_true (by omega);simp only[hpos,hpos2,if_true,Qad,Qa3,getE hk,e1,e2];rw[show(40:Int)=((40:Nat):Int) from rfl,h40,Qad,show(60:Int)=((60:Nat):Int) from rfl,h60,Qad];obtain⟨a1,-,-⟩:=Qpq d l[k].L (n-1);have f1:=hf l[k].L (n-1) (by omega);obtain⟨b1,-,-⟩:=Qpq d l[k].Then (Qht d l[k].L (n-1)).2;have f2:=hf l[k].Then (Qht d l[k].L (n-1)).2 (by omega);obtain⟨c1,-,-⟩:=Qpq d l[k].Else (Qht d l[k].Then (Qht d l[k].L (n-1)).2).2;have f3:=hf l[k].Else (Qht d l[k].Then (Qht d l[k].L (n-1)).2).2 (by omega);simp only at f1 f2 f3;simp only[f1,f2,f3,Qad];rw[Qf0 (by simp; omega) (by simp; omega),Qad,Qa4 (by omega)];rw[ih _ _ (by simp[ha]) (by omega),Qn6,if_neg h0];simp
theorem Qaif:∀ d,d<=15->LIs (Qht d) (λl n=>Qbd l (d:Nat) n)
 | 0,_=>λl n hn=>by
  have h0:decide (((0:Nat):Int)>0)=false:=rfl;show Qbd l ((0:Nat):Int) n=_;rw[Qbd,Qb6];simp only[h0,Qad];have e:∀ b c:Bool,(if b=true then if c=true then some false else some false else some false:Option Bool)=some false:=λb c=>by cases b<;>cases c<;>rfl
  rw[e];rfl
 | d+1,h=>λl n hn=>by
  have:=Qao0 h (Qaif d (by omega)) l 0 (by omega) n [] rfl (by omega);show Qbd l ((d+1:Nat):Int) n=_;rw[Qbd];rw[show((0:Nat):Int)=0 from rfl] at this;rw[this];simp[Qht]
section
end
section
end
def Qzs(c:UInt8):Bool:=decide (97<=c.toNat)&&decide (c.toNat<=122)
def digB(c:UInt8):Bool:=decide (48<=c.toNat)&&decide (c.toNat<=57)
def letB(c:UInt8):Bool:=Qzs c||(digB c||c.toNat==95)
def Qaqy:List UInt8->Bool
 | []=>false
 | c::_=>decide (97<=c.toNat)
theorem Q66(c:UInt8)(r:List UInt8):Qaqy (c::r)=decide (97<=c.toNat):=rfl
def Qow(s:List UInt8):Bool := !(s==[])&&(decide (s.length<=32)&&(Qaqy s&&s.all letB))
theorem geN(n k:Nat):decide ((n:Int) >= (k:Int))=decide (k<=n):=by
 by_cases h:k<=n
 .rw[decide_eq_true h,decide_eq_true (by omega:(n:Int) >= k)]
 .rw[decide_eq_false h,decide_eq_false (by omega)]
theorem leN(n k:Nat):decide ((n:Int)<=(k:Int))=decide (n<=k):=by
 by_cases h:n<=k
 .rw[decide_eq_true h,decide_eq_true (by omega:(n:Int)<=k)]
 .rw[decide_eq_false h,decide_eq_false (by omega)]
theorem eqN(n k:Nat):((n:Int)==(k:Int))=(n==k):=by
 by_cases h:n=k
 .subst h; simp
 .rw[beq_eq_false_iff_ne.2 h,beq_eq_false_iff_ne.2 (by omega)]
theorem Qasy(c:UInt8):Qpn (c.toNat:Int)=some (digB c):=by
 have a:=geN c.toNat 48;have b:=leN c.toNat 57;rw[Qpn];rw[show(48:Int)=((48:Nat):Int) from rfl,show(57:Int)=((57:Nat):Int) from rfl,a,b,digB];cases decide (48<=c.toNat)<;>rfl
theorem Qasz(c:UInt8):Qfq (c.toNat:Int)=some (digB c):=by
 have a:=geN c.toNat 48;have b:=leN c.toNat 57;rw[Qfq];rw[show(48:Int)=((48:Nat):Int) from rfl,show(57:Int)=((57:Nat):Int) from rfl,a,b,digB];cases decide (48<=c.toNat)<;>rfl
theorem Qapt(c:UInt8):Qfr (c.toNat:Int)=some (Qzs c):=by
 have a:=geN c.toNat 97;have b:=leN c.toNat 122;rw[Qfr];rw[show(97:Int)=((97:Nat):Int) from rfl,show(122:Int)=((122:Nat):Int) from rfl,a,b,Qzs];cases decide (97<=c.toNat)<;>rfl
theorem Qaqz(c:UInt8):Qpo (c.toNat:Int)=some (letB c):=by
 have a:=geN c.toNat 97;have b:=leN c.toNat 122;have d:=eqN c.toNat 95;rw[Qpo,Qasy];rw[show(97:Int)=((97:Nat):Int) from rfl,show(122:Int)=((122:Nat):Int) from rfl,show(95:Int)=((95:Nat):Int) from rfl,a,b,d,letB,Qzs];simp only[Qad];cases decide (97<=c.toNat)<;>cases decide (c.toNat<=122)<;>cases digB c<;>cases (c.toNat==95)<;>rfl
theorem Qas0(s:List UInt8)(hs:s.length<9223372036854775807):∀ k,k<=s.length->Qic s k=some (if(s.drop k).all letB then .inl () else .inr ()):=by
 refine upto ?_ λk hk ih=>?_
 .rw[Qic]; simp
 .rw[Qic,Qa4 (by omega),ih];simp only[ltI,hk,decide_true,if_true,Qa3,getE hk,Qad,Qaqz];rw[Qcb hk,List.all_cons];cases letB s[k]<;>rfl
theorem Qas1(s:List UInt8)(hs:s.length<9223372036854775807):Qqj s=some (Qow s):=by
 have h:=Qas0 s hs 0 (by omega);rw[Qqj,show(0:Int)=((0:Nat):Int) from rfl,h,List.drop_zero,Qow];have e:=leN s.length 32;rw[show(32:Int)=((32:Nat):Int) from rfl,e];cases ha:s.all letB with
 | false=>cases (s==[])<;>cases decide (s.length<=32)<;>cases Qaqy s<;>rfl
 | true =>
  cases s with
  | nil=>rfl
  | cons c r =>
   have g:=geN c.toNat 97;rw[show(97:Int)=((97:Nat):Int) from rfl];simp only[if_true,Qad,Qa3,List.getElem?_cons_zero,g,Q66];have e0:((c::r)==([]:List UInt8))=false:=rfl;rw[e0];cases decide ((c::r).length<=32)<;>simp
theorem Qao1{c:UInt8}(h:letB c=true):Qzs c=decide (97<=c.toNat):=by
 unfold letB Qzs digB at *;by_cases h1:97<=c.toNat
 .rw[decide_eq_true h1] at h ⊢;simp at h ⊢;omega
 .rw[decide_eq_false h1]; rfl
theorem Qas2(s:List UInt8)(hs:s.length<9223372036854775807):∀ k,k<=s.length->Qef s k=some (if(s.drop k).all letB then .inl () else .inr ()):=by
 refine upto ?_ λk hk ih=>?_
 .rw[Qef]; simp
 .have d:=eqN s[k].toNat 95;rw[Qef,Qa4 (by omega),ih];simp only[ltI,hk,decide_true,if_true,Qa3,getE hk,Qad,Qapt,Qasz];rw[Qcb hk,List.all_cons,letB];have e:(((s[k].toNat:Nat):Int) != 95) = !(s[k].toNat==95):=by rw[<-d]; rfl
  rw[e];cases Qzs s[k]<;>cases digB s[k]<;>cases (s[k].toNat==95)<;>rfl
theorem Qas3(s:List UInt8)(hs:s.length<9223372036854775807):Qh2 s=some (Qow s):=by
 have h:=Qas2 s hs 0 (by omega);rw[Qh2,show(0:Int)=((0:Nat):Int) from rfl,h,List.drop_zero,Qow];cases s with
 | nil=>rfl
 | cons c r =>
  have e1:decide ((((c::r).length:Nat):Int)<1)=false:=decide_eq_false (by simp; omega);have e2:decide ((((c::r).length:Nat):Int)>32) = !(decide ((c::r).length<=32)):=by
   by_cases h:(c::r).length<=32
   .rw[decide_eq_true h,decide_eq_false (by omega)]; rfl
   .rw[decide_eq_false h,decide_eq_true (by omega)]; rfl
  simp only[e1,e2,Bool.false_eq_true,if_false,Qa3,List.getElem?_cons_zero,Qad,Qapt,Q66];have e0:((c::r)==([]:List UInt8))=false:=rfl;rw[e0];cases ha:(c::r).all letB with
  | true =>
   have hl:letB c=true:=by rw[List.all_cons,Bool.and_eq_true] at ha; exact ha.1
   rw[Qao1 hl];cases decide ((c::r).length<=32)<;>cases decide (97<=c.toNat)<;>rfl
  | false=>cases decide ((c::r).length<=32)<;>cases decide (97<=c.toNat)<;>cases Qzs c<;>rfl
theorem Qaq0(a b:List UInt8):s2b (a++b)=s2b a++s2b b:=by simp[s2b]
theorem Q23(a:List UInt8):(s2b a).length=a.length:=by simp[s2b]
theorem Qaq1(l:List UInt8):b2s (s2b l)=some l:=by
 unfold b2s s2b;rw[if_pos]
 .rw[List.map_map];congr 1;have:∀ c:UInt8,((λn:Int=>UInt8.ofNat n.toNat) ∘ λc:UInt8=>(c.toNat:Int)) c=c:=λc=>by simp
  rw[show((λn:Int=>UInt8.ofNat n.toNat) ∘ λc:UInt8=>(c.toNat:Int))=id from funext this,List.map_id]
 .rw[List.all_eq_true];intro n hn;obtain⟨c,-,rfl⟩:=List.mem_map.1 hn;have:=c.toNat_lt;simp only[decide_eq_true_eq];omega
def kws:List (List UInt8):=[[105,102],[101,108,115,101],[101,110,100],[101,97,99,104],[105,110],[108,101,116],[117,115,101],[116,114,117,101],[102,97,108,115,101],[115,101,99,114,101,116]]
def Qhu(s:List UInt8):Bool := !(kws.any (· == s))&&Qow s
theorem Qaq2(s:List UInt8)(hs:s.length<9223372036854775807):Qjf s=some (Qhu s):=by
 have c:∀ a:List UInt8,(a==s)=(s==a):=λa=>by rw[Bool.beq_comm]
 rw[Qjf,Qas1 s hs,Qhu];simp only[kws,List.any_cons,List.any_nil,c];generalize (s==[105,102])=a1;generalize (s==[101,108,115,101])=a2;generalize (s==[101,110,100])=a3;generalize (s==[101,97,99,104])=a4;generalize (s==[105,110])=a5;generalize (s==[108,101,116])=a6;generalize (s==[117,115,101])=a7;generalize (s==[116,114,117,101])=a8;generalize (s==[102,97,108,115,101])=a9;generalize (s==[115,101,99,114,101,116])=a10;generalize Qow s=b;cases a1
 .cases a2
  .cases a3
   .cases a4
    .cases a5
     .cases a6
      .cases a7
       .cases a8
        .cases a9
         .cases a10<;>cases b<;>rfl
         .rfl
        .rfl
       .rfl
      .rfl
     .rfl
    .rfl
   .rfl
  .rfl
 .rfl
theorem Qas4(s:List UInt8)(l:List (List UInt8))(hl:l.length<9223372036854775807):∀ k,k<=l.length->Qdw s l k=some (if(l.drop k).any (· == s) then .inr () else .inl ()):=by
 refine upto ?_ λk hk ih=>?_
 .rw[Qdw]; simp
 .rw[Qdw,Qa4 (by omega),ih];simp only[ltI,hk,decide_true,if_true,Qa3,getE hk,Qad];rw[Qcb hk,List.any_cons];cases (l[k]==s)<;>rfl
theorem Qaq3(s:List UInt8)(hs:s.length<9223372036854775807):Qhg s=some (Qhu s):=by
 have h:=Qas4 s kws (by decide) 0 (by omega);rw[Qhg,Qs7];simp only[Qad,Qas3 s hs];rw[show(0:Int)=((0:Nat):Int) from rfl];show(Qdw s kws _>>=_)=_;rw[h,List.drop_zero,Qhu];cases kws.any (· == s)<;>rfl
theorem Q94{s:List UInt8}(h:Qow s=true):(s==[])=false:=by
 unfold Qow at h;cases hs:(s==[]) with
 | false=>rfl
 | true=>rw[hs] at h; cases h
theorem Q24{s:List UInt8}(h:Qhu s=true):Qow s=true:=by
 unfold Qhu at h;cases hw:Qow s with
 | true=>rfl
 | false=>rw[hw] at h; simp at h
def hasB:List UInt8->Bool
 | []=>false
 | c::r=>(c==123&&r.head? == some 123)||hasB r
theorem pre2(l:List UInt8):([123,123]:List UInt8).isPrefixOf l=(match l with | []=>false | c::r=>c==123&&r.head? == some 123):=by
 match l with
 | []=>rfl
 | [c]=>simp[List.isPrefixOf]
 | c::d::r =>
  simp only[List.isPrefixOf,List.head?_cons];have e1:(123==c)=(c==123):=Bool.beq_comm;have e2:(123==d)=(d==123):=Bool.beq_comm;rw[e1,e2];cases (c==123)<;>cases hd:(d==123)<;>simp_all
theorem Qadp:∀ l:List UInt8,decide (Lib.index l [123,123] >= 0)=hasB l
 | []=>rfl
 | c::r=>by
  have ih:=Qadp r;have hg:=Lib.index_ge r [123,123];have hp2:([123,123]:List UInt8).isPrefixOf (c::r)=(c==123&&r.head? == some 123):=pre2 (c::r);unfold Lib.index;rw[hp2,hasB];generalize (c==123&&r.head? == some 123)=b;cases b with
  | true=>rfl
  | false =>
   simp only[Bool.false_or];by_cases h1:Lib.index r [123,123] = -1
   .rw[h1] at ih ⊢;rw[<-ih]; rfl
   .rw[if_neg (by decide),if_neg (by simpa using h1),<-ih,decide_eq_true (by omega),decide_eq_true (by omega)]
theorem tHas(s:List UInt8)(hs:s.length<4294967281):Qfs s [123,123]=some (hasB s):=by
 rw[Qfs,Qmd,Qcw,Qsa hs];simp only[Qad,Qadp]
theorem Qaq4(s:List UInt8)(k:Nat)(hk:k<s.length)(hs:s.length<4294967281):Qeu s [123,123] k=some (match s.drop k with | []=>false | c::r=>c==123&&r.head? == some 123):=by
 have e1:decide ((k:Int) >= 0)=true:=decide_eq_true (by omega);have e2:decide ((k:Int)<=(s.length:Int))=true:=decide_eq_true (by omega);have e3:wr ((s.length:Int)-k)=((s.length-k:Nat):Int):=by rw[Qhc (by omega) (by omega)]; omega
 have e4:wr ((k:Int)+(([123,123]:List UInt8).length:Int))=((k+2:Nat):Int):=by rw[Qhc (by simp; omega) (by simp; omega)]; simp
 rw[Qeu,e1,e2,e3,e4];simp only[if_true];by_cases h2:2<=s.length-k
 .have e5:decide (((([123,123]:List UInt8).length:Nat):Int)<=((s.length-k:Nat):Int))=true:=decide_eq_true (by simp; omega);rw[e5,Qmx (by omega) (by omega) (by omega)];simp only[if_true,Qad];have hk1:k+1<s.length:=by omega
  have e6:(s.take (k+2)).drop k=[s[k],s[k+1]]:=by
   apply List.ext_getElem
   .simp; omega
   .intro i h1 h2;simp at h1 h2
    match i,h2 with
    | 0,_=>simp
    | 1,_=>simp
  rw[Int.toNat_natCast,Int.toNat_natCast,e6,Qcb hk,Qcb hk1];simp only[List.head?_cons];have:(([s[k],s[k+1]]:List UInt8)==[123,123])=(s[k]==123&&(some s[k+1]==some 123)):=by
   have e:(some s[k+1]==some (123:UInt8))=(s[k+1]==123):=rfl;rw[e,List.cons_beq_cons,List.cons_beq_cons];show(s[k]==123&&(s[k+1]==123&&true))=_;rw[Bool.and_true]
  rw[this]
 .have e5:decide (((([123,123]:List UInt8).length:Nat):Int)<=((s.length-k:Nat):Int))=false:=decide_eq_false (by simp; omega);rw[e5,Qcb hk];have:s.drop (k+1)=[]:=List.drop_eq_nil_of_le (by omega);rw[this];simp
theorem Qao2(s:List UInt8)(hs:s.length<4294967281):∀ k,k<=s.length->Qe8 s [123,123] k=some (if hasB (s.drop k) then .inr () else .inl ()):=by
 refine upto ?_ λk hk ih=>?_
 .rw[Qe8]; simp[hasB]
 .rw[Qe8,Qa4 (by omega),ih,Qaq4 s k hk hs];simp only[ltI,hk,decide_true,if_true,Qad];rw[Qcb hk,hasB];show(if(s[k]==123&&(s.drop (k+1)).head? == some 123)=true then _ else _)=_;generalize (s[k]==123&&(s.drop (k+1)).head? == some 123)=b;cases b<;>rfl
theorem Qaq5(s:List UInt8)(hs:s.length<4294967281):Qpk s [123,123]=some (hasB s):=by
 have h:=Qao2 s hs 0 (by omega);rw[Qpk,show(0:Int)=((0:Nat):Int) from rfl,h,List.drop_zero];cases hasB s<;>rfl
def endB(s:List UInt8):Bool:=s.getLast? == some 123
theorem tEnd(s:List UInt8)(hs:s.length<4294967281):Qcl s [123]=some (endB s):=by
 rw[Qcl,Qb7,endB];cases hl:s.getLast? with
 | none =>
  have:s=[]:=List.getLast?_eq_none_iff.1 hl;subst this;rfl
 | some c =>
  have hne:s≠[]:=λh=>by subst h; cases hl
  have hpos:0<s.length:=List.length_pos_iff.2 hne;have e1:decide ((s.length:Int) >= ((([123]:List UInt8).length:Nat):Int))=true:=decide_eq_true (by simp; omega);have e2:wr ((s.length:Int)-((([123]:List UInt8).length:Nat):Int))=((s.length-1:Nat):Int):=by rw[Qhc (by simp; omega) (by simp; omega)]; simp; omega
  rw[e1,e2,Qmx (by omega) (by omega) (by omega)];simp only[if_true,Qad,Int.toNat_natCast,List.take_length];have e3:s.drop (s.length-1)=[c]:=by
   have h1:s.length-1<s.length:=by omega
   rw[Qcb h1,List.drop_eq_nil_of_le (by omega)];rw[List.getLast?_eq_getElem?,getE h1] at hl;cases hl; rfl
  rw[e3];simp
theorem rEnd(s:List UInt8)(hs:s.length<4294967281)(hne:(s==[])=false):(idx s (wr ((s.length:Int)-1))>>=λx=>some ((x.toNat:Int)==123))=some (endB s):=by
 have hne:s≠[]:=λh=>by subst h; cases hne
 have hpos:0<s.length:=List.length_pos_iff.2 hne;have e2:wr ((s.length:Int)-1)=((s.length-1:Nat):Int):=by rw[Qhc (by omega) (by omega)]; omega
 have h1:s.length-1<s.length:=by omega
 rw[e2,Qa3,getE h1,Qad,endB,List.getLast?_eq_getElem?,getE h1];have d:=eqN s[s.length-1].toNat 123;rw[show(123:Int)=((123:Nat):Int) from rfl,d];congr 1;by_cases h:s[s.length-1]=123
 .rw[h]; rfl
 .have:s[s.length-1].toNat≠123:=λe=>h (UInt8.toNat_inj.1 (by rw[e]; rfl))
  rw[beq_eq_false_iff_ne.2 this]
  symm
  rw[beq_eq_false_iff_ne];intro e; exact h (Option.some.inj e)
mutual
def allN(Q:Qab->Prop):Qab->Prop
 | ⟨k,s,t,n,a,b,c⟩=>Q ⟨k,s,t,n,a,b,c⟩/\allL Q a/\allL Q b/\allL Q c
def allL(Q:Qab->Prop):List Qab->Prop
 | []=>True
 | x::r=>allN Q x/\allL Q r
end
theorem Qox(Q:Qab->Prop)(x:Qab):allN Q x↔(Q x/\allL Q x.L/\allL Q x.Then/\allL Q x.Else):=by cases x; rw[allN]
theorem Qqk{Q:Qab->Prop}:∀ {l:List Qab} {x:Qab},x ∈ l->allL Q l->allN Q x
 | y::r,x,h,hs=>by
  rw[allL] at hs;rcases List.mem_cons.1 h with rfl | h
  .exact hs.1
  .exact Qqk h hs.2
theorem Qamt{R Q:Qab->Prop}(h:∀ x:Qab,x.Name.length<=40->x.Text.length<=60->R x->Q x):∀ n (l:List Qab),nns l<=n->sms l->allL R l->allL Q l:=by
 intro n
 induction n with
 | zero=>intro l hn _; cases l with
  | nil=>intro _; rw[allL]; trivial
  | cons x r=>have:=Qjh x; simp[nns] at hn; omega
 | succ n ih =>
  intro l
  induction l with
  | nil=>intro _ _ _; rw[allL]; trivial
  | cons x r ihr =>
   intro hn hs hr;rw[nns,Qie] at hn;rw[sms,Qasx] at hs;obtain⟨⟨h1,h2,h3,h4,h5⟩,h6⟩:=hs;rw[allL,Qox] at hr ⊢;obtain⟨⟨g1,g2,g3,g4⟩,g5⟩:=hr;exact⟨⟨h x h1 h2 g1,ih _ (by omega) h3 g2,ih _ (by omega) h4 g3,ih _ (by omega) h5 g4⟩,ihr (by omega) h6 g5⟩
structure okNd (x:Qab):Prop where
 nm:x.Name.length<=1000000
 tx:x.Text.length<=1000000
 rg : -9223372036854775808<=x.N/\x.N<=9223372036854775807
 qt:x.Kind=1->∃ q,Qld x.Text=some q/\Qne x.Text=some q
def Q67 (s:List UInt8):List UInt8×Bool:=(Qld s).getD ([],false)
def zl(l:List Qab):Bool:=l.length==0
mutual
def Q5i:Qab->Bool
 | ⟨k,s,t,n,a,b,c⟩ =>
  if k==1 then(Q67 t).2&&(s==[]&&(n==0&&(zl a&&(zl b&&zl c)))) else
  if k==2 then s==[]&&(t==[]&&(zl a&&(zl b&&zl c))) else
  if k==3 then(n==0||n==1)&&(s==[]&&(t==[]&&(zl a&&(zl b&&zl c)))) else
  if k==4 then Qhu s&&(t==[]&&(n==0&&(zl a&&(zl b&&zl c)))) else
  if k==5 then Qow s&&(a.length==1&&(Qdl a&&(t==[]&&(n==0&&(zl b&&zl c))))) else
  if k==6 then Qhu s&&(decide (a.length<=3)&&(Qdl a&&(t==[]&&(n==0&&(zl b&&zl c))))) else
  if k==7 then Qow s&&(t==[]&&(n==0&&(zl a&&(zl b&&zl c)))) else false
def Qdl:List Qab->Bool
 | []=>true
 | x::r=>Q5i x&&Qdl r
end
theorem Qxq(x:Qab):Q5i x =
  if x.Kind==1 then(Q67 x.Text).2&&(x.Name==[]&&(x.N==0&&(zl x.L&&(zl x.Then&&zl x.Else)))) else
  if x.Kind==2 then x.Name==[]&&(x.Text==[]&&(zl x.L&&(zl x.Then&&zl x.Else))) else
  if x.Kind==3 then(x.N==0||x.N==1)&&(x.Name==[]&&(x.Text==[]&&(zl x.L&&(zl x.Then&&zl x.Else)))) else
  if x.Kind==4 then Qhu x.Name&&(x.Text==[]&&(x.N==0&&(zl x.L&&(zl x.Then&&zl x.Else)))) else
  if x.Kind==5 then Qow x.Name&&(x.L.length==1&&(Qdl x.L&&(x.Text==[]&&(x.N==0&&(zl x.Then&&zl x.Else))))) else
  if x.Kind==6 then Qhu x.Name&&(decide (x.L.length<=3)&&(Qdl x.L&&(x.Text==[]&&(x.N==0&&(zl x.Then&&zl x.Else))))) else
  if x.Kind==7 then Qow x.Name&&(x.Text==[]&&(x.N==0&&(zl x.L&&(zl x.Then&&zl x.Else)))) else false:=by cases x; rw[Q5i]
theorem zI(l:List Qab):((l.length:Int)==0)=zl l:=eqN l.length 0
theorem gI(l:List Qab):decide ((l.length:Int)>0) = !zl l:=by
 unfold zl;by_cases h:l.length=0
 .rw[h]; rfl
 .rw[beq_eq_false_iff_ne.2 h,decide_eq_true (by omega)]; rfl
theorem oneI(l:List Qab):((l.length:Int)==1)=(l.length==1):=eqN l.length 1
theorem low1(a:BitVec 64):a &&& ~~~1#64=0#64↔(a=0#64\/a=1#64):=by
 constructor
 .intro h;have hb:∀ i,0<i->a.getLsbD i=false:=λi hi=>by
   have:=congrArg (λx:BitVec 64=>x.getLsbD i) h;simp only[BitVec.getLsbD_and,BitVec.getLsbD_not,BitVec.getLsbD_zero] at this;by_cases h64:i<64
   .have h1:(1#64).getLsbD i=false:=by simp[BitVec.getLsbD_one]; omega
    rw[h1] at this;simpa [h64] using this
   .exact BitVec.getLsbD_of_ge a i (by omega)
  cases h0:a.getLsbD 0 with
  | false =>
   left;apply BitVec.eq_of_getLsbD_eq;intro i _;by_cases hi:i=0
   .subst hi; rw[h0]; simp
   .rw[hb i (by omega)]; simp
  | true =>
   right;apply BitVec.eq_of_getLsbD_eq;intro i _;by_cases hi:i=0
   .subst hi; rw[h0]; simp
   .rw[hb i (by omega)]; simp[BitVec.getLsbD_one]; omega
 .rintro (h | h)<;>subst h<;>decide
theorem ofI{n:Int}(h1 : -9223372036854775808<=n)(h2:n<=9223372036854775807)(m:Int)(h3:0<=m)(h4:m<=1):BitVec.ofInt 64 n=BitVec.ofInt 64 m↔n=m:=by
 constructor
 .intro h;have:=congrArg BitVec.toInt h;rw[BitVec.toInt_ofInt,BitVec.toInt_ofInt,Int.bmod_def,Int.bmod_def] at this;simp only[show(((2:Nat) ^ 64:Nat):Int)=18446744073709551616 from rfl] at this;split at this<;>split at this<;>omega
 .intro h; rw[h]
theorem Qaur(m:Nat)(h:m<18446744073709551616):(IntKind.i64.wrap (m:Int)=0)↔m=0:=by
 rw[IntKind.wrap_i64];omega
theorem Qas5(n:Int)(h1 : -9223372036854775808<=n)(h2:n<=9223372036854775807):((bits .andNot .i64 n 1)==0)=(n==0||n==1):=by
 have hw:=Qaur (BitVec.ofInt 64 n &&& ~~~(BitVec.ofInt 64 1)).toNat (BitVec.isLt _);have e:bits .andNot .i64 n 1=IntKind.i64.wrap ((BitVec.ofInt 64 n &&& ~~~(BitVec.ofInt 64 1)).toNat:Int):=rfl;have e2:(BitVec.ofInt 64 n &&& ~~~(BitVec.ofInt 64 1)).toNat=0↔(n=0\/n=1):=by
  have z:(BitVec.ofInt 64 n &&& ~~~(BitVec.ofInt 64 1)).toNat=0↔BitVec.ofInt 64 n &&& ~~~1#64=0#64:=by
   constructor
   .intro h; exact BitVec.eq_of_toNat_eq h
   .intro h; exact congrArg BitVec.toNat h
  rw[z,low1];have a0:=ofI h1 h2 0 (by omega) (by omega);have a1:=ofI h1 h2 1 (by omega) (by omega);rw[<-a0,<-a1];exact Iff.rfl
 rw[e2] at hw;rw[e];by_cases h:n=0\/n=1
 .rw[hw.2 h];rcases h with h | h<;>subst h<;>rfl
 .have:¬ IntKind.i64.wrap ((BitVec.ofInt 64 n &&& ~~~(BitVec.ofInt 64 1)).toNat:Int)=0:=λk=>h (hw.1 k)
  rw[beq_eq_false_iff_ne.2 this];simp only[not_or] at h;rw[beq_eq_false_iff_ne.2 h.1,beq_eq_false_iff_ne.2 h.2];rfl
section
variable (n:Nat) (ih:∀ x:Qab,nn x<=n->allN okNd x->Qft x=some (Q5i x))
include ih
theorem Qas6(l:List Qab)(h:nns l<=n)(ho:allL okNd l)(hl:l.length<9223372036854775807):∀ k,k<=l.length->∃ r,Qaw l k=some r /\
  (match r with | .inl _=>Qdl (l.drop k)=true | .inr v=>0<=v/\Qdl (l.drop k)=false):=by
 refine upto ?_ λk hk ihk=>?_
 .rw[Qaw];refine⟨.inl (),by simp,?_⟩;simp[Qdl]
 .have hx:=Qev (List.getElem_mem hk);rw[Qaw,Qa4 (by omega)];simp only[ltI,hk,decide_true,if_true,Qa3,getE hk,Qad,Qwl,ih l[k] (by omega) (Qqk (List.getElem_mem hk) ho)];rw[Qcb hk];simp only[Qdl];cases he:Q5i l[k] with
  | true =>
   obtain⟨r,h1,h2⟩:=ihk;refine⟨r,by simpa using h1,?_⟩;simpa using h2
  | false=>exact⟨.inr k,by simp,by omega,rfl⟩
end
theorem Qaus:∀ n (x:Qab),n<1000000000->nn x<=n->allN okNd x->Qft x=some (Q5i x):=by
 intro n
 induction n with
 | zero=>intro x _ h; have:=Qjh x; omega
 | succ n ih =>
  intro x hb h ho;rw[Qie] at h;obtain⟨hq,ho1,-,-⟩:=(Qox okNd x).1 ho;have hnm:=hq.nm;rw[Qft,Qiw,Qxq,Qaq2 x.Name (by omega),Qas1 x.Name (by omega)];simp only[Qad,gI,Qas5 _ hq.rg.1 hq.rg.2];have e2:(x.N != 0) = !(x.N==0):=rfl;have e3:((x.L.length:Int)==0)=zl x.L:=zI x.L;have e4:((x.L.length:Int)==1)=(x.L.length==1):=oneI x.L;simp only[e2,e3,e4];by_cases k1:x.Kind=1
  .obtain⟨q,q1,q2⟩:=hq.qt k1;simp only[k1,beq_self_eq_true,if_true,q1,Qad,Q67,Option.getD_some];generalize (x.Name==[])=a1;generalize (x.Text==[])=a2;generalize (x.N==0)=a3;generalize zl x.L=a4;generalize zl x.Then=a5;generalize zl x.Else=a6;cases q.2<;>cases a1<;>cases a2<;>cases a3<;>cases a4<;>cases a5<;>cases a6<;>rfl
  by_cases k2:x.Kind=2
  .simp only[k2,beq_self_eq_true,if_true,show((2:Int)==1)=false from rfl,Bool.false_eq_true,if_false];generalize (x.Name==[])=a1;generalize (x.Text==[])=a2;generalize (x.N==0)=a3;generalize zl x.L=a4;generalize zl x.Then=a5;generalize zl x.Else=a6;cases a1<;>cases a2<;>cases a3<;>cases a4<;>cases a5<;>cases a6<;>rfl
  by_cases k3:x.Kind=3
  .simp only[k3,beq_self_eq_true,if_true,show((3:Int)==1)=false from rfl,show((3:Int)==2)=false from rfl,Bool.false_eq_true,if_false];generalize (x.N==0||x.N==1)=a0;generalize (x.Name==[])=a1;generalize (x.Text==[])=a2;generalize (x.N==0)=a3;generalize zl x.L=a4;generalize zl x.Then=a5;generalize zl x.Else=a6;cases a0<;>cases a1<;>cases a2<;>cases a3<;>cases a4<;>cases a5<;>cases a6<;>rfl
  have nw:Qhu x.Name=true->(x.Name==[])=false:=λh=>Q94 (Q24 h)
  have ww:Qow x.Name=true->(x.Name==[])=false:=λh=>Q94 h
  by_cases k4:x.Kind=4
  .simp only[k4,beq_self_eq_true,if_true,show((4:Int)==1)=false from rfl,show((4:Int)==2)=false from rfl,show((4:Int)==3)=false from rfl,Bool.false_eq_true,if_false];cases hn:Qhu x.Name with
   | false=>rfl
   | true =>
    rw[nw hn];generalize (x.Text==[])=a2;generalize (x.N==0)=a3;generalize zl x.L=a4;generalize zl x.Then=a5;generalize zl x.Else=a6;cases a2<;>cases a3<;>cases a4<;>cases a5<;>cases a6<;>rfl
  by_cases k7:x.Kind=7
  .simp only[k7,beq_self_eq_true,if_true,show((7:Int)==1)=false from rfl,show((7:Int)==2)=false from rfl,show((7:Int)==3)=false from rfl,show((7:Int)==4)=false from rfl,show((7:Int)==5)=false from rfl,show((7:Int)==6)=false from rfl,Bool.false_eq_true,if_false];cases hn:Qow x.Name with
   | false=>rfl
   | true =>
    rw[ww hn];generalize (x.Text==[])=a2;generalize (x.N==0)=a3;generalize zl x.L=a4;generalize zl x.Then=a5;generalize zl x.Else=a6;cases a2<;>cases a3<;>cases a4<;>cases a5<;>cases a6<;>rfl
  have b1:(x.Kind==1)=false:=beq_eq_false_iff_ne.2 k1;have b2:(x.Kind==2)=false:=beq_eq_false_iff_ne.2 k2;have b3:(x.Kind==3)=false:=beq_eq_false_iff_ne.2 k3;have b4:(x.Kind==4)=false:=beq_eq_false_iff_ne.2 k4;have b7:(x.Kind==7)=false:=beq_eq_false_iff_ne.2 k7;simp only[b1,b2,b3,b4,b7,Bool.false_eq_true,if_false];by_cases k5:x.Kind=5
  .simp only[k5,beq_self_eq_true,if_true];cases hn:Qow x.Name with
   | false=>rfl
   | true =>
    rw[ww hn];cases hl:(x.L.length==1) with
    | false =>
     generalize (x.Text==[])=a2;generalize (x.N==0)=a3;generalize zl x.Then=a5;generalize zl x.Else=a6;cases a2<;>cases a3<;>cases a5<;>cases a6<;>rfl
    | true =>
     have hl1:x.L.length=1:=by simpa using hl
     obtain⟨y,hy⟩:=List.length_eq_one_iff.1 hl1;have hy1:nn y<=n:=by have:=Qev (show y ∈ x.L by rw[hy]; simp); omega
     have hy2:allN okNd y:=Qqk (show y ∈ x.L by rw[hy]; simp) ho1;rw[hy];simp only[Qaqs,List.getElem?_cons_zero,Qad,ih y (by omega) hy1 hy2,Qdl,Bool.and_true];generalize (x.Text==[])=a2;generalize (x.N==0)=a3;generalize zl x.Then=a5;generalize zl x.Else=a6;generalize Q5i y=a7;cases a2<;>cases a3<;>cases a5<;>cases a6<;>cases a7<;>rfl
  by_cases k6:x.Kind=6
  .simp only[k6,beq_self_eq_true,if_true,show((6:Int)==5)=false from rfl,Bool.false_eq_true,if_false];cases hn:Qhu x.Name with
   | false=>rfl
   | true =>
    rw[nw hn];have hmin:((x.L.length:Int)==(if 3<(x.L.length:Int) then 3 else(x.L.length:Int)))=decide (x.L.length<=3):=by
     by_cases h3:x.L.length<=3
     .rw[if_neg (by omega),decide_eq_true h3]; simp
     .rw[if_pos (by omega),decide_eq_false h3,beq_eq_false_iff_ne.2 (by omega)]
    rw[hmin];have hll:=Qfd x.L;obtain⟨r,hr,hp⟩:=Qas6 n (λy=>ih y (by omega)) x.L (by omega) ho1 (by omega) 0 (by omega);rw[Qa7,Qbm,show(0:Int)=((0:Nat):Int) from rfl,hr];rw[List.drop_zero] at hp;cases r with
    | inl u =>
     simp only at hp;rw[hp];generalize (x.Text==[])=a2;generalize (x.N==((0:Nat):Int))=a3;generalize zl x.Then=a5;generalize zl x.Else=a6;generalize decide (x.L.length<=3)=a7;cases a2<;>cases a3<;>cases a5<;>cases a6<;>cases a7<;>rfl
    | inr v =>
     simp only at hp;have hv:decide (v >= ((0:Nat):Int))=true:=decide_eq_true (by omega);simp only[hp.2,Qad,hv];generalize (x.Text==[])=a2;generalize (x.N==((0:Nat):Int))=a3;generalize zl x.Then=a5;generalize zl x.Else=a6;generalize decide (x.L.length<=3)=a7;cases a2<;>cases a3<;>cases a5<;>cases a6<;>cases a7<;>rfl
  have b5:(x.Kind==5)=false:=beq_eq_false_iff_ne.2 k5;have b6:(x.Kind==6)=false:=beq_eq_false_iff_ne.2 k6;simp only[b5,b6,Bool.false_eq_true,if_false]
def Qao3(x:Qab)(p1 p2 p3 p4 p5:Bool):Bool:=(p1||x.Name==[])&&((p2||x.Text==[])&&((p3||x.N==0)&&((p4||zl x.L)&&((p5||zl x.Then)&&(x.Kind==10||zl x.Else)))))
theorem Qas7(x:Qab)(p1 p2 p3 p4 p5:Bool):Qd8 x p1 p2 p3 p4 p5=some (Qao3 x p1 p2 p3 p4 p5):=by
 unfold Qd8 Qao3;simp only[zI];generalize (x.Name==[])=a1;generalize (x.Text==[])=a2;generalize (x.N==0)=a3;generalize zl x.L=a4;generalize zl x.Then=a5;generalize zl x.Else=a6;generalize (x.Kind==10)=a7;have e:∀ b:Bool,(if a7=true then some true else some b:Option Bool)=some (a7||b):=λb=>by cases a7<;>rfl
 simp only[e];generalize (a7||a6)=a8;cases p1<;>cases p2<;>cases p3<;>cases p4<;>cases p5<;>cases a1<;>(try rfl)<;>cases a2<;>(try rfl)<;>cases a3<;>(try rfl)<;>cases a4<;>(try rfl)<;>cases a5<;>rfl
section
variable (n:Nat) (ih:∀ x:Qab,nn x<=n->allN okNd x->Qub x=some (Q5i x))
include ih
theorem Qaq6(l:List Qab)(h:nns l<=n)(ho:allL okNd l)(hl:l.length<9223372036854775807):∀ k,k<=l.length->Qiv l k=some (if Qdl (l.drop k) then .inl () else .inr ()):=by
 refine upto ?_ λk hk ihk=>?_
 .rw[Qiv]; simp[Qdl]
 .have hx:=Qev (List.getElem_mem hk);rw[Qiv,Qa4 (by omega),ihk];simp only[ltI,hk,decide_true,if_true,Qa3,getE hk,Qad,ih l[k] (by omega) (Qqk (List.getElem_mem hk) ho)];rw[Qcb hk,Qdl];cases Q5i l[k]<;>rfl
theorem Qapu(l:List Qab)(h:nns l<=n)(ho:allL okNd l)(hl:l.length<9223372036854775807):Qng l=some (Qdl l):=by
 have:=Qaq6 n ih l h ho hl 0 (by omega);rw[Qng,show(0:Int)=((0:Nat):Int) from rfl,this,List.drop_zero];cases Qdl l<;>rfl
end
theorem Qaut:∀ n (x:Qab),n<1000000000->nn x<=n->allN okNd x->Qub x=some (Q5i x):=by
 intro n
 induction n with
 | zero=>intro x _ h; have:=Qjh x; omega
 | succ n ih =>
  intro x hb h ho;rw[Qie] at h;obtain⟨hq,ho1,-,-⟩:=(Qox okNd x).1 ho;have hnm:=hq.nm;have hll:=Qfd x.L;have hex:=Qapu n (λy=>ih y (by omega)) x.L (by omega) ho1 (by omega);have el:decide ((x.L.length:Int)<=3)=decide (x.L.length<=3):=leN x.L.length 3;rw[Qub,Qxq,Qaq3 x.Name (by omega),Qas3 x.Name (by omega),hex];simp only[Qad,Qas7,Qao3,oneI,el];by_cases k1:x.Kind=1
  .obtain⟨q,q1,q2⟩:=hq.qt k1;have e10:(x.Kind==10)=false:=beq_eq_false_iff_ne.2 (by omega);simp only[e10];simp only[k1,beq_self_eq_true,if_true,q2,q1,Qad,Q67,Option.getD_some];generalize (x.Name==[])=a1;generalize (x.N==0)=a3;generalize zl x.L=a4;generalize zl x.Then=a5;generalize zl x.Else=a6;cases q.2<;>cases a1<;>cases a3<;>cases a4<;>cases a5<;>cases a6<;>rfl
  have b1:(x.Kind==1)=false:=beq_eq_false_iff_ne.2 k1;by_cases h10:x.Kind=10
  .simp only[h10]; rfl
  have e10:(x.Kind==10)=false:=beq_eq_false_iff_ne.2 h10;simp only[e10,b1,Bool.false_eq_true,if_false,Bool.false_or,Bool.true_or,Bool.true_and];generalize (x.Kind==2)=k2;generalize (x.Kind==3)=k3;generalize (x.Kind==4)=k4;generalize (x.Kind==5)=k5;generalize (x.Kind==6)=k6;generalize (x.Kind==7)=k7;generalize (x.Name==[])=a1;generalize (x.Text==[])=a2;generalize (x.N==0)=a3;generalize (x.N==1)=a8;generalize zl x.L=a4;generalize zl x.Then=a5;generalize zl x.Else=a6;generalize Qhu x.Name=n1;generalize Qow x.Name=n2;generalize (x.L.length==1)=l1;generalize decide (x.L.length<=3)=l3;generalize Qdl x.L=ex;cases k2
  .cases k3
   .cases k4
    .cases k5
     .cases k6
      .cases k7
       .rfl
       .cases n2<;>rfl
      .cases n1<;>(try rfl)<;>cases l3<;>(try rfl)<;>cases ex<;>rfl
     .cases n2<;>(try rfl)<;>cases l1<;>(try rfl)<;>cases ex<;>rfl
    .cases n1<;>rfl
   .cases a3<;>(try rfl)<;>cases a8<;>rfl
  .rfl
def litB:List Qab->Bool
 | []=>false
 | x::_=>x.Kind==8
def Qajx(x:Qab)(r:List Qab)(inn:Bool):Bool:=x.Kind==8&&(litB r||((!r.isEmpty||inn)&&endB x.Text))
mutual
def Q5j:Qab->Bool
 | ⟨k,s,t,n,a,b,c⟩ =>
  if k==8 then !(t==[])&&(!(hasB t)&&(s==[]&&(n==0&&(zl a&&(zl b&&zl c))))) else
  if k==9 then(a.length==1&&Qdl a)&&(s==[]&&(t==[]&&(n==0&&(zl b&&zl c)))) else
  if k==10 then(a.length==1&&Qdl a)&&((Qbq b true&&Qbq c true)&&(s==[]&&(t==[]&&n==0))) else
  if k==11||k==12 then Qhu s&&((a.length==1&&Qdl a)&&(Qbq b true&&(t==[]&&(n==0&&zl c)))) else
  if k==13 then Qhu s&&((a.length==1&&Qdl a)&&(t==[]&&(n==0&&(zl b&&zl c)))) else false
def Qbq:List Qab->Bool->Bool
 | [],_=>true
 | x::r,inn=>Q5j x&&(!(Qajx x r inn)&&Qbq r inn)
end
theorem Qql(x:Qab):Q5j x =
  if x.Kind==8 then !(x.Text==[])&&(!(hasB x.Text)&&(x.Name==[]&&(x.N==0&&(zl x.L&&(zl x.Then&&zl x.Else))))) else
  if x.Kind==9 then(x.L.length==1&&Qdl x.L)&&(x.Name==[]&&(x.Text==[]&&(x.N==0&&(zl x.Then&&zl x.Else)))) else
  if x.Kind==10 then(x.L.length==1&&Qdl x.L)&&((Qbq x.Then true&&Qbq x.Else true)&&(x.Name==[]&&(x.Text==[]&&x.N==0))) else
  if x.Kind==11||x.Kind==12 then Qhu x.Name&&((x.L.length==1&&Qdl x.L)&&(Qbq x.Then true&&(x.Text==[]&&(x.N==0&&zl x.Else)))) else
  if x.Kind==13 then Qhu x.Name&&((x.L.length==1&&Qdl x.L)&&(x.Text==[]&&(x.N==0&&(zl x.Then&&zl x.Else)))) else false:=by cases x; rw[Q5j]
theorem Qxr{l:List Qab}(h:zl l=true):l=[]:=List.eq_nil_of_length_eq_zero (by simpa [zl] using h)
theorem Qadq(b:Bool):Qbq [] b=true:=by rw[Qbq]
theorem Qamu{x:Qab}(h:Q5j x=true)(hk:x.Kind=8):(x.Text==[])=false:=by
 rw[Qql,hk] at h;simp only[beq_self_eq_true,if_true] at h;cases ht:(x.Text==[]) with
 | false=>rfl
 | true=>rw[ht] at h; cases h
theorem Qas8(k n:Nat)(hk:k<n)(hn:n<9223372036854775807):((k:Int)==wr ((n:Int)-1))=(k+1==n):=by
 have e:wr ((n:Int)-1)=((n-1:Nat):Int):=by rw[Qhc (by omega) (by omega)]; omega
 rw[e,eqN];by_cases h:k+1=n
 .rw[beq_iff_eq.2 h,beq_iff_eq.2 (by omega)]
 .rw[beq_eq_false_iff_ne.2 h,beq_eq_false_iff_ne.2 (by omega)]
theorem Qamv{l:List Qab}{k:Nat}(hk:k<l.length):(l.drop (k+1)).isEmpty=(k+1==l.length):=by
 by_cases h:k+1=l.length
 .rw[List.drop_eq_nil_of_le (by omega),beq_iff_eq.2 h]; rfl
 .rw[beq_eq_false_iff_ne.2 h,Qcb (by omega:k+1<l.length)]; rfl
end Go.Proofs.YtfgegilhjlnohaaGreat
end
