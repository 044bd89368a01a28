/- Part 9 of 12. -/
import Derived.Test.YtfgegilhjlnohaaGreatMgInferWide8
import Derived.Lib.SlicesCompact

noncomputable section
set_option linter.unusedVariables false
set_option linter.unusedSimpArgs false
set_option maxRecDepth 100000
set_option maxHeartbeats 4000000
namespace Go.Proofs.YtfgegilhjlnohaaGreat
open Go.RowKit
theorem Qabe:∀ (p0:(List Qad)),(∀ (v22:Int) (o1:Unit⊕((List UInt8)×Int)),Qd8 p0 v22=some o1->TL (0,0) Tryz.prog 102 Qwa (JP2 (0,0) 102 o1 (.exit 0) (Qnb p0) .ret (Qnc p0)) (Qiv p0 v22)):=by
 intro p0;refine Qd8.partial_correctness p0 _ ?_;intro Qd8' iQd8 v22 o1 h;refine TL.round (Qaq mixed tbOk (lv:=Qgm) _ _ _ ?_);refine Qae h (λhb h=>?_) (λhb h=>?_)
 .refine Qbu (l:=p0) (c:=Qai) (c' := Qai) h (λ_=>rfl) (λ_=>rfl) (by decide) (λx4 hi h=>?_);refine Qaj h (λo5 ho hk=>?_);refine Exists.intro (JP1 _ _ o5 .normal (Qv9 p0 v22 x4)) (And.intro ?_ (Qa5 ?_))
  .have h:=ho;refine Qas [sV x4.Name] Qfs h (λx6 hy=>(Qjw x4.Name x6 hy)) (λx6 hy h=>?_);refine Qae h (λhb h=>?_) (λhb h=>?_)
   .exact JP1.a h (Le.ty 1 0)
   .refine Qas [.sl false (x4.L.map Qab)] Qyj h (λx7 hy=>(Qacx x4.L x7 hy)) (λx7 hy h=>?_);exact JP1.a h (Le.ty 1 0)
  .have h:=hk;refine Qae h (λhb h=>?_) (λhb h=>?_)
   .exact JP2.b h (Le.ty 0 0)
   .refine And.intro (by decide +kernel) (And.intro rfl ?_);refine Qak2 (c:=Qai) none (some v22) h (λ_=>rfl) (λx8 hi h=>?_);refine Qda [.sl false (x8.map Qai),sV x4.Name] Qhd h (λx9 hy=>(Qoj x8 x4.Name x9 hy)) (λx9 hy h=>?_);refine Qae h (λhb h=>?_) (λhb h=>?_)
    .exact JP2.b h (Le.ty 0 0)
    .refine TL.le (τ := Qiv p0 (wr (v22+1))) ?_ ((iQd8 (wr (v22+1)) _ h));exact Le.ty 0 0
 .exact JP2.a h (Le.ty 0 0)
def Qd9 (p0:(List Qad)) (x10:(List ((List UInt8)×(List (List UInt8))))) (v56:Int) (x14:Qad) (v66:Int):Option (Unit⊕Unit) :=
 if(decide (v66<(((mget (λa b=>a==b) x14.Name x10).getD []).length:Int))) then
  idx ((mget (λa b=>a==b) x14.Name x10).getD []) v66>>=λx18 =>
  if(!((mget (λa b=>a==b) x18 x10).isSome)) then
   some (.inr ())
  else
   Qd9 p0 x10 v56 x14 (wr (v66+1))
 else
  some (.inl ())
 partial_fixpoint
theorem Qabf:∀ (p0:(List Qad)) (x10:(List ((List UInt8)×(List (List UInt8))))) (v56:Int) (x14:Qad),(∀ (v66:Int) (o15:Unit⊕Unit),Qd9 p0 x10 v56 x14 v66=some o15->TL (0,0) Tryz.prog 102 Qwb (JP2 (0,0) 102 o15 (.exit 4) (Qnd p0 x10 v56 x14) .ret (Qne p0 x10 v56 x14)) (Qiw p0 x10 v56 x14 v66)):=by
 intro p0 x10 v56 x14;refine Qd9.partial_correctness p0 x10 v56 x14 _ ?_;intro Qd9' iQd9 v66 o15 h;refine TL.round (Qaq mixed tbOk (lv:=Qgm) _ _ _ ?_);refine Qae h (λhb h=>?_) (λhb h=>?_)
 .refine Qbu (l:=((mget (λa b=>a==b) x14.Name x10).getD [])) (c:=cStr) (c' := cStr) h (λ_=>rfl) (λ_=>rfl) (by decide) (λx18 hi h=>?_);refine Qsl (l:=x10) (k:=x18) (λa b=>a==b) (ck:=sV) (ca:=(λx =>.sl false (x.map cStr))) (z0:=[]) (by exact rfl) (by exact rfl) (by exact rfl) (by exact λ_ _=>rfl) (by exact rfl) (by exact .not) ?_;refine Qae h (λhb h=>?_) (λhb h=>?_)
  .exact JP2.b h (Le.ty 3 0)
  .refine TL.le (τ := Qiw p0 x10 v56 x14 (wr (v66+1))) ?_ ((iQd9 (wr (v66+1)) _ h));exact Le.ty 3 0
 .exact JP2.a h (Le.ty 3 0)
def Qea (p0:(List Qad)) (x10:(List ((List UInt8)×(List (List UInt8))))) (v56:Int):Option (Unit⊕(List UInt8)) :=
 if(decide (v56<(p0.length:Int))) then
  idx p0 v56>>=λx14 =>
  (Qd9 p0 x10 v56 x14 0)>>=λo15 =>
  match o15 with
  | .inl y16 =>
   Qea p0 x10 (wr (v56+1))
  | .inr y17 =>
   some (.inr x14.Name)
 else
  some (.inl ())
 partial_fixpoint
theorem Qabg:∀ (p0:(List Qad)) (x10:(List ((List UInt8)×(List (List UInt8))))),(∀ (v56:Int) (o11:Unit⊕(List UInt8)),Qea p0 x10 v56=some o11->TL (0,0) Tryz.prog 102 Qwc (JP2 (0,0) 102 o11 (.exit 2) (Qnf p0 x10) .ret (Qng p0 x10)) (Qix p0 x10 v56)):=by
 intro p0 x10;refine Qea.partial_correctness p0 x10 _ ?_;intro Qea' iQea v56 o11 h;refine TL.round (Qaq mixed tbOk (lv:=Qgm) _ _ _ ?_);refine Qae h (λhb h=>?_) (λhb h=>?_)
 .refine Qbu (l:=p0) (c:=Qai) (c' := Qai) h (λ_=>rfl) (λ_=>rfl) (by decide) (λx14 hi h=>?_);refine Qsl (l:=x10) (k:=x14.Name) (λa b=>a==b) (ck:=sV) (ca:=(λx =>.sl false (x.map cStr))) (z0:=[]) (by exact rfl) (by exact rfl) (by exact rfl) (by exact λ_ _=>rfl) (by exact rfl) (by exact .not) ?_;refine view (Qcz _ _) rfl ?_;refine Qaj h (λo15 ho hk=>?_);refine Exists.intro (JP2 _ _ o15 (.exit 4) (Qnd p0 x10 v56 x14) .ret (Qne p0 x10 v56 x14)) (And.intro (Qk4 (τ := Qiw p0 x10 v56 x14 0) ?_ (TL.loop (Qabf p0 x10 v56 x14 0 o15 ho))) (Qke (λy16 hy=>?_) (λy17 hy=>?_)))
  .exact Le.ty 3 0
  .have h:=(by rw[hy] at hk; exact hk);refine TL.le (τ := Qix p0 x10 (wr (v56+1))) ?_ ((iQea (wr (v56+1)) _ h));exact Le.ty 2 0
  .have h:=(by rw[hy] at hk; exact hk);exact JP2.b h (Le.ty 2 0)
 .exact JP2.a h (Le.ty 2 0)
def Qcf (h0_0:(List ((List UInt8)×(List (List UInt8))))) (x1:(List (List UInt8))) (v17:Int) (h2_0:(List ((List UInt8)×Int))):Option (((List ((List UInt8)×Int)))) :=
 if(decide (v17<(x1.length:Int))) then
  idx x1 v17>>=λx3 =>
  Qcf h0_0 x1 (wr (v17+1)) (mset (λa b=>a==b) x3 1 h2_0)
 else
  some h2_0
 partial_fixpoint
theorem Q4c:∀ (h0_0:(List ((List UInt8)×(List (List UInt8))))) (x1:(List (List UInt8))),(∀ (v17:Int) (h2_0:(List ((List UInt8)×Int))) (o2:((List ((List UInt8)×Int)))),Qcf h0_0 x1 v17 h2_0=some o2->TL (1,0) Tryz.prog 56 Qp7 (JP1 (1,0) 56 o2 (.exit 0) (Qie h0_0 x1)) (Qfh h0_0 x1 v17 h2_0)):=by
 intro h0_0 x1;refine Qcf.partial_correctness h0_0 x1 _ ?_;intro Qcf' iQcf v17 h2_0 o2 h;refine TL.round (Qaq mixed tbOk (lv:=Qeo) _ _ _ ?_);refine Qae h (λhb h=>?_) (λhb h=>?_)
 .refine Qx8 (l:=x1) (c:=cStr) (c' := cStr) h rfl (λ_=>rfl) (λ_=>rfl) (by decide) (λx3 hi h=>?_);refine And.intro rfl (And.intro (Nat.le_of_ble_eq_true rfl) ?_);refine Qabc (l:=h2_0) (k:=x3) (x:=1) (λa b=>a==b) (ck:=sV) (ca:=iV) (by exact rfl) (by exact rfl) (by exact rfl) (by exact .refl _) (by exact λ_ _=>rfl) ?_;refine TL.le (τ := Qfh h0_0 x1 (wr (v17+1)) (mset (λa b=>a==b) x3 1 h2_0)) ?_ ((iQcf (wr (v17+1)) (mset (λa b=>a==b) x3 1 h2_0) _ h));exact Le.ty 3 1
 .exact JP1.a h (Le.ty 3 1)
def Qbw (h0_0:(List ((List UInt8)×(List (List UInt8))))) (v9:Int) (x5:(List UInt8)) (v6_:(List (List UInt8))) (v38:Int) (h2_0_:(List ((List UInt8)×Int))):Option (((List (List UInt8))×(List ((List UInt8)×Int)))) :=
 if(decide (v38<(((mget (λa b=>a==b) x5 h0_0).getD []).length:Int))) then
  idx ((mget (λa b=>a==b) x5 h0_0).getD []) v38>>=λx7 =>
  if(((mget (λa b=>a==b) x7 h2_0_).getD 0)==0) then
   appL 16 v6_ [x7]>>=λx8 =>
   Qbw h0_0 v9 x5 x8 (wr (v38+1)) (mset (λa b=>a==b) x7 1 h2_0_)
  else
   Qbw h0_0 v9 x5 v6_ (wr (v38+1)) h2_0_
 else
  some (v6_,h2_0_)
 partial_fixpoint
theorem Q4d:∀ (h0_0:(List ((List UInt8)×(List (List UInt8))))) (v9:Int) (x5:(List UInt8)),(∀ (v6_:(List (List UInt8))) (v38:Int) (h2_0_:(List ((List UInt8)×Int))) (o6:((List (List UInt8))×(List ((List UInt8)×Int)))),Qbw h0_0 v9 x5 v6_ v38 h2_0_=some o6->TL (1,0) Tryz.prog 56 Qp8 (JP1 (1,0) 56 o6 (.exit 4) (Qif h0_0 v9 x5)) (Qdw h0_0 v9 x5 v6_ v38 h2_0_)):=by
 intro h0_0 v9 x5;refine Qbw.partial_correctness h0_0 v9 x5 _ ?_;intro Qbw' iQbw v6_ v38 h2_0_ o6 h;refine TL.round (Qaq mixed tbOk (lv:=Qeo) _ _ _ ?_);refine Qae h (λhb h=>?_) (λhb h=>?_)
 .refine Qbu (l:=((mget (λa b=>a==b) x5 h0_0).getD [])) (c:=cStr) (c' := cStr) h (λ_=>rfl) (λ_=>rfl) (by decide) (λx7 hi h=>?_);refine Qsl (l:=h2_0_) (k:=x7) (λa b=>a==b) (ck:=sV) (ca:=iV) (z0:=0) (by exact rfl) (by exact rfl) (by exact rfl) (by exact λ_ _=>rfl) (by exact rfl) (by exact .refl _) ?_;refine Qae h (λhb h=>?_) (λhb h=>?_)
  .refine Qabc (l:=h2_0_) (k:=x7) (x:=1) (λa b=>a==b) (ck:=sV) (ca:=iV) (by exact rfl) (by exact rfl) (by exact rfl) (by exact .refl _) (by exact λ_ _=>rfl) ?_;refine Qx9 (a:=v6_) (b:=[x7]) (c:=cStr) h (.refl _) (λ_=>rfl) rfl (λx8 hi h=>?_);refine TL.le (τ := Qdw h0_0 v9 x5 x8 (wr (v38+1)) (mset (λa b=>a==b) x7 1 h2_0_)) ?_ ((iQbw x8 (wr (v38+1)) (mset (λa b=>a==b) x7 1 h2_0_) _ h));exact Le.trans (τ := ⟨[(2,.ptr 1 0),(5,.mh 2),(6,.x 0 2 (.sl 9 1 (x8.map cStr))),(9,.p (iV v9)),(36,.p (.sl false (((mget (λa b=>a==b) x5 h0_0).getD []).map cStr))),(37,.p (iV (((mget (λa b=>a==b) x5 h0_0).getD []).length:Int))),(38,.p (iV (wr (v38+1))))],⟨[[mpD sV (λx =>.sl false (x.map cStr)) h0_0],[.mh 0],[mpD sV iV (mset (λa b=>a==b) x7 1 h2_0_)]],[2]⟩⟩) (Le.ty 3 1) ((Le.ver (.s 6) 0 2 1 rfl rfl rfl rfl).trans (Le.ty 3 1))
  .refine TL.le (τ := Qdw h0_0 v9 x5 v6_ (wr (v38+1)) h2_0_) ?_ ((iQbw v6_ (wr (v38+1)) h2_0_ _ h));exact Le.ty 3 1
 .exact JP1.a h (Le.ty 3 1)
def Qbx (h0_0:(List ((List UInt8)×(List (List UInt8))))) (v6:(List (List UInt8))) (v9:Int) (h2_0:(List ((List UInt8)×Int))):Option (((List (List UInt8))×(List ((List UInt8)×Int)))) :=
 if(decide (v9<(v6.length:Int))) then
  idx v6 v9>>=λx5 =>
  (Qbw h0_0 v9 x5 v6 0 h2_0)>>=λo6 =>
  Qbx h0_0 o6.1 (wr (v9+1)) o6.2
 else
  some (v6,h2_0)
 partial_fixpoint
theorem Q4e:∀ (h0_0:(List ((List UInt8)×(List (List UInt8))))),(∀ (v6:(List (List UInt8))) (v9:Int) (h2_0:(List ((List UInt8)×Int))) (o4:((List (List UInt8))×(List ((List UInt8)×Int)))),Qbx h0_0 v6 v9 h2_0=some o4->TL (1,0) Tryz.prog 56 Qp9 (JP1 (1,0) 56 o4 (.exit 2) (Qig h0_0)) (Qfi h0_0 v6 v9 h2_0)):=by
 intro h0_0;refine Qbx.partial_correctness h0_0 _ ?_;intro Qbx' iQbx v6 v9 h2_0 o4 h;refine TL.round (Qaq mixed tbOk (lv:=Qeo) _ _ _ ?_);refine And.intro rfl (Exists.intro _ (And.intro (List.length_map _) ?_));refine Qae h (λhb h=>?_) (λhb h=>?_)
 .refine And.intro (by decide +kernel) (And.intro rfl ?_);refine And.intro rfl ?_;refine Qx8 (l:=v6) (c:=cStr) (c' := cStr) h rfl (λ_=>rfl) (λ_=>rfl) (by decide) (λx5 hi h=>?_);refine And.intro rfl ?_;refine And.intro rfl (And.intro (Nat.le_of_ble_eq_true rfl) ?_);refine And.intro rfl ?_;refine Qsl (l:=h0_0) (k:=x5) (λa b=>a==b) (ck:=sV) (ca:=(λx =>.sl false (x.map cStr))) (z0:=[]) (by exact rfl) (by exact rfl) (by exact rfl) (by exact λ_ _=>rfl) (by exact rfl) (by exact .not) ?_;refine view (Qcz _ _) rfl ?_;refine Qaj h (λo6 ho hk=>?_);refine Exists.intro (JP1 _ _ o6 (.exit 4) (Qif h0_0 v9 x5)) (And.intro (Qk4 (τ := Qdw h0_0 v9 x5 v6 0 h2_0) ?_ (TL.loop (Q4d h0_0 v9 x5 v6 0 h2_0 o6 ho))) (Qa5 ?_))
  .exact Le.ty 3 1
  have h:=hk;refine TL.le (τ := Qfi h0_0 o6.1 (wr (v9+1)) o6.2) ?_ ((iQbx o6.1 (wr (v9+1)) o6.2 _ h));exact Le.ty 3 1
 .exact JP1.a h (Le.ty 3 1)
def Qcr (p0:(List (List UInt8))):Option ((List (List UInt8))) :=
 appL 16 [] p0
theorem Qkl:∀ (p0:(List (List UInt8))) (o:(List (List UInt8))),Qcr p0=some o->CallOK Tryz.prog 75 [.p (.sl false (p0.map cStr))] ⟨[],[]⟩ (Qdb o) ⟨[],[1]⟩:=by
 intro p0 o h;unfold Qcr at h;have h:(appL 16 ([]:List (List UInt8)) p0>>=λr=>some r)=some o:=by rw[h]; rfl
 refine CallOK.ofB mixed tbOk Qkg Tryz.func75 rfl (by kernel_rfl) (Nat.le_of_ble_eq_true rfl) rfl rfl rfl ?_;refine⟨rfl,rfl,rfl,λb hb=>?_⟩;cases b with
 | true =>
  refine bT ?_;obtain rfl:=List.map_eq_nil_iff.1 (hb rfl);have h:some ([]:List (List UInt8))=some o:=h;refine Exists.intro _ (And.intro (Le.xnil (.s 2) 9 1 rfl) ?_);exact Qb2 (t:=Qdb) (ss:=λo=>⟨[],[1]⟩) h ⟨[0],rfl,.refl _,.refl _,rfl⟩
 | false =>
  refine bF ?_;refine Qaba (a:=([]:List (List UInt8))) (b:=p0) (c:=cStr) h (.refl _) (.refl _) (λ_=>rfl) (.inl rfl) (λr hi h=>?_);refine Exists.intro _ (And.intro (Le.refl _ _ _) ?_);exact Qb2 (t:=Qdb) (ss:=λo=>⟨[],[1]⟩) h ⟨[0],rfl,.refl _,.refl _,rfl⟩
def Qfc (p1:(List (List UInt8))) (h0_0:(List ((List UInt8)×(List (List UInt8))))):Option ((List (List UInt8))) :=
 Qcr p1>>=λx1 =>
 (Qcf h0_0 x1 0 [])>>=λo2 =>
 (Qbx h0_0 x1 0 o2)>>=λo4 =>
 need (o4.1.length<4611686018427387904)>>=λ_ =>
 some (srtL o4.1)
theorem Qsw:∀ (p1:(List (List UInt8))) (h0_0:(List ((List UInt8)×(List (List UInt8))))) (o:(List (List UInt8))),Qfc p1 h0_0=some o->CallOK Tryz.prog 42 [.agg [.mh 0],.p (.sl false (p1.map cStr))] ⟨[[mpD sV (λx =>.sl false (x.map cStr)) h0_0]],[]⟩ (Qhp o) ⟨[[mpD sV (λx =>.sl false (x.map cStr)) h0_0]],[]⟩:=by
 intro p1 h0_0 o h;unfold Qfc at h;refine CallOK.ofB mixed tbOk Qeo Tryz.func42 rfl (by kernel_rfl) (Nat.le_of_ble_eq_true rfl) rfl rfl rfl ?_;refine And.intro rfl (Exists.intro false ?_);refine Qam _ _ h (λx1 hy=>((Qkl p1 x1 hy).fr [] [] rfl rfl rfl)) (λx1 hy h=>?_);refine And.intro rfl (Exists.intro _ (And.intro (List.length_map _) ?_));refine Qaj h (λo2 ho hk=>?_);refine Exists.intro (JP1 _ _ o2 (.exit 0) (Qie h0_0 x1)) (And.intro (Qk4 (τ := Qfh h0_0 x1 0 []) ?_ (TL.loop (Q4c h0_0 x1 0 [] o2 ho))) (Qa5 ?_))
 .exact Le.ty 3 1
 have h:=hk;refine Qaj h (λo4 ho hk=>?_);refine Exists.intro (JP1 _ _ o4 (.exit 2) (Qig h0_0)) (And.intro (Qk4 (τ := Qfi h0_0 x1 0 o2) ?_ (TL.loop (Q4e h0_0 x1 0 o2 o4 ho))) (Qa5 ?_))
 .exact Le.ty 3 1
 have h:=hk;refine Q3g h (λhn0 h=>?_);refine Or.inl ?_;refine⟨rfl,rfl,_,false,o4.1,(srtL o4.1),_,rfl,rfl,Qah6  hn0 ,rfl,rfl,?_⟩;refine Exists.intro _ (And.intro (Le.trans (τ := ⟨[(4,.x 0 2 (.sl 9 1 ((srtL o4.1).map cStr)))],⟨[[mpD sV (λx =>.sl false (x.map cStr)) h0_0]],[2]⟩⟩) (Le.ty 1 1) (Le.trans (τ := ⟨[(4,.x 0 2 (.sl 9 1 ((srtL o4.1).map cStr)))],⟨[[mpD sV (λx =>.sl false (x.map cStr)) h0_0]],[2]⟩⟩) (Le.ty 1 1) ((Le.frzv (.s 4) 0 2 rfl rfl rfl rfl).trans (Le.refl _ _ _)))) ?_);refine Qb2 (t:=Qhp) (ss:=λo=>⟨[[mpD sV (λx =>.sl false (x.map cStr)) h0_0]],[]⟩) h ?_;exact⟨[],rfl,.refl _,.refl _,rfl⟩
def Qa4 (p0:(List (List UInt8))) (p1:(List UInt8)) (v8:Int):Option (Unit⊕Int) :=
 if(decide (v8<(p0.length:Int))) then
  idx p0 v8>>=λx4 =>
  if(p1==x4) then
   some (.inr v8)
  else
   Qa4 p0 p1 (wr (v8+1))
 else
  some (.inl ())
 partial_fixpoint
theorem Qtx:∀ (p0:(List (List UInt8))) (p1:(List UInt8)),(∀ (v8:Int) (o1:Unit⊕Int),Qa4 p0 p1 v8=some o1->TL (0,0) Tryz.prog 19 Qiz (JP2 (0,0) 19 o1 (.exit 0) (Qed p0 p1) .ret (Qee p0 p1)) (Qco p0 p1 v8)):=by
 intro p0 p1;refine Qa4.partial_correctness p0 p1 _ ?_;intro Qa4' iQa4 v8 o1 h;refine TL.round (Qaq mixed tbOk (lv:=Qe7) _ _ _ ?_);refine Qae h (λhb h=>?_) (λhb h=>?_)
 .refine Qbu (l:=p0) (c:=cStr) (c' := cStr) h (λ_=>rfl) (λ_=>rfl) (by decide) (λx4 hi h=>?_);refine Qae h (λhb h=>?_) (λhb h=>?_)
  .exact JP2.b h (Le.ty 0 0)
  .refine TL.le (τ := Qco p0 p1 (wr (v8+1))) ?_ ((iQa4 (wr (v8+1)) _ h));exact Le.ty 0 0
 .exact JP2.a h (Le.ty 0 0)
def Qcs (p0:(List (List UInt8))) (p1:(List UInt8)):Option (Int) :=
 (Qa4 p0 p1 0)>>=λo1 =>
 match o1 with
 | .inl y2 =>
  some (-1)
 | .inr y3 =>
  some y3
theorem Qkm:∀ (p0:(List (List UInt8))) (p1:(List UInt8)) (o:Int),Qcs p0 p1=some o->PCall Tryz.prog 74 [.sl false (p0.map cStr),sV p1] (Qci o):=by
 intro p0 p1 o h;unfold Qcs at h;refine PCall.ofY Qe7 Tryz.func74 ?_;refine view (Qcz _ _) rfl ?_;refine Qaj h (λo1 ho hk=>?_);refine Exists.intro (JP2 _ _ o1 (.exit 0) (Qed p0 p1) .ret (Qee p0 p1)) (And.intro (Qk4 (τ := Qco p0 p1 0) ?_ (TL.loop (Qtx p0 p1 0 o1 ho))) (Qke (λy2 hy=>?_) (λy3 hy=>?_)))
 .exact Le.ty 0 0
 .have h:=(by rw[hy] at hk; exact hk);refine Qan (t:=Qci) h ?_;exact .refl _
 .have h:=(by rw[hy] at hk; exact hk);refine Qan (t:=Qci) h ?_;exact .refl _
def Qbb (p0:(List (List UInt8))) (p1:(List UInt8)):Option (Bool) :=
 Qcs p0 p1>>=λx1 =>
 some (decide (x1 >= 0))
theorem Qef:∀ (p0:(List (List UInt8))) (p1:(List UInt8)) (o:Bool),Qbb p0 p1=some o->PCall Tryz.prog 41 [.sl false (p0.map cStr),sV p1] (Qb3 o):=by
 intro p0 p1 o h;unfold Qbb at h;refine PCall.ofY Qic Tryz.func41 ?_;refine Qas [.sl false (p0.map cStr),sV p1] Qci h (λx1 hy=>(Qkm p0 p1 x1 hy)) (λx1 hy h=>?_);refine Qan (t:=Qb3) h ?_;exact .refl _
def Qeb (p0:(List Qad)) (x10:(List ((List UInt8)×(List (List UInt8))))) (v85:Int):Option (Unit⊕(List UInt8)) :=
 if(decide (v85<(p0.length:Int))) then
  idx p0 v85>>=λx22 =>
  Qfc ((mget (λa b=>a==b) x22.Name x10).getD []) x10>>=λx23 =>
  Qbb x23 x22.Name>>=λx24 =>
  if x24 then
   some (.inr x22.Name)
  else
   Qeb p0 x10 (wr (v85+1))
 else
  some (.inl ())
 partial_fixpoint
theorem Qabh:∀ (p0:(List Qad)) (x10:(List ((List UInt8)×(List (List UInt8))))),(∀ (v85:Int) (o19:Unit⊕(List UInt8)),Qeb p0 x10 v85=some o19->TL (0,0) Tryz.prog 102 Qwd (JP2 (0,0) 102 o19 (.exit 6) (Qnh p0 x10) .ret (Qni p0 x10)) (Qiy p0 x10 v85)):=by
 intro p0 x10;refine Qeb.partial_correctness p0 x10 _ ?_;intro Qeb' iQeb v85 o19 h;refine TL.round (Qaq mixed tbOk (lv:=Qgm) _ _ _ ?_);refine Qae h (λhb h=>?_) (λhb h=>?_)
 .refine Qbu (l:=p0) (c:=Qai) (c' := Qai) h (λ_=>rfl) (λ_=>rfl) (by decide) (λx22 hi h=>?_);refine And.intro (by decide +kernel) (And.intro rfl ?_);refine And.intro rfl ?_;refine Qsl (l:=x10) (k:=x22.Name) (λa b=>a==b) (ck:=sV) (ca:=(λx =>.sl false (x.map cStr))) (z0:=[]) (by exact rfl) (by exact rfl) (by exact rfl) (by exact λ_ _=>rfl) (by exact rfl) (by exact .not) ?_;refine Qob (λx23=>(Qhp x23).ren [0] []) h (λx23 hy=>(Qsw ((mget (λa b=>a==b) x22.Name x10).getD []) x10 x23 hy).fd rfl rfl [0] rfl rfl) (λx23 hy h=>?_);refine Qda [.sl false (x23.map cStr),sV x22.Name] Qb3 h (λx24 hy=>(Qef x23 x22.Name x24 hy)) (λx24 hy h=>?_);refine Qae h (λhb h=>?_) (λhb h=>?_)
  .exact JP2.b h (Le.ty 2 0)
  .refine TL.le (τ := Qiy p0 x10 (wr (v85+1))) ?_ ((iQeb (wr (v85+1)) _ h));exact Le.ty 2 0
 .exact JP2.a h (Le.ty 2 0)
mutual
def Qdd (p0:(List Qaa)) (h0_0:(List (List UInt8))):Option ((List (List UInt8))) :=
 (Qdq p0 0 h0_0)>>=λo1 =>
 some o1
 partial_fixpoint
def Qdq (p0:(List Qaa)) (v8:Int) (h0_0_:(List (List UInt8))):Option ((List (List UInt8))) :=
 if(decide (v8<(p0.length:Int))) then
  idx p0 v8>>=λx2 =>
  ( if(x2.Kind==13) then
    appL 16 h0_0_ [x2.Name]>>=λx4 =>
    some x4
   else
    some h0_0_:Option ((List (List UInt8))))>>=λo3 =>
  Qdd x2.Then o3>>=λx5 =>
  Qdd x2.Else x5>>=λx6 =>
  Qdq p0 (wr (v8+1)) x6
 else
  some h0_0_
 partial_fixpoint
end
theorem Qwh:(∀ (p0:(List Qaa)) (h0_0:(List (List UInt8))) (o:(List (List UInt8))),Qdd p0 h0_0=some o->CallOK Tryz.prog 99 [.p (.sl false (p0.map Qab)),.ptr 0 0,.ptr 1 0] ⟨[[.x 0 (h0_0.length+1) (.sl 9 1 (h0_0.map cStr))],[.fn (.func 99) [] [.ptr 0 0,.ptr 1 0]]],[(h0_0.length+1)]⟩ (Qmy o) ⟨[[.x 0 (o.length+1) (.sl 9 1 (o.map cStr))],[.fn (.func 99) [] [.ptr 0 0,.ptr 1 0]]],[(o.length+1)]⟩)/\(∀ (p0:(List Qaa)) (v8:Int) (h0_0_:(List (List UInt8))) (o1:(List (List UInt8))),Qdq p0 v8 h0_0_=some o1->TL (2,1) Tryz.prog 29 Qu8 (JP1 (2,1) 29 o1 (.exit 0) (Ql9 p0)) (Qho p0 v8 h0_0_)):=by
 refine Qdd.mutual_partial_correctness _ _ ?_ ?_
 .intro Qdq' iQdq p0 h0_0 o h;refine CallOK.ofB mixed tbOk Qp6 Tryz.func99 rfl (by kernel_rfl) (Nat.le_of_ble_eq_true rfl) rfl rfl rfl ?_;refine view (Qcz _ _) rfl ?_;refine Qaj h (λo1 ho hk=>?_);refine Exists.intro (JP1 _ _ o1 (.exit 0) (Ql9 p0)) (And.intro (Qk4 (τ := Qho p0 0 h0_0) ?_ (TL.loop (iQdq p0 0 h0_0 o1 ho))) (Qa5 ?_))
  .exact Le.ty 2 1
  have h:=hk;refine Exists.intro _ (And.intro (Le.refl _ _ _) ?_);exact Qb2 (t:=Qmy) (ss:=λo=>⟨[[.x 0 (o.length+1) (.sl 9 1 (o.map cStr))],[.fn (.func 99) [] [.ptr 0 0,.ptr 1 0]]],[(o.length+1)]⟩) h ⟨[0],rfl,.refl _,.refl _,rfl⟩
 .intro Qdd' Qdq' iQdd iQdq p0 v8 h0_0_ o1 h;refine TL.round (Qaq mixed tbOk (lv:=Qp6) _ _ _ ?_);refine Qae h (λhb h=>?_) (λhb h=>?_)
  .refine Qbu (l:=p0) (c:=Qab) (c' := Qbn) h Qar (λ_=>rfl) (by decide) (λx2 hi h=>?_);refine Qaj h (λo3 ho hk=>?_);refine Exists.intro (JP1 _ _ o3 .normal (Qu7 p0 v8 x2)) (And.intro ?_ (Qa5 ?_))
   .have h:=ho;refine Qae h (λhb h=>?_) (λhb h=>?_)
    .refine Qaha (a:=h0_0_) (b:=[x2.Name]) (c:=cStr) h (.refl _) (λ_=>rfl) rfl rfl (Nat.zero_lt_succ _) (λx4 hi h=>?_);exact JP1.a h (Le.ty 3 1)
    .exact JP1.a h (Le.ty 3 1)
   .have h:=hk;refine Qam _ _ h (λx5 hy=>((iQdd x2.Then o3 x5 hy).fr [0,1] [0] rfl rfl rfl)) (λx5 hy h=>?_);refine Qam _ _ h (λx6 hy=>((iQdd x2.Else x5 x6 hy).fr [0,1] [0] rfl rfl rfl)) (λx6 hy h=>?_);refine TL.le (τ := Qho p0 (wr (v8+1)) x6) ?_ ((iQdq p0 (wr (v8+1)) x6 _ h));exact Le.ty 2 1
  .exact JP1.a h (Le.ty 2 1)
theorem Qyx:∀ (p0:(List Qaa)) (h0_0:(List (List UInt8))) (o:(List (List UInt8))),Qdd p0 h0_0=some o->CallOK Tryz.prog 99 [.p (.sl false (p0.map Qab)),.ptr 0 0,.ptr 1 0] ⟨[[.x 0 (h0_0.length+1) (.sl 9 1 (h0_0.map cStr))],[.fn (.func 99) [] [.ptr 0 0,.ptr 1 0]]],[(h0_0.length+1)]⟩ (Qmy o) ⟨[[.x 0 (o.length+1) (.sl 9 1 (o.map cStr))],[.fn (.func 99) [] [.ptr 0 0,.ptr 1 0]]],[(o.length+1)]⟩:=λp0 h0_0=>Qwh.1 p0 h0_0
def Qnr (p0:(List Qaa)):Option ((List (List UInt8))) :=
 Qdd p0 []>>=λx1 =>
 need (x1.length<4611686018427387904)>>=λ_ =>
 need ((srtL x1).length<4611686018427387904)>>=λ_ =>
 some (Lib.compact (srtL x1))
theorem Q4f:∀ (p0:(List Qaa)) (o:(List (List UInt8))),Qnr p0=some o->CallOK Tryz.prog 73 [.p (.sl false (p0.map Qab))] ⟨[],[]⟩ (Qp5 o) ⟨[],[]⟩:=by
 intro p0 o h;unfold Qnr at h;refine CallOK.ofB mixed tbOk Q3u Tryz.func73 rfl (by kernel_rfl) (Nat.le_of_ble_eq_true rfl) rfl rfl rfl ?_;refine Exists.intro _ (And.intro (Le.xnil (.h 0 0) 9 1 rfl) ?_);refine Qam _ _ h (λx1 hy=>((Qyx p0 [] x1 hy).fr [0,1] [0] rfl rfl rfl)) (λx1 hy h=>?_);refine Q3g h (λhn0 h=>?_);refine Or.inl ?_;refine⟨rfl,rfl,_,false,x1,(srtL x1),_,rfl,rfl,Qah6  hn0 ,rfl,rfl,?_⟩;refine Q3g h (λhn0 h=>?_);refine Or.inl ?_;refine⟨rfl,rfl,_,true,(srtL x1),(Lib.compact (srtL x1)),_,rfl,rfl,Qaey  hn0 ,rfl,?_⟩;refine Exists.intro _ (And.intro (Le.trans (τ := ⟨[(2,.x 0 (((x1.length+1)+1)+1) (.sl 9 1 ((Lib.compact (srtL x1)).map cStr)))],⟨[],[(((x1.length+1)+1)+1)]⟩⟩) (Le.ty 0 1) (Le.trans (τ := ⟨[(2,.x 0 (((x1.length+1)+1)+1) (.sl 9 1 ((Lib.compact (srtL x1)).map cStr)))],⟨[],[(((x1.length+1)+1)+1)]⟩⟩) (Le.ty 0 1) ((Le.verh 2 0 (((x1.length+1)+1)+1) 1 rfl rfl rfl rfl).trans ((Le.frzv (.s 2) 0 1 rfl rfl rfl rfl).trans (Le.refl _ _ _))))) ?_);exact Qb2 (t:=Qp5) (ss:=λo=>⟨[],[]⟩) h ⟨[],rfl,.refl _,.refl _,rfl⟩
def Qde (p0:(List Qad)) (v12:Int) (h1_0:(List ((List UInt8)×(List (List UInt8))))):Option (((List ((List UInt8)×(List (List UInt8)))))) :=
 if(decide (v12<(p0.length:Int))) then
  idx p0 v12>>=λx2 =>
  if(!((mget (λa b=>a==b) x2.Name h1_0).isSome)) then
   Qnr x2.L>>=λx3 =>
   Qde p0 (wr (v12+1)) (mset (λa b=>a==b) x2.Name x3 h1_0)
  else
   Qde p0 (wr (v12+1)) h1_0
 else
  some h1_0
 partial_fixpoint
theorem Qabi:∀ (p0:(List Qad)),(∀ (v12:Int) (h1_0:(List ((List UInt8)×(List (List UInt8))))) (o1:((List ((List UInt8)×(List (List UInt8)))))),Qde p0 v12 h1_0=some o1->TL (0,0) Tryz.prog 35 Qwe (JP1 (0,0) 35 o1 (.exit 0) (Qnj p0)) (Qf9 p0 v12 h1_0)):=by
 intro p0;refine Qde.partial_correctness p0 _ ?_;intro Qde' iQde v12 h1_0 o1 h;refine TL.round (Qaq mixed tbOk (lv:=Qr9) _ _ _ ?_);refine Qae h (λhb h=>?_) (λhb h=>?_)
 .refine Qbu (l:=p0) (c:=Qai) (c' := Qai) h (λ_=>rfl) (λ_=>rfl) (by decide) (λx2 hi h=>?_);refine Qsl (l:=h1_0) (k:=x2.Name) (λa b=>a==b) (ck:=sV) (ca:=(λx =>.sl false (x.map cStr))) (z0:=[]) (by exact rfl) (by exact rfl) (by exact rfl) (by exact λ_ _=>rfl) (by exact rfl) (by exact .not) ?_;refine Qae h (λhb h=>?_) (λhb h=>?_)
  .refine And.intro (by decide +kernel) (And.intro (by decide +kernel) (And.intro rfl ?_));refine Qob (λx3=>(Qp5 x3).ren [] []) h (λx3 hy=>(Q4f x2.L x3 hy).fd rfl rfl [] rfl rfl) (λx3 hy h=>?_);refine Qabc (l:=h1_0) (k:=x2.Name) (x:=x3) (λa b=>a==b) (ck:=sV) (ca:=(λx =>.sl false (x.map cStr))) (by exact rfl) (by exact rfl) (by exact rfl) (by exact .refl _) (by exact λ_ _=>rfl) ?_;refine TL.le (τ := Qf9 p0 (wr (v12+1)) (mset (λa b=>a==b) x2.Name x3 h1_0)) ?_ ((iQde (wr (v12+1)) (mset (λa b=>a==b) x2.Name x3 h1_0) _ h));exact Le.ty 3 0
  .refine TL.le (τ := Qf9 p0 (wr (v12+1)) h1_0) ?_ ((iQde (wr (v12+1)) h1_0 _ h));exact Le.ty 3 0
 .exact JP1.a h (Le.ty 3 0)
def Qlr (p0:(List Qad)):Option ((List ((List UInt8)×(List (List UInt8))))) :=
 (Qde p0 0 [])>>=λo1 =>
 some o1
theorem Q0s:∀ (p0:(List Qad)) (o:(List ((List UInt8)×(List (List UInt8))))),Qlr p0=some o->CallOK Tryz.prog 40 [.p (.sl false (p0.map Qai))] ⟨[],[]⟩ (Qtr o) ⟨[[mpD sV (λx =>.sl false (x.map cStr)) o]],[]⟩:=by
 intro p0 o h;unfold Qlr at h;refine CallOK.ofBN mixed tbOk Qr9 Tryz.func40 rfl (by kernel_rfl) (Nat.le_of_ble_eq_true rfl) rfl rfl (Nat.le_of_ble_eq_true rfl) ?_;refine And.intro rfl (Exists.intro false ?_);refine view (Qcz _ _) rfl ?_;refine Qaj h (λo1 ho hk=>?_);refine Exists.intro (JP1 _ _ o1 (.exit 0) (Qnj p0)) (And.intro (Qk4 (τ := Qf9 p0 0 []) ?_ (TL.loop (Qabi p0 0 [] o1 ho))) (Qa5 ?_))
 .exact Le.ty 3 0
 have h:=hk;refine Exists.intro _ (And.intro (Le.refl _ _ _) ?_);refine Qai7 (t:=Qtr) (ss:=λo=>⟨[[mpD sV (λx =>.sl false (x.map cStr)) o]],[]⟩) h ?_;exact⟨[1],[],rfl,rfl,.refl _,.refl _,rfl,rfl⟩
def Qls (p0:(List Qad)):Option ((List UInt8)×Int) :=
 if(decide ((p0.length:Int)>16)) then
  some ([],5)
 else
  (Qd8 p0 0)>>=λo1 =>
  match o1 with
  | .inl y2 =>
   Qlr p0>>=λx10 =>
   (Qea p0 x10 0)>>=λo11 =>
   match o11 with
   | .inl y12 =>
    (Qeb p0 x10 0)>>=λo19 =>
    match o19 with
    | .inl y20 =>
     some ([],0)
    | .inr y21 =>
     some (y21,10)
   | .inr y13 =>
    some (y13,4)
  | .inr y3 =>
   some (y3.1,y3.2)
theorem Q0t:∀ (p0:(List Qad)) (o:(List UInt8)×Int),Qls p0=some o->PCall Tryz.prog 13 [.sl false (p0.map Qai)] (Qen o):=by
 intro p0 o h;unfold Qls at h;refine PCall.ofY Qgm Tryz.func13 ?_;refine view (Qcz _ _) rfl ?_;refine Qae h (λhb h=>?_) (λhb h=>?_)
 .refine Qan (t:=Qen) h ?_;exact .refl _
 .refine view (Qcz _ _) rfl ?_;refine Qaj h (λo1 ho hk=>?_);refine Exists.intro (JP2 _ _ o1 (.exit 0) (Qnb p0) .ret (Qnc p0)) (And.intro (Qk4 (τ := Qiv p0 0) ?_ (TL.loop (Qabe p0 0 o1 ho))) (Qke (λy2 hy=>?_) (λy3 hy=>?_)))
  .exact Le.ty 0 0
  .have h:=(by rw[hy] at hk; exact hk);refine Qam _ _ h (λx10 hy=>((Q0s p0 x10 hy).frN [] [] rfl rfl rfl)) (λx10 hy h=>?_);refine view (Qcz _ _) rfl ?_;refine Qaj h (λo11 ho hk=>?_);refine Exists.intro (JP2 _ _ o11 (.exit 2) (Qnf p0 x10) .ret (Qng p0 x10)) (And.intro (Qk4 (τ := Qix p0 x10 0) ?_ (TL.loop (Qabg p0 x10 0 o11 ho))) (Qke (λy12 hy=>?_) (λy13 hy=>?_)))
   .exact Le.ty 2 0
   .have h:=(by rw[hy] at hk; exact hk);refine view (Qcz _ _) rfl ?_;refine Qaj h (λo19 ho hk=>?_);refine Exists.intro (JP2 _ _ o19 (.exit 6) (Qnh p0 x10) .ret (Qni p0 x10)) (And.intro (Qk4 (τ := Qiy p0 x10 0) ?_ (TL.loop (Qabh p0 x10 0 o19 ho))) (Qke (λy20 hy=>?_) (λy21 hy=>?_)))
    .exact Le.ty 2 0
    .have h:=(by rw[hy] at hk; exact hk);refine Qan (t:=Qen) h ?_;exact .refl _
    .have h:=(by rw[hy] at hk; exact hk);refine Qan (t:=Qen) h ?_;exact .refl _
   .have h:=(by rw[hy] at hk; exact hk);refine Qan (t:=Qen) h ?_;exact .refl _
  .have h:=(by rw[hy] at hk; exact hk);refine Qan (t:=Qen) h ?_;exact .refl _
end Go.Proofs.YtfgegilhjlnohaaGreat
end

noncomputable section
namespace Go.Proofs.YtfgegilhjlnohaaGreat
open Go.RowKit
set_option linter.unusedSimpArgs false
set_option linter.unusedVariables false
mutual
def nn:Qaa->Nat
 | ⟨_,_,_,_,a,b,c⟩=>1+nns a+nns b+nns c
def nns:List Qaa->Nat
 | []=>0
 | x::r=>nn x+nns r
end
mutual
def dp:Qaa->Nat
 | ⟨_,_,_,_,a,b,c⟩=>1+max (dps a) (max (dps b) (dps c))
def dps:List Qaa->Nat
 | []=>0
 | x::r=>max (dp x) (dps r)
end
mutual
def sm:Qaa->Prop
 | ⟨_,s,t,_,a,b,c⟩=>s.length<=40/\t.length<=60/\sms a/\sms b/\sms c
def sms:List Qaa->Prop
 | []=>True
 | x::r=>sm x/\sms r
end
theorem Qi3(x:Qaa):nn x=1+nns x.L+nns x.Then+nns x.Else:=by cases x; rw[nn]
theorem Qahg(x:Qaa):dp x=1+max (dps x.L) (max (dps x.Then) (dps x.Else)):=by cases x; rw[dp]
theorem Qam6(x:Qaa):sm x↔(x.Name.length<=40/\x.Text.length<=60/\sms x.L/\sms x.Then/\sms x.Else):=by cases x; rw[sm]
theorem Qkv(x:Qaa):1<=nn x:=by rw[Qi3]; omega
theorem Qfj:∀ l:List Qaa,l.length<=nns l
 | []=>by simp[nns]
 | x::r=>by have:=Qfj r; have:=Qkv x; simp[nns]; omega
theorem Qfk:∀ {l:List Qaa} {x:Qaa},x ∈ l->nn x<=nns l
 | y::r,x,h=>by
  rcases List.mem_cons.1 h with rfl | h
  .simp[nns]
  .have:=Qfk h; simp[nns]; omega
section
end
section
end
def Qvw(c:UInt8):Bool:=decide (97<=c.toNat)&&decide (c.toNat<=122)
def digB(c:UInt8):Bool:=decide (48<=c.toNat)&&decide (c.toNat<=57)
def letB(c:UInt8):Bool:=Qvw c||(digB c||c.toNat==95)
def Qajb:List UInt8->Bool
 | []=>false
 | c::_=>decide (97<=c.toNat)
theorem Q17(c:UInt8)(r:List UInt8):Qajb (c::r)=decide (97<=c.toNat):=rfl
def Qm2(s:List UInt8):Bool := !(s==[])&&(decide (s.length<=32)&&(Qajb s&&s.all letB))
theorem geN(n k:Nat):decide ((n:Int) >= (k:Int))=decide (k<=n):=by
 by_cases h:k<=n
 .rw[decide_eq_true h,decide_eq_true (by omega:(n:Int) >= k)]
 .rw[decide_eq_false h,decide_eq_false (by omega)]
theorem leN(n k:Nat):decide ((n:Int)<=(k:Int))=decide (n<=k):=by
 by_cases h:n<=k
 .rw[decide_eq_true h,decide_eq_true (by omega:(n:Int)<=k)]
 .rw[decide_eq_false h,decide_eq_false (by omega)]
theorem eqN(n k:Nat):((n:Int)==(k:Int))=(n==k):=by
 by_cases h:n=k
 .subst h; simp
 .rw[beq_eq_false_iff_ne.2 h,beq_eq_false_iff_ne.2 (by omega)]
theorem Qak7(c:UInt8):Qnp (c.toNat:Int)=some (digB c):=by
 have a:=geN c.toNat 48;have b:=leN c.toNat 57;rw[Qnp];rw[show(48:Int)=((48:Nat):Int) from rfl,show(57:Int)=((57:Nat):Int) from rfl,a,b,digB];cases decide (48<=c.toNat)<;>rfl
theorem Qak8(c:UInt8):Qe8 (c.toNat:Int)=some (digB c):=by
 have a:=geN c.toNat 48;have b:=leN c.toNat 57;rw[Qe8];rw[show(48:Int)=((48:Nat):Int) from rfl,show(57:Int)=((57:Nat):Int) from rfl,a,b,digB];cases decide (48<=c.toNat)<;>rfl
theorem Qah8(c:UInt8):Qe9 (c.toNat:Int)=some (Qvw c):=by
 have a:=geN c.toNat 97;have b:=leN c.toNat 122;rw[Qe9];rw[show(97:Int)=((97:Nat):Int) from rfl,show(122:Int)=((122:Nat):Int) from rfl,a,b,Qvw];cases decide (97<=c.toNat)<;>rfl
theorem Qajc(c:UInt8):Qnq (c.toNat:Int)=some (letB c):=by
 have a:=geN c.toNat 97;have b:=leN c.toNat 122;have d:=eqN c.toNat 95;rw[Qnq,Qak7];rw[show(97:Int)=((97:Nat):Int) from rfl,show(122:Int)=((122:Nat):Int) from rfl,show(95:Int)=((95:Nat):Int) from rfl,a,b,d,letB,Qvw];simp only[Qac];cases decide (97<=c.toNat)<;>cases decide (c.toNat<=122)<;>cases digB c<;>cases (c.toNat==95)<;>rfl
theorem Qak9(s:List UInt8)(hs:s.length<9223372036854775807):∀ k,k<=s.length->Qg2 s k=some (if(s.drop k).all letB then .inl () else .inr ()):=by
 refine upto ?_ λk hk ih=>?_
 .rw[Qg2]; simp
 .rw[Qg2,Qa0 (by omega),ih];simp only[ltI,hk,decide_true,if_true,Qax,getE hk,Qac,Qajc];rw[Qce hk,List.all_cons];cases letB s[k]<;>rfl
theorem Qala(s:List UInt8)(hs:s.length<9223372036854775807):Qok s=some (Qm2 s):=by
 have h:=Qak9 s hs 0 (by omega);rw[Qok,show(0:Int)=((0:Nat):Int) from rfl,h,List.drop_zero,Qm2];have e:=leN s.length 32;rw[show(32:Int)=((32:Nat):Int) from rfl,e];cases ha:s.all letB with
 | false=>cases (s==[])<;>cases decide (s.length<=32)<;>cases Qajb s<;>rfl
 | true =>
  cases s with
  | nil=>rfl
  | cons c r =>
   have g:=geN c.toNat 97;rw[show(97:Int)=((97:Nat):Int) from rfl];simp only[if_true,Qac,Qax,List.getElem?_cons_zero,g,Q17];have e0:((c::r)==([]:List UInt8))=false:=rfl;rw[e0];cases decide ((c::r).length<=32)<;>simp
theorem Qahh{c:UInt8}(h:letB c=true):Qvw c=decide (97<=c.toNat):=by
 unfold letB Qvw digB at *;by_cases h1:97<=c.toNat
 .rw[decide_eq_true h1] at h ⊢;simp at h ⊢;omega
 .rw[decide_eq_false h1]; rfl
theorem Qalb(s:List UInt8)(hs:s.length<9223372036854775807):∀ k,k<=s.length->Qd7 s k=some (if(s.drop k).all letB then .inl () else .inr ()):=by
 refine upto ?_ λk hk ih=>?_
 .rw[Qd7]; simp
 .have d:=eqN s[k].toNat 95;rw[Qd7,Qa0 (by omega),ih];simp only[ltI,hk,decide_true,if_true,Qax,getE hk,Qac,Qah8,Qak8];rw[Qce hk,List.all_cons,letB];have e:(((s[k].toNat:Nat):Int) != 95) = !(s[k].toNat==95):=by rw[<-d]; rfl
  rw[e];cases Qvw s[k]<;>cases digB s[k]<;>cases (s[k].toNat==95)<;>rfl
theorem Qalc(s:List UInt8)(hs:s.length<9223372036854775807):Qgu s=some (Qm2 s):=by
 have h:=Qalb s hs 0 (by omega);rw[Qgu,show(0:Int)=((0:Nat):Int) from rfl,h,List.drop_zero,Qm2];cases s with
 | nil=>rfl
 | cons c r =>
  have e1:decide ((((c::r).length:Nat):Int)<1)=false:=decide_eq_false (by simp; omega);have e2:decide ((((c::r).length:Nat):Int)>32) = !(decide ((c::r).length<=32)):=by
   by_cases h:(c::r).length<=32
   .rw[decide_eq_true h,decide_eq_false (by omega)]; rfl
   .rw[decide_eq_false h,decide_eq_true (by omega)]; rfl
  simp only[e1,e2,Bool.false_eq_true,if_false,Qax,List.getElem?_cons_zero,Qac,Qah8,Q17];have e0:((c::r)==([]:List UInt8))=false:=rfl;rw[e0];cases ha:(c::r).all letB with
  | true =>
   have hl:letB c=true:=by rw[List.all_cons,Bool.and_eq_true] at ha; exact ha.1
   rw[Qahh hl];cases decide ((c::r).length<=32)<;>cases decide (97<=c.toNat)<;>rfl
  | false=>cases decide ((c::r).length<=32)<;>cases decide (97<=c.toNat)<;>cases Qvw c<;>rfl
theorem Qajd(a b:List UInt8):s2b (a++b)=s2b a++s2b b:=by simp[s2b]
theorem Qyy(a:List UInt8):(s2b a).length=a.length:=by simp[s2b]
theorem Qaje(l:List UInt8):b2s (s2b l)=some l:=by
 unfold b2s s2b;rw[if_pos]
 .rw[List.map_map];congr 1;have:∀ c:UInt8,((λn:Int=>UInt8.ofNat n.toNat) ∘ λc:UInt8=>(c.toNat:Int)) c=c:=λc=>by simp
  rw[show((λn:Int=>UInt8.ofNat n.toNat) ∘ λc:UInt8=>(c.toNat:Int))=id from funext this,List.map_id]
 .rw[List.all_eq_true];intro n hn;obtain⟨c,-,rfl⟩:=List.mem_map.1 hn;have:=c.toNat_lt;simp only[decide_eq_true_eq];omega
def kws:List (List UInt8):=[[105,102],[101,108,115,101],[101,110,100],[101,97,99,104],[105,110],[108,101,116],[117,115,101],[116,114,117,101],[102,97,108,115,101],[115,101,99,114,101,116]]
def Qfn(s:List UInt8):Bool := !(kws.any (· == s))&&Qm2 s
theorem Qajf(s:List UInt8)(hs:s.length<9223372036854775807):Qhw s=some (Qfn s):=by
 have c:∀ a:List UInt8,(a==s)=(s==a):=λa=>by rw[Bool.beq_comm]
 rw[Qhw,Qala s hs,Qfn];simp only[kws,List.any_cons,List.any_nil,c];generalize (s==[105,102])=a1;generalize (s==[101,108,115,101])=a2;generalize (s==[101,110,100])=a3;generalize (s==[101,97,99,104])=a4;generalize (s==[105,110])=a5;generalize (s==[108,101,116])=a6;generalize (s==[117,115,101])=a7;generalize (s==[116,114,117,101])=a8;generalize (s==[102,97,108,115,101])=a9;generalize (s==[115,101,99,114,101,116])=a10;generalize Qm2 s=b;cases a1
 .cases a2
  .cases a3
   .cases a4
    .cases a5
     .cases a6
      .cases a7
       .cases a8
        .cases a9
         .cases a10<;>cases b<;>rfl
         .rfl
        .rfl
       .rfl
      .rfl
     .rfl
    .rfl
   .rfl
  .rfl
 .rfl
theorem Qald(s:List UInt8)(l:List (List UInt8))(hl:l.length<9223372036854775807):∀ k,k<=l.length->Qdp s l k=some (if(l.drop k).any (· == s) then .inr () else .inl ()):=by
 refine upto ?_ λk hk ih=>?_
 .rw[Qdp]; simp
 .rw[Qdp,Qa0 (by omega),ih];simp only[ltI,hk,decide_true,if_true,Qax,getE hk,Qac];rw[Qce hk,List.any_cons];cases (l[k]==s)<;>rfl
theorem Qajg(s:List UInt8)(hs:s.length<9223372036854775807):Qga s=some (Qfn s):=by
 have h:=Qald s kws (by decide) 0 (by omega);rw[Qga,Qqh];simp only[Qac,Qalc s hs];rw[show(0:Int)=((0:Nat):Int) from rfl];show(Qdp s kws _>>=_)=_;rw[h,List.drop_zero,Qfn];cases kws.any (· == s)<;>rfl
theorem Q4g{s:List UInt8}(h:Qm2 s=true):(s==[])=false:=by
 unfold Qm2 at h;cases hs:(s==[]) with
 | false=>rfl
 | true=>rw[hs] at h; cases h
theorem Qyz{s:List UInt8}(h:Qfn s=true):Qm2 s=true:=by
 unfold Qfn at h;cases hw:Qm2 s with
 | true=>rfl
 | false=>rw[hw] at h; simp at h
def hasB:List UInt8->Bool
 | []=>false
 | c::r=>(c==123&&r.head? == some 123)||hasB r
theorem pre2(l:List UInt8):([123,123]:List UInt8).isPrefixOf l=(match l with | []=>false | c::r=>c==123&&r.head? == some 123):=by
 match l with
 | []=>rfl
 | [c]=>simp[List.isPrefixOf]
 | c::d::r =>
  simp only[List.isPrefixOf,List.head?_cons];have e1:(123==c)=(c==123):=Bool.beq_comm;have e2:(123==d)=(d==123):=Bool.beq_comm;rw[e1,e2];cases (c==123)<;>cases hd:(d==123)<;>simp_all
theorem Q7j:∀ l:List UInt8,decide (Lib.index l [123,123] >= 0)=hasB l
 | []=>rfl
 | c::r=>by
  have ih:=Q7j r;have hg:=Lib.index_ge r [123,123];have hp2:([123,123]:List UInt8).isPrefixOf (c::r)=(c==123&&r.head? == some 123):=pre2 (c::r);unfold Lib.index;rw[hp2,hasB];generalize (c==123&&r.head? == some 123)=b;cases b with
  | true=>rfl
  | false =>
   simp only[Bool.false_or];by_cases h1:Lib.index r [123,123] = -1
   .rw[h1] at ih ⊢;rw[<-ih]; rfl
   .rw[if_neg (by decide),if_neg (by simpa using h1),<-ih,decide_eq_true (by omega),decide_eq_true (by omega)]
theorem tHas(s:List UInt8)(hs:s.length<4294967281):Qfa s [123,123]=some (hasB s):=by
 rw[Qfa,Qk1,Qcq,Qp2 hs];simp only[Qac,Q7j]
theorem Qajh(s:List UInt8)(k:Nat)(hk:k<s.length)(hs:s.length<4294967281):Qei s [123,123] k=some (match s.drop k with | []=>false | c::r=>c==123&&r.head? == some 123):=by
 have e1:decide ((k:Int) >= 0)=true:=decide_eq_true (by omega);have e2:decide ((k:Int)<=(s.length:Int))=true:=decide_eq_true (by omega);have e3:wr ((s.length:Int)-k)=((s.length-k:Nat):Int):=by rw[Qff (by omega) (by omega)]; omega
 have e4:wr ((k:Int)+(([123,123]:List UInt8).length:Int))=((k+2:Nat):Int):=by rw[Qff (by simp; omega) (by simp; omega)]; simp
 rw[Qei,e1,e2,e3,e4];simp only[if_true];by_cases h2:2<=s.length-k
 .have e5:decide (((([123,123]:List UInt8).length:Nat):Int)<=((s.length-k:Nat):Int))=true:=decide_eq_true (by simp; omega);rw[e5,Qoc (by omega) (by omega) (by omega)];simp only[if_true,Qac];have hk1:k+1<s.length:=by omega
  have e6:(s.take (k+2)).drop k=[s[k],s[k+1]]:=by
   apply List.ext_getElem
   .simp; omega
   .intro i h1 h2;simp at h1 h2
    match i,h2 with
    | 0,_=>simp
    | 1,_=>simp
  rw[Int.toNat_natCast,Int.toNat_natCast,e6,Qce hk,Qce hk1];simp only[List.head?_cons];have:(([s[k],s[k+1]]:List UInt8)==[123,123])=(s[k]==123&&(some s[k+1]==some 123)):=by
   have e:(some s[k+1]==some (123:UInt8))=(s[k+1]==123):=rfl;rw[e,List.cons_beq_cons,List.cons_beq_cons];show(s[k]==123&&(s[k+1]==123&&true))=_;rw[Bool.and_true]
  rw[this]
 .have e5:decide (((([123,123]:List UInt8).length:Nat):Int)<=((s.length-k:Nat):Int))=false:=decide_eq_false (by simp; omega);rw[e5,Qce hk];have:s.drop (k+1)=[]:=List.drop_eq_nil_of_le (by omega);rw[this];simp
theorem Qahi(s:List UInt8)(hs:s.length<4294967281):∀ k,k<=s.length->Qhu s [123,123] k=some (if hasB (s.drop k) then .inr () else .inl ()):=by
 refine upto ?_ λk hk ih=>?_
 .rw[Qhu]; simp[hasB]
 .rw[Qhu,Qa0 (by omega),ih,Qajh s k hk hs];simp only[ltI,hk,decide_true,if_true,Qac];rw[Qce hk,hasB];show(if(s[k]==123&&(s.drop (k+1)).head? == some 123)=true then _ else _)=_;generalize (s[k]==123&&(s.drop (k+1)).head? == some 123)=b;cases b<;>rfl
theorem Qaji(s:List UInt8)(hs:s.length<4294967281):Qu9 s [123,123]=some (hasB s):=by
 have h:=Qahi s hs 0 (by omega);rw[Qu9,show(0:Int)=((0:Nat):Int) from rfl,h,List.drop_zero];cases hasB s<;>rfl
def endB(s:List UInt8):Bool:=s.getLast? == some 123
theorem tEnd(s:List UInt8)(hs:s.length<4294967281):Qch s [123]=some (endB s):=by
 rw[Qch,Qb5,endB];cases hl:s.getLast? with
 | none =>
  have:s=[]:=List.getLast?_eq_none_iff.1 hl;subst this;rfl
 | some c =>
  have hne:s≠[]:=λh=>by subst h; cases hl
  have hpos:0<s.length:=List.length_pos_iff.2 hne;have e1:decide ((s.length:Int) >= ((([123]:List UInt8).length:Nat):Int))=true:=decide_eq_true (by simp; omega);have e2:wr ((s.length:Int)-((([123]:List UInt8).length:Nat):Int))=((s.length-1:Nat):Int):=by rw[Qff (by simp; omega) (by simp; omega)]; simp; omega
  rw[e1,e2,Qoc (by omega) (by omega) (by omega)];simp only[if_true,Qac,Int.toNat_natCast,List.take_length];have e3:s.drop (s.length-1)=[c]:=by
   have h1:s.length-1<s.length:=by omega
   rw[Qce h1,List.drop_eq_nil_of_le (by omega)];rw[List.getLast?_eq_getElem?,getE h1] at hl;cases hl; rfl
  rw[e3];simp
theorem rEnd(s:List UInt8)(hs:s.length<4294967281)(hne:(s==[])=false):(idx s (wr ((s.length:Int)-1))>>=λx=>some ((x.toNat:Int)==123))=some (endB s):=by
 have hne:s≠[]:=λh=>by subst h; cases hne
 have hpos:0<s.length:=List.length_pos_iff.2 hne;have e2:wr ((s.length:Int)-1)=((s.length-1:Nat):Int):=by rw[Qff (by omega) (by omega)]; omega
 have h1:s.length-1<s.length:=by omega
 rw[e2,Qax,getE h1,Qac,endB,List.getLast?_eq_getElem?,getE h1];have d:=eqN s[s.length-1].toNat 123;rw[show(123:Int)=((123:Nat):Int) from rfl,d];congr 1;by_cases h:s[s.length-1]=123
 .rw[h]; rfl
 .have:s[s.length-1].toNat≠123:=λe=>h (UInt8.toNat_inj.1 (by rw[e]; rfl))
  rw[beq_eq_false_iff_ne.2 this]
  symm
  rw[beq_eq_false_iff_ne];intro e; exact h (Option.some.inj e)
mutual
def allN(Q:Qaa->Prop):Qaa->Prop
 | ⟨k,s,t,n,a,b,c⟩=>Q ⟨k,s,t,n,a,b,c⟩/\allL Q a/\allL Q b/\allL Q c
def allL(Q:Qaa->Prop):List Qaa->Prop
 | []=>True
 | x::r=>allN Q x/\allL Q r
end
theorem Qsx(Q:Qaa->Prop)(x:Qaa):allN Q x↔(Q x/\allL Q x.L/\allL Q x.Then/\allL Q x.Else):=by cases x; rw[allN]
theorem Qol{Q:Qaa->Prop}:∀ {l:List Qaa} {x:Qaa},x ∈ l->allL Q l->allN Q x
 | y::r,x,h,hs=>by
  rw[allL] at hs;rcases List.mem_cons.1 h with rfl | h
  .exact hs.1
  .exact Qol h hs.2
theorem Qafd{R Q:Qaa->Prop}(h:∀ x:Qaa,x.Name.length<=40->x.Text.length<=60->R x->Q x):∀ n (l:List Qaa),nns l<=n->sms l->allL R l->allL Q l:=by
 intro n
 induction n with
 | zero=>intro l hn _; cases l with
  | nil=>intro _; rw[allL]; trivial
  | cons x r=>have:=Qkv x; simp[nns] at hn; omega
 | succ n ih =>
  intro l
  induction l with
  | nil=>intro _ _ _; rw[allL]; trivial
  | cons x r ihr =>
   intro hn hs hr;rw[nns,Qi3] at hn;rw[sms,Qam6] at hs;obtain⟨⟨h1,h2,h3,h4,h5⟩,h6⟩:=hs;rw[allL,Qsx] at hr ⊢;obtain⟨⟨g1,g2,g3,g4⟩,g5⟩:=hr;exact⟨⟨h x h1 h2 g1,ih _ (by omega) h3 g2,ih _ (by omega) h4 g3,ih _ (by omega) h5 g4⟩,ihr (by omega) h6 g5⟩
structure okNd (x:Qaa):Prop where
 nm:x.Name.length<=1000000
 tx:x.Text.length<=1000000
 rg : -9223372036854775808<=x.N/\x.N<=9223372036854775807
 qt:x.Kind=1->∃ q,Qjy x.Text=some q/\Qqg x.Text=some q
def Q18 (s:List UInt8):List UInt8×Bool:=(Qjy s).getD ([],false)
def zl(l:List Qaa):Bool:=l.length==0
mutual
def Q0u:Qaa->Bool
 | ⟨k,s,t,n,a,b,c⟩ =>
  if k==1 then(Q18 t).2&&(s==[]&&(n==0&&(zl a&&(zl b&&zl c)))) else
  if k==2 then s==[]&&(t==[]&&(zl a&&(zl b&&zl c))) else
  if k==3 then(n==0||n==1)&&(s==[]&&(t==[]&&(zl a&&(zl b&&zl c)))) else
  if k==4 then Qfn s&&(t==[]&&(n==0&&(zl a&&(zl b&&zl c)))) else
  if k==5 then Qm2 s&&(a.length==1&&(Qc2 a&&(t==[]&&(n==0&&(zl b&&zl c))))) else
  if k==6 then Qfn s&&(decide (a.length<=3)&&(Qc2 a&&(t==[]&&(n==0&&(zl b&&zl c))))) else
  if k==7 then Qm2 s&&(t==[]&&(n==0&&(zl a&&(zl b&&zl c)))) else false
def Qc2:List Qaa->Bool
 | []=>true
 | x::r=>Q0u x&&Qc2 r
end
theorem Qmf(x:Qaa):Q0u x =
  if x.Kind==1 then(Q18 x.Text).2&&(x.Name==[]&&(x.N==0&&(zl x.L&&(zl x.Then&&zl x.Else)))) else
  if x.Kind==2 then x.Name==[]&&(x.Text==[]&&(zl x.L&&(zl x.Then&&zl x.Else))) else
  if x.Kind==3 then(x.N==0||x.N==1)&&(x.Name==[]&&(x.Text==[]&&(zl x.L&&(zl x.Then&&zl x.Else)))) else
  if x.Kind==4 then Qfn x.Name&&(x.Text==[]&&(x.N==0&&(zl x.L&&(zl x.Then&&zl x.Else)))) else
  if x.Kind==5 then Qm2 x.Name&&(x.L.length==1&&(Qc2 x.L&&(x.Text==[]&&(x.N==0&&(zl x.Then&&zl x.Else))))) else
  if x.Kind==6 then Qfn x.Name&&(decide (x.L.length<=3)&&(Qc2 x.L&&(x.Text==[]&&(x.N==0&&(zl x.Then&&zl x.Else))))) else
  if x.Kind==7 then Qm2 x.Name&&(x.Text==[]&&(x.N==0&&(zl x.L&&(zl x.Then&&zl x.Else)))) else false:=by cases x; rw[Q0u]
theorem zI(l:List Qaa):((l.length:Int)==0)=zl l:=eqN l.length 0
theorem gI(l:List Qaa):decide ((l.length:Int)>0) = !zl l:=by
 unfold zl;by_cases h:l.length=0
 .rw[h]; rfl
 .rw[beq_eq_false_iff_ne.2 h,decide_eq_true (by omega)]; rfl
theorem oneI(l:List Qaa):((l.length:Int)==1)=(l.length==1):=eqN l.length 1
theorem low1(a:BitVec 64):a &&& ~~~1#64=0#64↔(a=0#64\/a=1#64):=by
 constructor
 .intro h;have hb:∀ i,0<i->a.getLsbD i=false:=λi hi=>by
   have:=congrArg (λx:BitVec 64=>x.getLsbD i) h;simp only[BitVec.getLsbD_and,BitVec.getLsbD_not,BitVec.getLsbD_zero] at this;by_cases h64:i<64
   .have h1:(1#64).getLsbD i=false:=by simp[BitVec.getLsbD_one]; omega
    rw[h1] at this;simpa [h64] using this
   .exact BitVec.getLsbD_of_ge a i (by omega)
  cases h0:a.getLsbD 0 with
  | false =>
   left;apply BitVec.eq_of_getLsbD_eq;intro i _;by_cases hi:i=0
   .subst hi; rw[h0]; simp
   .rw[hb i (by omega)]; simp
  | true =>
   right;apply BitVec.eq_of_getLsbD_eq;intro i _;by_cases hi:i=0
   .subst hi; rw[h0]; simp
   .rw[hb i (by omega)]; simp[BitVec.getLsbD_one]; omega
 .rintro (h | h)<;>subst h<;>decide
theorem ofI{n:Int}(h1 : -9223372036854775808<=n)(h2:n<=9223372036854775807)(m:Int)(h3:0<=m)(h4:m<=1):BitVec.ofInt 64 n=BitVec.ofInt 64 m↔n=m:=by
 constructor
 .intro h;have:=congrArg BitVec.toInt h;rw[BitVec.toInt_ofInt,BitVec.toInt_ofInt,Int.bmod_def,Int.bmod_def] at this;simp only[show(((2:Nat) ^ 64:Nat):Int)=18446744073709551616 from rfl] at this;split at this<;>split at this<;>omega
 .intro h; rw[h]
theorem Qam7(m:Nat)(h:m<18446744073709551616):(IntKind.i64.wrap (m:Int)=0)↔m=0:=by
 rw[IntKind.wrap_i64];omega
theorem Qale(n:Int)(h1 : -9223372036854775808<=n)(h2:n<=9223372036854775807):((bits .andNot .i64 n 1)==0)=(n==0||n==1):=by
 have hw:=Qam7 (BitVec.ofInt 64 n &&& ~~~(BitVec.ofInt 64 1)).toNat (BitVec.isLt _);have e:bits .andNot .i64 n 1=IntKind.i64.wrap ((BitVec.ofInt 64 n &&& ~~~(BitVec.ofInt 64 1)).toNat:Int):=rfl;have e2:(BitVec.ofInt 64 n &&& ~~~(BitVec.ofInt 64 1)).toNat=0↔(n=0\/n=1):=by
  have z:(BitVec.ofInt 64 n &&& ~~~(BitVec.ofInt 64 1)).toNat=0↔BitVec.ofInt 64 n &&& ~~~1#64=0#64:=by
   constructor
   .intro h; exact BitVec.eq_of_toNat_eq h
   .intro h; exact congrArg BitVec.toNat h
  rw[z,low1];have a0:=ofI h1 h2 0 (by omega) (by omega);have a1:=ofI h1 h2 1 (by omega) (by omega);rw[<-a0,<-a1];exact Iff.rfl
 rw[e2] at hw;rw[e];by_cases h:n=0\/n=1
 .rw[hw.2 h];rcases h with h | h<;>subst h<;>rfl
 .have:¬ IntKind.i64.wrap ((BitVec.ofInt 64 n &&& ~~~(BitVec.ofInt 64 1)).toNat:Int)=0:=λk=>h (hw.1 k)
  rw[beq_eq_false_iff_ne.2 this];simp only[not_or] at h;rw[beq_eq_false_iff_ne.2 h.1,beq_eq_false_iff_ne.2 h.2];rfl
section
variable (n:Nat) (ih:∀ x:Qaa,nn x<=n->allN okNd x->Qfb x=some (Q0u x))
include ih
theorem Qalf(l:List Qaa)(h:nns l<=n)(ho:allL okNd l)(hl:l.length<9223372036854775807):∀ k,k<=l.length->∃ r,Qat l k=some r /\
  (match r with | .inl _=>Qc2 (l.drop k)=true | .inr v=>0<=v/\Qc2 (l.drop k)=false):=by
 refine upto ?_ λk hk ihk=>?_
 .rw[Qat];refine⟨.inl (),by simp,?_⟩;simp[Qc2]
 .have hx:=Qfk (List.getElem_mem hk);rw[Qat,Qa0 (by omega)];simp only[ltI,hk,decide_true,if_true,Qax,getE hk,Qac,Qsv,ih l[k] (by omega) (Qol (List.getElem_mem hk) ho)];rw[Qce hk];simp only[Qc2];cases he:Q0u l[k] with
  | true =>
   obtain⟨r,h1,h2⟩:=ihk;refine⟨r,by simpa using h1,?_⟩;simpa using h2
  | false=>exact⟨.inr k,by simp,by omega,rfl⟩
end
theorem Qam8:∀ n (x:Qaa),n<1000000000->nn x<=n->allN okNd x->Qfb x=some (Q0u x):=by
 intro n
 induction n with
 | zero=>intro x _ h; have:=Qkv x; omega
 | succ n ih =>
  intro x hb h ho;rw[Qi3] at h;obtain⟨hq,ho1,-,-⟩:=(Qsx okNd x).1 ho;have hnm:=hq.nm;rw[Qfb,Qhg,Qmf,Qajf x.Name (by omega),Qala x.Name (by omega)];simp only[Qac,gI,Qale _ hq.rg.1 hq.rg.2];have e2:(x.N != 0) = !(x.N==0):=rfl;have e3:((x.L.length:Int)==0)=zl x.L:=zI x.L;have e4:((x.L.length:Int)==1)=(x.L.length==1):=oneI x.L;simp only[e2,e3,e4];by_cases k1:x.Kind=1
  .obtain⟨q,q1,q2⟩:=hq.qt k1;simp only[k1,beq_self_eq_true,if_true,q1,Qac,Q18,Option.getD_some];generalize (x.Name==[])=a1;generalize (x.Text==[])=a2;generalize (x.N==0)=a3;generalize zl x.L=a4;generalize zl x.Then=a5;generalize zl x.Else=a6;cases q.2<;>cases a1<;>cases a2<;>cases a3<;>cases a4<;>cases a5<;>cases a6<;>rfl
  by_cases k2:x.Kind=2
  .simp only[k2,beq_self_eq_true,if_true,show((2:Int)==1)=false from rfl,Bool.false_eq_true,if_false];generalize (x.Name==[])=a1;generalize (x.Text==[])=a2;generalize (x.N==0)=a3;generalize zl x.L=a4;generalize zl x.Then=a5;generalize zl x.Else=a6;cases a1<;>cases a2<;>cases a3<;>cases a4<;>cases a5<;>cases a6<;>rfl
  by_cases k3:x.Kind=3
  .simp only[k3,beq_self_eq_true,if_true,show((3:Int)==1)=false from rfl,show((3:Int)==2)=false from rfl,Bool.false_eq_true,if_false];generalize (x.N==0||x.N==1)=a0;generalize (x.Name==[])=a1;generalize (x.Text==[])=a2;generalize (x.N==0)=a3;generalize zl x.L=a4;generalize zl x.Then=a5;generalize zl x.Else=a6;cases a0<;>cases a1<;>cases a2<;>cases a3<;>cases a4<;>cases a5<;>cases a6<;>rfl
  have nw:Qfn x.Name=true->(x.Name==[])=false:=λh=>Q4g (Qyz h)
  have ww:Qm2 x.Name=true->(x.Name==[])=false:=λh=>Q4g h
  by_cases k4:x.Kind=4
  .simp only[k4,beq_self_eq_true,if_true,show((4:Int)==1)=false from rfl,show((4:Int)==2)=false from rfl,show((4:Int)==3)=false from rfl,Bool.false_eq_true,if_false];cases hn:Qfn x.Name with
   | false=>rfl
   | true =>
    rw[nw hn];generalize (x.Text==[])=a2;generalize (x.N==0)=a3;generalize zl x.L=a4;generalize zl x.Then=a5;generalize zl x.Else=a6;cases a2<;>cases a3<;>cases a4<;>cases a5<;>cases a6<;>rfl
  by_cases k7:x.Kind=7
  .simp only[k7,beq_self_eq_true,if_true,show((7:Int)==1)=false from rfl,show((7:Int)==2)=false from rfl,show((7:Int)==3)=false from rfl,show((7:Int)==4)=false from rfl,show((7:Int)==5)=false from rfl,show((7:Int)==6)=false from rfl,Bool.false_eq_true,if_false];cases hn:Qm2 x.Name with
   | false=>rfl
   | true =>
    rw[ww hn];generalize (x.Text==[])=a2;generalize (x.N==0)=a3;generalize zl x.L=a4;generalize zl x.Then=a5;generalize zl x.Else=a6;cases a2<;>cases a3<;>cases a4<;>cases a5<;>cases a6<;>rfl
  have b1:(x.Kind==1)=false:=beq_eq_false_iff_ne.2 k1;have b2:(x.Kind==2)=false:=beq_eq_false_iff_ne.2 k2;have b3:(x.Kind==3)=false:=beq_eq_false_iff_ne.2 k3;have b4:(x.Kind==4)=false:=beq_eq_false_iff_ne.2 k4;have b7:(x.Kind==7)=false:=beq_eq_false_iff_ne.2 k7;simp only[b1,b2,b3,b4,b7,Bool.false_eq_true,if_false];by_cases k5:x.Kind=5
  .simp only[k5,beq_self_eq_true,if_true];cases hn:Qm2 x.Name with
   | false=>rfl
   | true =>
    rw[ww hn];cases hl:(x.L.length==1) with
    | false =>
     generalize (x.Text==[])=a2;generalize (x.N==0)=a3;generalize zl x.Then=a5;generalize zl x.Else=a6;cases a2<;>cases a3<;>cases a5<;>cases a6<;>rfl
    | true =>
     have hl1:x.L.length=1:=by simpa using hl
     obtain⟨y,hy⟩:=List.length_eq_one_iff.1 hl1;have hy1:nn y<=n:=by have:=Qfk (show y ∈ x.L by rw[hy]; simp); omega
     have hy2:allN okNd y:=Qol (show y ∈ x.L by rw[hy]; simp) ho1;rw[hy];simp only[Qai5,List.getElem?_cons_zero,Qac,ih y (by omega) hy1 hy2,Qc2,Bool.and_true];generalize (x.Text==[])=a2;generalize (x.N==0)=a3;generalize zl x.Then=a5;generalize zl x.Else=a6;generalize Q0u y=a7;cases a2<;>cases a3<;>cases a5<;>cases a6<;>cases a7<;>rfl
  by_cases k6:x.Kind=6
  .simp only[k6,beq_self_eq_true,if_true,show((6:Int)==5)=false from rfl,Bool.false_eq_true,if_false];cases hn:Qfn x.Name with
   | false=>rfl
   | true =>
    rw[nw hn];have hmin:((x.L.length:Int)==(if 3<(x.L.length:Int) then 3 else(x.L.length:Int)))=decide (x.L.length<=3):=by
     by_cases h3:x.L.length<=3
     .rw[if_neg (by omega),decide_eq_true h3]; simp
     .rw[if_pos (by omega),decide_eq_false h3,beq_eq_false_iff_ne.2 (by omega)]
    rw[hmin];have hll:=Qfj x.L;obtain⟨r,hr,hp⟩:=Qalf n (λy=>ih y (by omega)) x.L (by omega) ho1 (by omega) 0 (by omega);rw[Qa1,Qbh,show(0:Int)=((0:Nat):Int) from rfl,hr];rw[List.drop_zero] at hp;cases r with
    | inl u =>
     simp only at hp;rw[hp];generalize (x.Text==[])=a2;generalize (x.N==((0:Nat):Int))=a3;generalize zl x.Then=a5;generalize zl x.Else=a6;generalize decide (x.L.length<=3)=a7;cases a2<;>cases a3<;>cases a5<;>cases a6<;>cases a7<;>rfl
    | inr v =>
     simp only at hp;have hv:decide (v >= ((0:Nat):Int))=true:=decide_eq_true (by omega);simp only[hp.2,Qac,hv];generalize (x.Text==[])=a2;generalize (x.N==((0:Nat):Int))=a3;generalize zl x.Then=a5;generalize zl x.Else=a6;generalize decide (x.L.length<=3)=a7;cases a2<;>cases a3<;>cases a5<;>cases a6<;>cases a7<;>rfl
  have b5:(x.Kind==5)=false:=beq_eq_false_iff_ne.2 k5;have b6:(x.Kind==6)=false:=beq_eq_false_iff_ne.2 k6;simp only[b5,b6,Bool.false_eq_true,if_false]
def Qahj(x:Qaa)(p1 p2 p3 p4 p5:Bool):Bool:=(p1||x.Name==[])&&((p2||x.Text==[])&&((p3||x.N==0)&&((p4||zl x.L)&&((p5||zl x.Then)&&(x.Kind==10||zl x.Else)))))
theorem Qalg(x:Qaa)(p1 p2 p3 p4 p5:Bool):Qer x p1 p2 p3 p4 p5=some (Qahj x p1 p2 p3 p4 p5):=by
 unfold Qer Qahj;simp only[zI];generalize (x.Name==[])=a1;generalize (x.Text==[])=a2;generalize (x.N==0)=a3;generalize zl x.L=a4;generalize zl x.Then=a5;generalize zl x.Else=a6;generalize (x.Kind==10)=a7;have e:∀ b:Bool,(if a7=true then some true else some b:Option Bool)=some (a7||b):=λb=>by cases a7<;>rfl
 simp only[e];generalize (a7||a6)=a8;cases p1<;>cases p2<;>cases p3<;>cases p4<;>cases p5<;>cases a1<;>(try rfl)<;>cases a2<;>(try rfl)<;>cases a3<;>(try rfl)<;>cases a4<;>(try rfl)<;>cases a5<;>rfl
section
variable (n:Nat) (ih:∀ x:Qaa,nn x<=n->allN okNd x->Qw8 x=some (Q0u x))
include ih
theorem Qajj(l:List Qaa)(h:nns l<=n)(ho:allL okNd l)(hl:l.length<9223372036854775807):∀ k,k<=l.length->Qjo l k=some (if Qc2 (l.drop k) then .inl () else .inr ()):=by
 refine upto ?_ λk hk ihk=>?_
 .rw[Qjo]; simp[Qc2]
 .have hx:=Qfk (List.getElem_mem hk);rw[Qjo,Qa0 (by omega),ihk];simp only[ltI,hk,decide_true,if_true,Qax,getE hk,Qac,ih l[k] (by omega) (Qol (List.getElem_mem hk) ho)];rw[Qce hk,Qc2];cases Q0u l[k]<;>rfl
theorem Qah9(l:List Qaa)(h:nns l<=n)(ho:allL okNd l)(hl:l.length<9223372036854775807):Qqi l=some (Qc2 l):=by
 have:=Qajj n ih l h ho hl 0 (by omega);rw[Qqi,show(0:Int)=((0:Nat):Int) from rfl,this,List.drop_zero];cases Qc2 l<;>rfl
end
theorem Qam9:∀ n (x:Qaa),n<1000000000->nn x<=n->allN okNd x->Qw8 x=some (Q0u x):=by
 intro n
 induction n with
 | zero=>intro x _ h; have:=Qkv x; omega
 | succ n ih =>
  intro x hb h ho;rw[Qi3] at h;obtain⟨hq,ho1,-,-⟩:=(Qsx okNd x).1 ho;have hnm:=hq.nm;have hll:=Qfj x.L;have hex:=Qah9 n (λy=>ih y (by omega)) x.L (by omega) ho1 (by omega);have el:decide ((x.L.length:Int)<=3)=decide (x.L.length<=3):=leN x.L.length 3;rw[Qw8,Qmf,Qajg x.Name (by omega),Qalc x.Name (by omega),hex];simp only[Qac,Qalg,Qahj,oneI,el];by_cases k1:x.Kind=1
  .obtain⟨q,q1,q2⟩:=hq.qt k1;have e10:(x.Kind==10)=false:=beq_eq_false_iff_ne.2 (by omega);simp only[e10];simp only[k1,beq_self_eq_true,if_true,q2,q1,Qac,Q18,Option.getD_some];generalize (x.Name==[])=a1;generalize (x.N==0)=a3;generalize zl x.L=a4;generalize zl x.Then=a5;generalize zl x.Else=a6;cases q.2<;>cases a1<;>cases a3<;>cases a4<;>cases a5<;>cases a6<;>rfl
  have b1:(x.Kind==1)=false:=beq_eq_false_iff_ne.2 k1;by_cases h10:x.Kind=10
  .simp only[h10]; rfl
  have e10:(x.Kind==10)=false:=beq_eq_false_iff_ne.2 h10;simp only[e10,b1,Bool.false_eq_true,if_false,Bool.false_or,Bool.true_or,Bool.true_and];generalize (x.Kind==2)=k2;generalize (x.Kind==3)=k3;generalize (x.Kind==4)=k4;generalize (x.Kind==5)=k5;generalize (x.Kind==6)=k6;generalize (x.Kind==7)=k7;generalize (x.Name==[])=a1;generalize (x.Text==[])=a2;generalize (x.N==0)=a3;generalize (x.N==1)=a8;generalize zl x.L=a4;generalize zl x.Then=a5;generalize zl x.Else=a6;generalize Qfn x.Name=n1;generalize Qm2 x.Name=n2;generalize (x.L.length==1)=l1;generalize decide (x.L.length<=3)=l3;generalize Qc2 x.L=ex;cases k2
  .cases k3
   .cases k4
    .cases k5
     .cases k6
      .cases k7
       .rfl
       .cases n2<;>rfl
      .cases n1<;>(try rfl)<;>cases l3<;>(try rfl)<;>cases ex<;>rfl
     .cases n2<;>(try rfl)<;>cases l1<;>(try rfl)<;>cases ex<;>rfl
    .cases n1<;>rfl
   .cases a3<;>(try rfl)<;>cases a8<;>rfl
  .rfl
def litB:List Qaa->Bool
 | []=>false
 | x::_=>x.Kind==8
def Q4h(x:Qaa)(r:List Qaa)(inn:Bool):Bool:=x.Kind==8&&(litB r||((!r.isEmpty||inn)&&endB x.Text))
mutual
def Q0v:Qaa->Bool
 | ⟨k,s,t,n,a,b,c⟩ =>
  if k==8 then !(t==[])&&(!(hasB t)&&(s==[]&&(n==0&&(zl a&&(zl b&&zl c))))) else
  if k==9 then(a.length==1&&Qc2 a)&&(s==[]&&(t==[]&&(n==0&&(zl b&&zl c)))) else
  if k==10 then(a.length==1&&Qc2 a)&&((Qbl b true&&Qbl c true)&&(s==[]&&(t==[]&&n==0))) else
  if k==11||k==12 then Qfn s&&((a.length==1&&Qc2 a)&&(Qbl b true&&(t==[]&&(n==0&&zl c)))) else
  if k==13 then Qfn s&&((a.length==1&&Qc2 a)&&(t==[]&&(n==0&&(zl b&&zl c)))) else false
def Qbl:List Qaa->Bool->Bool
 | [],_=>true
 | x::r,inn=>Q0v x&&(!(Q4h x r inn)&&Qbl r inn)
end
theorem Qjh(x:Qaa):Q0v x =
  if x.Kind==8 then !(x.Text==[])&&(!(hasB x.Text)&&(x.Name==[]&&(x.N==0&&(zl x.L&&(zl x.Then&&zl x.Else))))) else
  if x.Kind==9 then(x.L.length==1&&Qc2 x.L)&&(x.Name==[]&&(x.Text==[]&&(x.N==0&&(zl x.Then&&zl x.Else)))) else
  if x.Kind==10 then(x.L.length==1&&Qc2 x.L)&&((Qbl x.Then true&&Qbl x.Else true)&&(x.Name==[]&&(x.Text==[]&&x.N==0))) else
  if x.Kind==11||x.Kind==12 then Qfn x.Name&&((x.L.length==1&&Qc2 x.L)&&(Qbl x.Then true&&(x.Text==[]&&(x.N==0&&zl x.Else)))) else
  if x.Kind==13 then Qfn x.Name&&((x.L.length==1&&Qc2 x.L)&&(x.Text==[]&&(x.N==0&&(zl x.Then&&zl x.Else)))) else false:=by cases x; rw[Q0v]
theorem Qty{l:List Qaa}(h:zl l=true):l=[]:=List.eq_nil_of_length_eq_zero (by simpa [zl] using h)
theorem Q7k(b:Bool):Qbl [] b=true:=by rw[Qbl]
theorem Qafe{x:Qaa}(h:Q0v x=true)(hk:x.Kind=8):(x.Text==[])=false:=by
 rw[Qjh,hk] at h;simp only[beq_self_eq_true,if_true] at h;cases ht:(x.Text==[]) with
 | false=>rfl
 | true=>rw[ht] at h; cases h
theorem Qalh(k n:Nat)(hk:k<n)(hn:n<9223372036854775807):((k:Int)==wr ((n:Int)-1))=(k+1==n):=by
 have e:wr ((n:Int)-1)=((n-1:Nat):Int):=by rw[Qff (by omega) (by omega)]; omega
 rw[e,eqN];by_cases h:k+1=n
 .rw[beq_iff_eq.2 h,beq_iff_eq.2 (by omega)]
 .rw[beq_eq_false_iff_ne.2 h,beq_eq_false_iff_ne.2 (by omega)]
theorem Qaff{l:List Qaa}{k:Nat}(hk:k<l.length):(l.drop (k+1)).isEmpty=(k+1==l.length):=by
 by_cases h:k+1=l.length
 .rw[List.drop_eq_nil_of_le (by omega),beq_iff_eq.2 h]; rfl
 .rw[beq_eq_false_iff_ne.2 h,Qce (by omega:k+1<l.length)]; rfl
theorem Qafg(l:List Qaa)(k:Nat)(h:k+1<l.length):litB (l.drop (k+1))=(l[k+1].Kind==8):=by
 rw[Qce h]; rfl
section
variable (n:Nat) (hn:n<900000000) (ih:∀ x:Qaa,nn x<=n->allN okNd x->Qqm x=some (Q0v x))
include hn ih
theorem Qajk(l:List Qaa)(h:nns l<=n)(ho:allL okNd l)(top:Bool):∀ k,k<=l.length->Qgd l top k=some (if Qbl (l.drop k) (!top) then .inl () else .inr ()):=by
 have hl:=Qfj l;refine upto ?_ λk hk ihk=>?_
 .rw[Qgd]; simp[Qbl]
 .have hx:=Qfk (List.getElem_mem hk);have ha:=Qol (List.getElem_mem hk) ho;have htx:=((Qsx okNd l[k]).1 ha).1.tx;rw[Qgd,Qa0 (by omega),ihk];simp only[ltI,hk,decide_true,if_true,Qax,getE hk,Qac,ih l[k] (by omega) ha,Qalh k l.length hk (by omega),tEnd l[k].Text (by omega)];rw[Qce hk,Qbl,Q4h];rw[Qaff hk];cases hs:Q0v l[k] with
  | false=>rfl
  | true =>
   cases h8:(l[k].Kind==8) with
   | false=>simp
   | true =>
    by_cases hlast:k+1=l.length
    .have e1:(k+1==l.length)=true:=beq_iff_eq.2 hlast;have e2:litB (l.drop (k+1))=false:=by rw[List.drop_eq_nil_of_le (by omega)]; rfl
     rw[e1,e2];cases top<;>cases endB l[k].Text<;>simp
    .have e1:(k+1==l.length)=false:=beq_eq_false_iff_ne.2 hlast;have hk1:k+1<l.length:=by omega
     rw[e1,Qafg l k hk1,getE hk1];simp only[Qac];cases (l[k+1].Kind==8)<;>cases endB l[k].Text<;>cases top<;>simp
theorem Qafh(l:List Qaa)(h:nns l<=n)(ho:allL okNd l)(top:Bool):Qhh l top=some (Qbl l (!top)):=by
 have:=Qajk n hn ih l h ho top 0 (by omega);rw[Qhh,show(0:Int)=((0:Nat):Int) from rfl,this,List.drop_zero];cases Qbl l (!top)<;>rfl
end
theorem Qana:∀ n (x:Qaa),n<900000000->nn x<=n->allN okNd x->Qqm x=some (Q0v x):=by
 intro n
 induction n with
 | zero=>intro x _ h; have:=Qkv x; omega
 | succ n ih =>
  intro x hb h ho;rw[Qi3] at h;obtain⟨hq,ho1,ho2,ho3⟩:=(Qsx okNd x).1 ho;have hnm:=hq.nm;have htx:=hq.tx;have ih' := λy=>ih y (by omega)
  have t1:=Qafh n (by omega) ih' x.Then (by omega) ho2 false;have t2:=Qafh n (by omega) ih' x.Else (by omega) ho3 false;have e2:(x.N != 0) = !(x.N==0):=rfl;rw[Qqm,Qhg,Qjh,Qajf x.Name (by omega),tHas x.Text (by omega),t1,t2];simp only[Qac,gI,e2,zI,oneI];obtain⟨ex,hex,hex2⟩:∃ ex:Bool,Qc2 x.L=ex/\(x.L.length==1->(idx x.L 0>>=λy=>Qfb y)=some ex):=by
   refine⟨_,rfl,λhl=>?_⟩;obtain⟨y,hy⟩:=List.length_eq_one_iff.1 (by simpa using hl:x.L.length=1);have hy1:nn y<=n:=by have:=Qfk (show y ∈ x.L by rw[hy]; simp); omega
   have hy2:allN okNd y:=Qol (show y ∈ x.L by rw[hy]; simp) ho1;rw[hy];simp only[Qai5,List.getElem?_cons_zero,Qac,Qam8 n y (by omega) hy1 hy2,Qc2,Bool.and_true]
  rw[hex];have hidx:∀ (f:Bool->Option Bool) (g:Qaa->Option Bool),x.L.length=1->(∀ y,g y=Qfb y>>=f)->(idx x.L 0>>=g)=f ex:=λf g hl hg=>by
   have:=hex2 (by simpa using hl);obtain⟨y,hy⟩:=List.length_eq_one_iff.1 hl;rw[hy] at this ⊢;simp only[Qai5,List.getElem?_cons_zero,Qac] at this ⊢;rw[hg,this,Qac]
  have nw:Qfn x.Name=true->(x.Name==[])=false:=λh=>Q4g (Qyz h)
  by_cases k8:x.Kind=8
  .simp only[k8,beq_self_eq_true,if_true];generalize (x.Name==[])=a1;generalize (x.Text==[])=a2;generalize (x.N==0)=a3;generalize zl x.L=a4;generalize zl x.Then=a5;generalize zl x.Else=a6;generalize hasB x.Text=hh;cases a1<;>(try (cases a2<;>cases hh<;>rfl))<;>cases a2<;>(try (cases hh<;>rfl))<;>cases a3<;>(try (cases hh<;>rfl))<;>cases a4<;>(try (cases hh<;>rfl))<;>cases a5<;>(try (cases hh<;>rfl))<;>cases a6<;>cases hh<;>rfl
  have b8:(x.Kind==8)=false:=beq_eq_false_iff_ne.2 k8;have hE:x.L.length=1->(idx x.L 0>>=λy=>Qfb y>>=λb=>if b=true then if Qbl x.Then (!false)=true then some (Qbl x.Else (!false)) else some false else some false)=some (ex&&(Qbl x.Then true&&Qbl x.Else true)):=λhl=>by
   rw[hidx (λb=>if b=true then if Qbl x.Then (!false)=true then some (Qbl x.Else (!false)) else some false else some false) _ hl λy=>rfl];show(if ex=true then if Qbl x.Then true=true then some (Qbl x.Else true) else some false else some false)=_;cases ex<;>cases Qbl x.Then true<;>rfl
  have hb5:zl x.Then=true->Qbl x.Then true=true:=λh=>by rw[Qty h,Q7k]
  have hb6:zl x.Else=true->Qbl x.Else true=true:=λh=>by rw[Qty h,Q7k]
  have half:∀ w th ot nmd:Bool,(if(w==nmd)=true then if((!x.Name==[])==w&&((!x.Text==[])==false&&((!x.N==0)==false&&((!zl x.Then)==th&&((!zl x.Else)==ot&&(x.L.length==1&&true))))))=true then
    idx x.L 0>>=λy=>Qfb y>>=λb=>if b=true then if Qbl x.Then (!false)=true then some (Qbl x.Else (!false)) else some false else some false else some false else some false) =
    some ((w==nmd)&&(((!x.Name==[])==w)&&((x.Text==[])&&((x.N==0)&&(((!zl x.Then)==th)&&(((!zl x.Else)==ot)&&((x.L.length==1)&&(ex&&(Qbl x.Then true&&Qbl x.Else true))))))))):=λw th ot nmd=>by
   have e0:∀ b:Bool,((!b)==false)=b:=λb=>by cases b<;>rfl
   simp only[e0];cases hl:(x.L.length==1) with
   | true =>
    rw[hE (by simpa using hl)];generalize (ex&&(Qbl x.Then true&&Qbl x.Else true))=q;generalize ((!x.Name==[])==w)=q1;generalize (x.Text==[])=q2;generalize (x.N==0)=q3;generalize ((!zl x.Then)==th)=q4;generalize ((!zl x.Else)==ot)=q5;generalize (w==nmd)=q6;cases q6<;>(try rfl)<;>cases q1<;>(try rfl)<;>cases q2<;>(try rfl)<;>cases q3<;>(try rfl)<;>cases q4<;>(try rfl)<;>cases q5<;>rfl
   | false =>
    generalize ((!x.Name==[])==w)=q1;generalize (x.Text==[])=q2;generalize (x.N==0)=q3;generalize ((!zl x.Then)==th)=q4;generalize ((!zl x.Else)==ot)=q5;generalize (w==nmd)=q6;cases q6<;>(try rfl)<;>cases q1<;>(try rfl)<;>cases q2<;>(try rfl)<;>cases q3<;>(try rfl)<;>cases q4<;>(try rfl)<;>cases q5<;>rfl
  have bnd:∀ m:Option Bool,(m>>=λo=>some o)=m:=λm=>by cases m<;>rfl
  simp only[b8,Bool.false_eq_true,if_false];by_cases k9:x.Kind=9
  .simp only[k9,beq_self_eq_true,if_true,Qac,show((9:Int)==11)=false from rfl,show((9:Int)==12)=false from rfl,show((9:Int)==13)=false from rfl,Bool.false_eq_true,if_false,bnd];have hh:=half false false false false;simp only[beq_self_eq_true,if_true,Bool.true_and] at hh;rw[hh];have e0:∀ b:Bool,((!b)==false)=b:=λb=>by cases b<;>rfl
   simp only[e0];cases h5:zl x.Then with
   | false=>generalize (x.Name==[])=a1; generalize (x.Text==[])=a2; generalize (x.N==0)=a3; cases a1<;>cases a2<;>cases a3<;>simp
   | true=>cases h6:zl x.Else with
    | false=>generalize (x.Name==[])=a1; generalize (x.Text==[])=a2; generalize (x.N==0)=a3; cases a1<;>cases a2<;>cases a3<;>simp
    | true =>
     rw[hb5 h5,hb6 h6];generalize (x.Name==[])=a1; generalize (x.Text==[])=a2; generalize (x.N==0)=a3; generalize (x.L.length==1)=l1;cases a1<;>cases a2<;>cases a3<;>cases l1<;>cases ex<;>rfl
  have b9:(x.Kind==9)=false:=beq_eq_false_iff_ne.2 k9;simp only[b9,Bool.false_eq_true,if_false];by_cases k10:x.Kind=10
  .simp only[k10,beq_self_eq_true,if_true,Qac,show((10:Int)==11)=false from rfl,show((10:Int)==12)=false from rfl,show((10:Int)==13)=false from rfl,Bool.false_eq_true,if_false,bnd];have hh:=half false (!zl x.Then) (!zl x.Else) false;simp only[beq_self_eq_true,if_true,Bool.true_and] at hh ⊢;rw[hh];have e0:∀ b:Bool,((!b)==false)=b:=λb=>by cases b<;>rfl
   simp only[e0];generalize (x.Name==[])=a1; generalize (x.Text==[])=a2; generalize (x.N==0)=a3; generalize (x.L.length==1)=l1; generalize zl x.Then=a5; generalize zl x.Else=a6; generalize Qbl x.Then true=bt; generalize Qbl x.Else true=be;cases a5<;>cases a6<;>cases a1<;>cases a2<;>cases a3<;>cases l1<;>cases ex<;>cases bt<;>cases be<;>rfl
  have b10:(x.Kind==10)=false:=beq_eq_false_iff_ne.2 k10;simp only[b10,Bool.false_eq_true,if_false];have e11:(if(x.Kind==11)=true then some (x.Kind==11) else some (x.Kind==12):Option Bool)=some (x.Kind==11||x.Kind==12):=by cases (x.Kind==11)<;>rfl
  rw[e11];cases h11:(x.Kind==11||x.Kind==12) with
  | true =>
   have e12:(if(x.Kind==11)=true then some true else if(x.Kind==12)=true then some true else some (x.Kind==13):Option Bool)=some true:=by
    revert h11; cases (x.Kind==11)<;>cases (x.Kind==12)<;>intro h<;>first | rfl | cases h
   rw[e12];simp only[Qac,if_true,bnd];rw[half (Qfn x.Name) (!zl x.Then) false true];have e0:∀ b:Bool,((!b)==false)=b:=λb=>by cases b<;>rfl
   simp only[e0];cases hn:Qfn x.Name with
   | false=>rfl
   | true =>
    rw[nw hn];cases h6:zl x.Else with
    | false=>generalize (x.Text==[])=a2; generalize (x.N==0)=a3; generalize zl x.Then=a5; cases a2<;>cases a3<;>cases a5<;>simp
    | true =>
     rw[hb6 h6];generalize (x.Text==[])=a2; generalize (x.N==0)=a3; generalize (x.L.length==1)=l1; generalize zl x.Then=a5; generalize Qbl x.Then true=bt;cases a5<;>cases a2<;>cases a3<;>cases l1<;>cases ex<;>cases bt<;>rfl
  | false =>
   have e12:(if(x.Kind==11)=true then some true else if(x.Kind==12)=true then some true else some (x.Kind==13):Option Bool)=some (x.Kind==13):=by
    revert h11; cases (x.Kind==11)<;>cases (x.Kind==12)<;>intro h<;>first | rfl | cases h
   rw[e12];simp only[Qac,Bool.false_eq_true,if_false];by_cases k13:x.Kind=13
   .simp only[k13,beq_self_eq_true,if_true,Qac,bnd];rw[half (Qfn x.Name) false false true];have e0:∀ b:Bool,((!b)==false)=b:=λb=>by cases b<;>rfl
    simp only[e0];cases hn:Qfn x.Name with
    | false=>rfl
    | true =>
     rw[nw hn];cases h5:zl x.Then with
     | false=>generalize (x.Text==[])=a2; generalize (x.N==0)=a3; cases a2<;>cases a3<;>simp
     | true=>cases h6:zl x.Else with
      | false=>generalize (x.Text==[])=a2; generalize (x.N==0)=a3; cases a2<;>cases a3<;>simp
      | true =>
       rw[hb5 h5,hb6 h6];generalize (x.Text==[])=a2; generalize (x.N==0)=a3; generalize (x.L.length==1)=l1;cases a2<;>cases a3<;>cases l1<;>cases ex<;>rfl
   .have b13:(x.Kind==13)=false:=beq_eq_false_iff_ne.2 k13;simp only[b13,Bool.false_eq_true,if_false,Qac]
section
variable (n:Nat) (hn:n<900000000) (ih:∀ x:Qaa,nn x<=n->allN okNd x->Qw9 x=some (Q0v x))
include hn ih
theorem Qajl(l:List Qaa)(h:nns l<=n)(ho:allL okNd l)(inn:Bool):∀ k,k<=l.length->Qhf l inn k=some (if Qbl (l.drop k) inn then .inl () else .inr ()):=by
 have hl:=Qfj l;refine upto ?_ λk hk ihk=>?_
 .rw[Qhf]; simp[Qbl]
 .have hx:=Qfk (List.getElem_mem hk);have ha:=Qol (List.getElem_mem hk) ho;have htx:=((Qsx okNd l[k]).1 ha).1.tx;rw[Qhf,Qa0 (by omega),ihk];simp only[ltI,hk,decide_true,if_true,Qax,getE hk,Qac,ih l[k] (by omega) ha,Qalh k l.length hk (by omega)];rw[Qce hk,Qbl,Q4h];rw[Qaff hk];cases hs:Q0v l[k] with
  | false=>rfl
  | true =>
   cases h8:(l[k].Kind==8) with
   | false =>
    have:(l[k].Kind != 8)=true:=by rw[bne,h8]; rfl
    rw[this];simp
   | true =>
    have h8' : (l[k].Kind != 8)=false:=by rw[bne,h8]; rfl
    rw[h8', rEnd l[k].Text (by omega) (Qafe hs (by simpa using h8))];by_cases hlast:k+1=l.length
    .have e1:(k+1==l.length)=true:=beq_iff_eq.2 hlast;have e2:litB (l.drop (k+1))=false:=by rw[List.drop_eq_nil_of_le (by omega)]; rfl
     rw[e1,e2];cases inn<;>cases endB l[k].Text<;>simp
    .have e1:(k+1==l.length)=false:=beq_eq_false_iff_ne.2 hlast;have hk1:k+1<l.length:=by omega
     rw[e1,Qafg l k hk1,getE hk1];simp only[Qac];cases (l[k+1].Kind==8)<;>cases endB l[k].Text<;>cases inn<;>simp
theorem Qafi(l:List Qaa)(h:nns l<=n)(ho:allL okNd l)(inn:Bool):Qnn l inn=some (Qbl l inn):=by
 have:=Qajl n hn ih l h ho inn 0 (by omega);rw[Qnn,show(0:Int)=((0:Nat):Int) from rfl,this,List.drop_zero];cases Qbl l inn<;>rfl
end
theorem Qanb:∀ n (x:Qaa),n<900000000->nn x<=n->allN okNd x->Qw9 x=some (Q0v x):=by
 intro n
 induction n with
 | zero=>intro x _ h; have:=Qkv x; omega
 | succ n ih =>
  intro x hb h ho;rw[Qi3] at h;obtain⟨hq,ho1,ho2,ho3⟩:=(Qsx okNd x).1 ho;have hnm:=hq.nm;have htx:=hq.tx;have hll:=Qfj x.L;have ih' := λy=>ih y (by omega)
  have t1:=Qafi n (by omega) ih' x.Then (by omega) ho2 true;have t2:=Qafi n (by omega) ih' x.Else (by omega) ho3 true;have hex:=Qah9 n (λy hy=>Qam9 n y (by omega) hy) x.L (by omega) ho1 (by omega);rw[Qw9,Qjh,Qajg x.Name (by omega),Qaji x.Text (by omega),t1,t2,hex];simp only[Qac,oneI,Qalg,Qahj];have e1:(if(x.L.length==1)=true then some (Qc2 x.L) else some false:Option Bool)=some (x.L.length==1&&Qc2 x.L):=by cases (x.L.length==1)<;>rfl
  rw[e1];simp only[Qac];generalize (x.L.length==1&&Qc2 x.L)=one;by_cases k8:x.Kind=8
  .have e10:(x.Kind==10)=false:=beq_eq_false_iff_ne.2 (by omega);simp only[e10];simp only[k8,beq_self_eq_true,if_true];generalize (x.Name==[])=a1;generalize (x.Text==[])=a2;generalize (x.N==0)=a3;generalize zl x.L=a4;generalize zl x.Then=a5;generalize zl x.Else=a6;generalize hasB x.Text=hh;cases a2<;>(try rfl)<;>cases hh<;>(try rfl)<;>cases a1<;>(try rfl)<;>cases a3<;>rfl
  have b8:(x.Kind==8)=false:=beq_eq_false_iff_ne.2 k8;simp only[b8,Bool.false_eq_true,if_false];by_cases k10:x.Kind=10
  .simp only[k10,beq_self_eq_true,if_true,show((10:Int)==9)=false from rfl,Bool.false_eq_true,if_false];generalize (x.Name==[])=a1;generalize (x.Text==[])=a2;generalize (x.N==0)=a3;generalize Qbl x.Then true=bt;generalize Qbl x.Else true=be;generalize zl x.L=a4;generalize zl x.Then=a5;generalize zl x.Else=a6;cases one<;>(try rfl)<;>cases bt<;>(try rfl)<;>cases be<;>(try rfl)<;>cases a1<;>(try rfl)<;>cases a2<;>(try rfl)<;>cases a3<;>rfl
  have b10:(x.Kind==10)=false:=beq_eq_false_iff_ne.2 k10;simp only[b10,Bool.false_eq_true,if_false];have e11:(if(x.Kind==11)=true then some (x.Kind==11) else some (x.Kind==12):Option Bool)=some (x.Kind==11||x.Kind==12):=by cases (x.Kind==11)<;>rfl
  rw[e11];simp only[Qac];have nw:Qfn x.Name=true->(x.Name==[])=false:=λh=>Q4g (Qyz h)
  generalize (x.Kind==9)=k9;generalize (x.Kind==11||x.Kind==12)=k11;generalize (x.Kind==13)=k13;generalize (x.Name==[])=a1;generalize Qfn x.Name=nm;generalize (x.Text==[])=a2;generalize (x.N==0)=a3;generalize Qbl x.Then true=bt;generalize Qbl x.Else true=be;generalize zl x.L=a4;generalize zl x.Then=a5;generalize zl x.Else=a6;cases k9
  .cases k11
   .cases k13
    .rfl
    .cases nm<;>(try rfl)<;>cases one<;>(try rfl)<;>cases a2<;>(try rfl)<;>cases a3<;>rfl
   .cases nm<;>(try rfl)<;>cases one<;>(try rfl)<;>cases bt<;>(try rfl)<;>cases a2<;>(try rfl)<;>cases a3<;>rfl
  .cases one<;>(try rfl)<;>cases a1<;>(try rfl)<;>cases a2<;>(try rfl)<;>cases a3<;>rfl
def maxD(l:List (Qaa×Int))(m:Int):Int:=l.foldl (λm x=>if x.2>m then x.2 else m) m
theorem Qxa(a b:List (Qaa×Int))(m:Int):maxD (a++b) m=maxD b (maxD a m):=by unfold maxD; rw[List.foldl_append]
theorem Qaia(x1:List Qaa×Int):∀ (l:List (Qaa×Int)) (m:Int),Qfu x1 l m=some (maxD l m)
 | [],m=>by rw[Qfu]; rfl
 | x::r,m=>by rw[Qfu,Qaia x1 r]; rfl
theorem Qafj(x1:List Qaa×Int):∀ (l:List (Qaa×Int)) (m:Nat),m+l.length<9223372036854775807->Qet x1 l m=some ((m+l.length:Nat):Int)
 | [],m,_=>by rw[Qet]; rfl
 | x::r,m,h=>by
  simp at h;rw[Qet,Qa0 (by omega),Qafj x1 r (m+1) (by omega)];simp; omega
theorem Qahk(p0:List Qaa)(p1 v12:Int)(x3:Qaa)(v28:Int)(x7:List Qaa×Int):∀ l:List (Qaa×Int),Qeu p0 p1 v12 x3 v28 x7 l=some (l,())
 | []=>by rw[Qeu]
 | x::r=>by
  obtain⟨⟨k,s,t,n,a,b,c⟩,d⟩:=x;rw[Qeu,Qahk p0 p1 v12 x3 v28 x7 r]; rfl
def Qahl(d:Nat)(k dep:Nat)(o:Option (List (Qaa×Int)×Unit)):Prop:=∃ out,o=some (out,())/\out.length=k/\∀ m:Int,(d:Int)-1<=m->maxD out m=max m ((d:Int)-1+dep)
section
variable (n:Nat) (ih:∀ (l:List Qaa) (d:Nat),nns l<=n->n+d<=1000000000->Qahl d (nns l) (dps l) (Qfd l d))
include ih
theorem Qanc(l:List Qaa)(d:Nat)(v:Int)(x:Qaa)(hx:nn x<=n+1)(hd:n+1+d<=1000000000) :
  Qahl (d+1) (nns x.L+nns x.Then+nns x.Else) (max (dps x.L) (max (dps x.Then) (dps x.Else))) (Qcc l d v x 0):=by
 rw[Qi3] at hx;have ed:wr ((d:Int)+1)=((d+1:Nat):Int):=Qa0 (by omega);obtain⟨o1,a1,a2,a3⟩:=ih x.L (d+1) (by omega) (by omega);obtain⟨o2,b1,b2,b3⟩:=ih x.Then (d+1) (by omega) (by omega);obtain⟨o3,c1,c2,c3⟩:=ih x.Else (d+1) (by omega) (by omega);have s3:Qcc l d v x 3=some ([],()):=by rw[Qcc]; rfl
 have s2:Qcc l d v x 2=some (o3++[],()):=by
  rw[Qcc];have e:wr ((2:Int)+1)=3:=by rw[Qff (by omega) (by omega)]; rfl
  have g:idx ([x.L,x.Then,x.Else]:List (List Qaa)) 2=some x.Else:=Q9f _ 2;rw[g,e,s3];simp only[Qac,Qjg,ed,c1,Qahk,show decide ((2:Int)<3)=true from rfl,if_true]
 have s1:Qcc l d v x 1=some (o2++(o3++[]),()):=by
  rw[Qcc];have e:wr ((1:Int)+1)=2:=by rw[Qff (by omega) (by omega)]; rfl
  have g:idx ([x.L,x.Then,x.Else]:List (List Qaa)) 1=some x.Then:=Q9f _ 1;rw[g,e,s2];simp only[Qac,Qjg,ed,b1,Qahk,show decide ((1:Int)<3)=true from rfl,if_true]
 have s0:Qcc l d v x 0=some (o1++(o2++(o3++[])),()):=by
  rw[Qcc];have e:wr ((0:Int)+1)=1:=by rw[Qff (by omega) (by omega)]; rfl
  have g:idx ([x.L,x.Then,x.Else]:List (List Qaa)) 0=some x.L:=Q9f _ 0;rw[g,e,s1];simp only[Qac,Qjg,ed,a1,Qahk,show decide ((0:Int)<3)=true from rfl,if_true]
 refine⟨_,s0,by simp; omega,λm hm=>?_⟩;rw[List.append_nil,Qxa,Qxa,a3 m hm,b3 _ (by omega),c3 _ (by omega)];omega
theorem Qand(l:List Qaa)(d:Nat)(hl:nns l<=n+1)(hd:n+1+d<=1000000000):∀ k,k<=l.length->Qahl d (nns (l.drop k)) (dps (l.drop k)) (Qev l d k):=by
 have hlen:=Qfj l;refine upto ?_ λk hk ihk=>?_
 .rw[Qev,List.drop_length];refine⟨[],by simp,by simp[nns],λm hm=>?_⟩;simp[maxD,dps]; omega
 .have hx:=Qfk (List.getElem_mem hk);obtain⟨o1,a1,a2,a3⟩:=Qanc n ih l d k l[k] (by omega) hd;obtain⟨o2,b1,b2,b3⟩:=ihk;rw[Qev,Qa0 (by omega)];simp only[ltI,hk,decide_true,if_true,Qax,getE hk,Qac,a1,b1];rw[Qce hk];refine⟨_,rfl,?_,λm hm=>?_⟩
  .simp[nns,Qi3,a2,b2]; omega
  .show maxD ([(l[k],(d:Int))]++(o1++o2)) m=_;have e0:maxD [(l[k],(d:Int))] m=max m d:=by
    show(if(d:Int)>m then(d:Int) else m)=_;split<;>omega
   rw[Qxa,Qxa,e0,a3 _ (by omega),b3 _ (by omega),dps,Qahg];omega
end
theorem tAll:∀ n (l:List Qaa) (d:Nat),nns l<=n->n+d<=1000000000->Qahl d (nns l) (dps l) (Qfd l d):=by
 intro n
 induction n with
 | zero =>
  intro l d h _;have hl:l=[]:=List.eq_nil_of_length_eq_zero (by have:=Qfj l; omega);subst hl;rw[Qfd,Qev];refine⟨[],by simp,by simp[nns],λm hm=>?_⟩;simp[maxD,dps]; omega
 | succ n ih =>
  intro l d h hd;obtain⟨o,a1,a2,a3⟩:=Qand n ih l d h hd 0 (by omega);rw[List.drop_zero] at a2 a3;refine⟨o,?_,a2,a3⟩;rw[Qfd,show(0:Int)=((0:Nat):Int) from rfl,a1];simp
theorem Qane(l:List Qaa)(h:nns l<=900000000):Qqk l=some (dps l:Int):=by
 obtain⟨o,a1,a2,a3⟩:=tAll 900000000 l 1 h (by omega);rw[Qqk,Qjg];simp only[Qac];rw[show(1:Int)=((1:Nat):Int) from rfl,a1];simp only[Qac,Qaia];rw[a3 0 (by omega)];congr 1;omega
theorem Qali(l:List Qaa)(h:nns l<=900000000):Qno l=some (nns l:Int):=by
 obtain⟨o,a1,a2,a3⟩:=tAll 900000000 l 1 h (by omega);have:=Qafj (l,((1:Nat):Int)) o 0 (by omega);rw[Qno,Qjg];simp only[Qac];rw[show(1:Int)=((1:Nat):Int) from rfl,a1];simp only[Qac];rw[show(0:Int)=((0:Nat):Int) from rfl,this];simp[a2]
theorem Qafk:∀ m (l:List Qaa),nns l<=m->dps l<=nns l:=by
 intro m
 induction m with
 | zero =>
  intro l h;have hl:l=[]:=List.eq_nil_of_length_eq_zero (by have:=Qfj l; omega);subst hl; simp[dps]
 | succ m ihm =>
  intro l
  induction l with
  | nil=>intro _; simp[dps]
  | cons x r ihr =>
   intro h;rw[nns,Qi3] at h;have h1:=ihm x.L (by omega);have h2:=ihm x.Then (by omega);have h3:=ihm x.Else (by omega);have h4:=ihr (by omega);rw[dps,Qahg,nns,Qi3];omega
section
variable (n:Nat) (hn:n<=900000000) (ih:∀ l:List Qaa,nns l<=n->Qep l=some (dps l:Int)/\Qdo l=some (nns l:Int))
include hn ih
theorem Qalj(l:List Qaa)(h:nns l<=n+1):∀ k,k<=l.length->∀ v:Nat,v<=1000000000->Qeq l v k=some ((max v (dps (l.drop k)):Nat):Int):=by
 have hl:=Qfj l;refine upto ?_ λk hk ihk=>?_
 .intro v _; rw[Qeq]; simp[dps]
 .intro v hv;have hx:=Qfk (List.getElem_mem hk);rw[Qi3] at hx;have d1:=Qafk _ l[k].L (Nat.le_refl _);have d2:=Qafk _ l[k].Then (Nat.le_refl _);have d3:=Qafk _ l[k].Else (Nat.le_refl _);have em:(if(dps l[k].Else:Int)>(if(dps l[k].Then:Int)>(dps l[k].L:Int) then(dps l[k].Then:Int) else(dps l[k].L:Int)) then(dps l[k].Else:Int) else(if(dps l[k].Then:Int)>(dps l[k].L:Int) then(dps l[k].Then:Int) else(dps l[k].L:Int)))=((max (dps l[k].L) (max (dps l[k].Then) (dps l[k].Else)):Nat):Int):=by
   split<;>split at * <;> omega
  rw[Qeq,Qa0 (by omega)];simp only[ltI,hk,decide_true,if_true,Qax,getE hk,Qac,(ih l[k].L (by omega)).1,(ih l[k].Then (by omega)).1,(ih l[k].Else (by omega)).1];rw[em];have ew:wr (1+((max (dps l[k].L) (max (dps l[k].Then) (dps l[k].Else)):Nat):Int))=((dp l[k]:Nat):Int):=by
   rw[Qff (by omega) (by omega),Qahg]; omega
  rw[ew];have ei:(if((dp l[k]:Nat):Int)>(v:Int) then((dp l[k]:Nat):Int) else(v:Int))=((max v (dp l[k]):Nat):Int):=by split<;>omega
  have hdp:dp l[k]<=1000000000:=by rw[Qahg]; omega
  rw[ei,ihk (max v (dp l[k])) (by omega),Qce hk,dps];congr 2;omega
theorem Qajm(l:List Qaa)(h:nns l<=n+1):∀ k,k<=l.length->∀ v:Nat,v+nns (l.drop k)<=1000000000->Qd2 l v k=some ((v+nns (l.drop k):Nat):Int):=by
 have hl:=Qfj l;refine upto ?_ λk hk ihk=>?_
 .intro v _; rw[Qd2]; simp[nns]
 .intro v hv;have hx:=Qfk (List.getElem_mem hk);rw[Qi3] at hx;rw[Qce hk,nns,Qi3] at hv;rw[Qd2,Qa0 (i:=k) (by omega)];simp only[ltI,hk,decide_true,if_true,Qax,getE hk,Qac,(ih l[k].L (by omega)).2,(ih l[k].Then (by omega)).2,(ih l[k].Else (by omega)).2];have ew:wr ((wr ((wr ((wr ((v:Int)+1))+(nns l[k].L:Int)))+(nns l[k].Then:Int)))+(nns l[k].Else:Int))=((v+nn l[k]:Nat):Int):=by
   rw[Qff (n:=(v:Int)+1) (by omega) (by omega),Qff (n:=(v:Int)+1+(nns l[k].L:Int)) (by omega) (by omega),Qff (n:=(v:Int)+1+(nns l[k].L:Int)+(nns l[k].Then:Int)) (by omega) (by omega),Qff (by omega) (by omega),Qi3];omega
  rw[ew,ihk (v+nn l[k]) (by rw[Qi3]; omega),Qce hk,nns];congr 2;omega
end
theorem rDC:∀ n (l:List Qaa),n<=900000000->nns l<=n->Qep l=some (dps l:Int)/\Qdo l=some (nns l:Int):=by
 intro n
 induction n with
 | zero =>
  intro l _ h;have hl:l=[]:=List.eq_nil_of_length_eq_zero (by have:=Qfj l; omega);subst hl;rw[Qep,Qdo,Qeq,Qd2];simp[dps,nns]
 | succ n ih =>
  intro l hn h;have h1:=Qalj n (by omega) (λl hl=>ih l (by omega) hl) l h 0 (by omega) 0 (by omega);have h2:=Qajm n (by omega) (λl hl=>ih l (by omega) hl) l h 0 (by omega) 0 (by rw[List.drop_zero]; omega);rw[Qep,Qdo,show(0:Int)=((0:Nat):Int) from rfl,h1,h2];simp
def isP (l:List Qaa):Bool:=decide (dps l<=12)&&(decide (nns l<=1024)&&Qbl l false)
theorem tIs(l:List Qaa)(h:nns l<=800000000)(ho:allL okNd l):Qyw l=some (isP l):=by
 have e1:decide ((dps l:Int)<=12)=decide (dps l<=12):=leN _ 12;have e2:decide ((nns l:Int)<=1024)=decide (nns l<=1024):=leN _ 1024;have hb:=Qafh 800000000 (by omega) (λx hx=>Qana 800000000 x (by omega) hx) l h ho true;rw[Qyw,Qane l (by omega),Qali l (by omega),hb,isP];simp only[Qac,e1,e2];cases decide (dps l<=12)<;>cases decide (nns l<=1024)<;>rfl
theorem rIs(l:List Qaa)(h:nns l<=800000000)(ho:allL okNd l):Qae8 l=some (isP l):=by
 have e1:decide ((dps l:Int)<=12)=decide (dps l<=12):=leN _ 12;have e2:decide ((nns l:Int)<=1024)=decide (nns l<=1024):=leN _ 1024;have hb:=Qafi 800000000 (by omega) (λx hx=>Qanb 800000000 x (by omega) hx) l h ho false;obtain⟨hd,hc⟩:=rDC 800000000 l (by omega) h;rw[Qae8,hd,hc,hb,isP];simp only[Qac,e1,e2];cases decide (dps l<=12)<;>cases decide (nns l<=1024)<;>cases Qbl l false<;>rfl
abbrev room:Nat:=100000000000
section
end
def Qcm(c:UInt8):Bool:=decide (128<=c.toNat)&&decide (c.toNat<192)
def Qid(n:Nat):Bool:=decide (n<=1114111) && !(decide (55296<=n)&&decide (n<=57343))
def Qahm(c:UInt8)(r:List UInt8):Nat×Nat :=
  if c.toNat<128 then(c.toNat,1)
  else if 192<=c.toNat/\c.toNat<224 then
   match r with
   | c1::_=>if Qcm c1=true/\128<=(c.toNat-192)*64+(c1.toNat-128) then((c.toNat-192)*64+(c1.toNat-128),2) else(65533,1)
   | _=>(65533,1)
  else if 224<=c.toNat/\c.toNat<240 then
   match r with
   | c1::c2::_=>if Qcm c1=true/\Qcm c2=true/\2048<=((c.toNat-224)*64+(c1.toNat-128))*64+(c2.toNat-128)/\Qid (((c.toNat-224)*64+(c1.toNat-128))*64+(c2.toNat-128))=true then(((c.toNat-224)*64+(c1.toNat-128))*64+(c2.toNat-128),3) else(65533,1)
   | _=>(65533,1)
  else if 240<=c.toNat/\c.toNat<248 then
   match r with
   | c1::c2::c3::_=>if Qcm c1=true/\Qcm c2=true/\Qcm c3=true/\65536<=(((c.toNat-240)*64+(c1.toNat-128))*64+(c2.toNat-128))*64+(c3.toNat-128)/\Qid ((((c.toNat-240)*64+(c1.toNat-128))*64+(c2.toNat-128))*64+(c3.toNat-128))=true then((((c.toNat-240)*64+(c1.toNat-128))*64+(c2.toNat-128))*64+(c3.toNat-128),4) else(65533,1)
   | _=>(65533,1)
  else(65533,1)
def Qjz:List UInt8->Nat×Nat
 | []=>(0,0)
 | c::r=>Qahm c r
theorem Qy0{n:Int}(h1 : -2147483648<=n)(h2:n<=2147483647):IntKind.i32.wrap n=n:=by
 simp[IntKind.wrap,IntKind.bits,IntKind.signed];omega
theorem Qalk{n:Int}(h1:0<=n)(h2:n<=255):IntKind.u8.wrap n=n:=by
 simp[IntKind.wrap,IntKind.bits,IntKind.signed];omega
theorem Qanf:∀ c:Fin 256,bits .and .u8 ((c.1:Nat):Int) 63=((c.1 % 64:Nat):Int):=by decide +kernel
theorem Qall:∀ c:Fin 256,(bits .and .u8 ((c.1:Nat):Int) 192 != 128) = !(decide (128<=c.1)&&decide (c.1<192)):=by decide +kernel
theorem Qang:∀ c:Fin 256,bits .and .u8 ((c.1:Nat):Int) 31=((c.1 % 32:Nat):Int):=by decide +kernel
theorem Qanh:∀ c:Fin 256,bits .and .u8 ((c.1:Nat):Int) 15=((c.1 % 16:Nat):Int):=by decide +kernel
theorem and7:∀ c:Fin 256,bits .and .u8 ((c.1:Nat):Int) 7=((c.1 % 8:Nat):Int):=by decide +kernel
theorem or64(a b:Nat)(ha:a<1000000)(hb:b<64):bits .or .i32 (IntKind.i32.wrap ((a:Int)*2 ^ (min (6:Int).toNat (IntKind.i32.bits)))) (IntKind.i32.wrap (b:Int))=((a*64+b:Nat):Int):=by
 have e1:IntKind.i32.wrap ((a:Int)*2 ^ (min (6:Int).toNat (IntKind.i32.bits)))=((a*64:Nat):Int):=by
  have:(min (6:Int).toNat (IntKind.i32.bits))=6:=rfl;rw[this,Qy0 (by omega) (by omega)]; omega
 rw[e1,Qy0 (by omega) (by omega)];have e2:(2:Nat) ^ 6*a+b=2 ^ 6*a ||| b:=Nat.two_pow_add_eq_or_of_lt (by omega) a
 have e3:a*64 ||| b=a*64+b:=by
  have:(2:Nat) ^ 6*a=a*64:=by omega
  rw[this] at e2; omega
 show IntKind.i32.wrap ((BitVec.ofInt 32 ((a*64:Nat):Int) ||| BitVec.ofInt 32 (b:Int)).toNat:Int)=_;rw[BitVec.toNat_or,BitVec.ofInt_natCast,BitVec.ofInt_natCast,BitVec.toNat_ofNat,BitVec.toNat_ofNat,Nat.mod_eq_of_lt (by omega),Nat.mod_eq_of_lt (by omega),e3,Qy0 (by omega) (by omega)]
theorem b63(c:UInt8):bits .and .u8 (c.toNat:Int) 63=((c.toNat % 64:Nat):Int):=Qanf ⟨c.toNat,c.toNat_lt⟩
theorem b192(c:UInt8):(bits .and .u8 (c.toNat:Int) 192 != 128) = !Qcm c:=Qall ⟨c.toNat,c.toNat_lt⟩
theorem b31(c:UInt8):bits .and .u8 (c.toNat:Int) 31=((c.toNat % 32:Nat):Int):=Qang ⟨c.toNat,c.toNat_lt⟩
theorem b15(c:UInt8):bits .and .u8 (c.toNat:Int) 15=((c.toNat % 16:Nat):Int):=Qanh ⟨c.toNat,c.toNat_lt⟩
theorem b7(c:UInt8):bits .and .u8 (c.toNat:Int) 7=((c.toNat % 8:Nat):Int):=and7 ⟨c.toNat,c.toNat_lt⟩
theorem Qahn{c:UInt8}(h:Qcm c=true):c.toNat % 64=c.toNat-128:=by
 unfold Qcm at h;simp at h;omega
def Qy1:Nat->List UInt8->Nat->Option Nat
 | 0,_,v=>some v
 | _+1,[],_=>none
 | m+1,c::r,v=>if Qcm c=true then Qy1 m r (v*64+(c.toNat-128)) else none
set_option maxRecDepth 20000 in
theorem Qalm(l:List UInt8)(m:Nat)(hm:m<=l.length)(hm3:m<=3):∀ (d k v:Nat),k+d=m->((k=0->v<64)/\(k<=1->v<4096)/\(k<=2->v<262144)) ->
  Qg3 l m v k=some (match Qy1 d (l.drop k) v with | some n =>.inl (n:Int) | none =>.inr ()):=by
 intro d
 induction d with
 | zero =>
  intro k v hk _;rw[Qg3,ltI,decide_eq_false (by omega:¬ k<m)];rfl
 | succ d ih =>
  intro k v hk hv;have hkl:k<l.length:=by omega
  have:decide ((k:Int)<(m:Int))=true:=decide_eq_true (by omega);rw[Qg3];simp only[this,if_true,Qax,getE hkl,Qac,b192,b63];rw[or64 v _ (by omega) (Nat.mod_lt _ (by omega)),Qa0 (by omega),Qce hkl];unfold Qy1;cases hc:Qcm l[k] with
  | false=>rfl
  | true =>
   rw[Qahn hc];have hlt:l[k].toNat-128<64:=by unfold Qcm at hc; simp at hc; omega
   have hv2:(k+1=0->v*64+(l[k].toNat-128)<64)/\(k+1<=1->v*64+(l[k].toNat-128)<4096)/\(k+1<=2->v*64+(l[k].toNat-128)<262144):=by omega
   simp only[Bool.not_true,Bool.false_eq_true,if_false,if_true];exact ih (k+1) _ (by omega) hv2
theorem Qani(l:List UInt8)(m v:Nat)(hm3:m<=3)(hv:v<64):Qrb l v m=some (match (if l.length<m then none else Qy1 m l v) with | some n=>((n:Int),true) | none=>(0,false)):=by
 rw[Qrb,ltI];by_cases h:l.length<m
 .rw[decide_eq_true h,if_pos h]; rfl
 .rw[decide_eq_false h,if_neg h];have:=Qalm l m (by omega) hm3 m 0 v (by omega) (by omega);rw[List.drop_zero] at this;rw[show(0:Int)=((0:Nat):Int) from rfl,this];cases Qy1 m l v<;>rfl
theorem tIsR(n:Nat):Q16 (n:Int)=some (Qid n):=by
 have a:decide ((n:Int) >= 0)=true:=decide_eq_true (by omega);have b:decide ((n:Int)<=1114111)=decide (n<=1114111):=by
  by_cases h:n<=1114111
  .rw[decide_eq_true h,decide_eq_true (by omega)]
  .rw[decide_eq_false h,decide_eq_false (by omega)]
 rw[Q16,a,b,Qid];by_cases h1:n<55296
 .rw[decide_eq_true (show(n:Int)<55296 by omega),decide_eq_true (show n<=1114111 by omega),decide_eq_false (show ¬ 55296<=n by omega)]; rfl
 .rw[decide_eq_false (show ¬ (n:Int)<55296 by omega),decide_eq_true (show 55296<=n by omega)];by_cases h2:n<=57343
  .rw[decide_eq_false (show ¬ (n:Int)>57343 by omega),decide_eq_true h2,decide_eq_true (show n<=1114111 by omega)]; rfl
  .rw[decide_eq_true (show(n:Int)>57343 by omega),decide_eq_false h2];cases decide (n<=1114111)<;>rfl
theorem rIsR(n:Nat):Qmb (n:Int)=some (Qid n):=by
 have a:decide ((n:Int) >= 0)=true:=decide_eq_true (by omega);have b:decide ((n:Int)<=1114111)=decide (n<=1114111):=by
  by_cases h:n<=1114111
  .rw[decide_eq_true h,decide_eq_true (by omega)]
  .rw[decide_eq_false h,decide_eq_false (by omega)]
 have c:decide ((n:Int) >= 55296)=decide (55296<=n):=by
  by_cases h:55296<=n
  .rw[decide_eq_true h,decide_eq_true (by omega)]
  .rw[decide_eq_false h,decide_eq_false (by omega)]
 have d:decide ((n:Int)<=57343)=decide (n<=57343):=by
  by_cases h:n<=57343
  .rw[decide_eq_true h,decide_eq_true (by omega)]
  .rw[decide_eq_false h,decide_eq_false (by omega)]
 rw[Qmb,a,b,c,d,Qid];cases decide (n<=1114111)<;>cases decide (55296<=n)<;>cases decide (n<=57343)<;>rfl
theorem ltC(c:UInt8)(k:Nat):decide ((c.toNat:Int)<(k:Int))=decide (c.toNat<k):=ltI _ _
theorem geC(c:UInt8)(k:Nat):decide ((c.toNat:Int) >= (k:Int))=decide (k<=c.toNat):=by
 by_cases h:k<=c.toNat
 .rw[decide_eq_true h,decide_eq_true (by omega)]
 .rw[decide_eq_false h,decide_eq_false (by omega)]
def endP(o:Option Nat)(least m:Nat):Nat×Nat:=match o with
 | some n=>if least<=n/\Qid n=true then(n,m+1) else(65533,1)
 | none=>(65533,1)
set_option maxRecDepth 20000 in
theorem Qanj(s:List UInt8)(k:Nat)(hk:k<s.length)(hs:s.length<9223372036854775807):Qtv s k=some (((Qjz (s.drop k)).1:Int),((Qjz (s.drop k)).2:Int)):=by
 have d1:decide ((k:Int)<0)=false:=decide_eq_false (by omega);have d2:decide ((k:Int) >= (s.length:Int))=false:=decide_eq_false (by omega);have hc:=s[k].toNat_lt;have hr:cutL s (wr ((k:Int)+1)) (s.length:Int)=some (s.drop (k+1)):=by
  rw[Qa0 (by omega),Qoc (by omega) (by omega) (by omega)];simp
 rw[Qtv,d1,d2,hr,Qce hk];have l128:=ltC s[k] 128;have g192:=geC s[k] 192;have l224:=ltC s[k] 224;have g224:=geC s[k] 224;have l240:=ltC s[k] 240;have g240:=geC s[k] 240;have l248:=ltC s[k] 248;have b1:∀ a b:Bool,(if a=true then some b else some false:Option Bool)=some (a&&b):=λa b=>by cases a<;>rfl
 simp only[Bool.false_eq_true,if_false,Qac,Qax,getE hk];rw[show(128:Int)=((128:Nat):Int) from rfl,show(192:Int)=((192:Nat):Int) from rfl,show(224:Int)=((224:Nat):Int) from rfl,show(240:Int)=((240:Nat):Int) from rfl,show(248:Int)=((248:Nat):Int) from rfl,l128,g192,l224,g224,l240,g240,l248];simp only[b1,Qac];rw[Qjz];unfold Qahm;have fin:∀ (v least m:Nat),m<=3->v<64->(Qrb (s.drop (k+1)) (v:Int) (m:Int)>>=λx10 =>
   (if(!x10.2)=true then some true else if decide (x10.1<(least:Int))=true then some true else Q16 x10.1>>=λx12=>some (!x12):Option Bool)>>=λo11 =>
   if o11=true then some ((65533:Int),(1:Int)) else some (x10.1,wr ((m:Int)+1))) =
   some (((endP (if(s.drop (k+1)).length<m then none else Qy1 m (s.drop (k+1)) v) least m).1:Int),((endP (if(s.drop (k+1)).length<m then none else Qy1 m (s.drop (k+1)) v) least m).2:Int)):=λv least m hm hv=>by
  rw[Qani _ m v hm hv];cases (if(s.drop (k+1)).length<m then none else Qy1 m (s.drop (k+1)) v) with
  | none=>rfl
  | some n =>
   simp only[Qac,Bool.not_true,Bool.false_eq_true,if_false,ltI,tIsR,endP];by_cases h1:n<least
   .rw[decide_eq_true h1,if_neg (λh=>absurd h.1 (by omega):¬ (least<=n/\Qid n=true))]; rfl
   .rw[decide_eq_false h1];cases hrn:Qid n with
    | true=>rw[if_pos (⟨by omega,rfl⟩:least<=n/\true=true),Qa0 (by omega)]; rfl
    | false=>rw[if_neg (λh=>by cases h.2:¬ (least<=n/\false=true))]; rfl
 by_cases h1:s[k].toNat<128
 .rw[decide_eq_true h1,if_pos h1];simp only[if_true,Qac];rw[Qy0 (by omega) (by omega)]; rfl
 rw[decide_eq_false h1,if_neg h1];simp only[Bool.false_eq_true,if_false];have cc:∀ c:UInt8,Qcm c=true->c.toNat-128<64:=λc h=>by unfold Qcm at h; simp at h; omega
 by_cases h2:192<=s[k].toNat/\s[k].toNat<224
 .rw[decide_eq_true h2.1,decide_eq_true h2.2,if_pos h2,b31];simp only[Bool.and_true,if_true,Qac];rw[Qy0 (by omega) (by omega)];have f:=fin (s[k].toNat % 32) 128 1 (by omega) (by omega);rw[show((1:Nat):Int)=1 from rfl] at f;rw[f];have e:s[k].toNat % 32=s[k].toNat-192:=by omega
  rw[e];cases s.drop (k+1) with
  | nil=>rfl
  | cons c1 r1 =>
   simp only[List.length_cons,if_neg (by omega:¬ r1.length+1<1),Qy1];cases h:Qcm c1 with
   | false=>rfl
   | true =>
    have:=cc c1 h;have hr:Qid ((s[k].toNat-192)*64+(c1.toNat-128))=true:=by unfold Qid; rw[decide_eq_true (by omega),decide_eq_false (by omega)]; rfl
    simp only[if_true,endP,hr,and_true,true_and]
 rw[if_neg h2];have d2:(decide (192<=s[k].toNat)&&decide (s[k].toNat<224))=false:=by
  rw[Bool.and_eq_false_iff];by_cases h:192<=s[k].toNat
  .exact .inr (decide_eq_false (by omega))
  .exact .inl (decide_eq_false h)
 rw[d2];simp only[Bool.false_eq_true,if_false];by_cases h3:224<=s[k].toNat/\s[k].toNat<240
 .rw[decide_eq_true h3.1,decide_eq_true h3.2,if_pos h3,b15];simp only[Bool.and_true,if_true,Qac];rw[Qy0 (by omega) (by omega)];have f:=fin (s[k].toNat % 16) 2048 2 (by omega) (by omega);rw[show((2:Nat):Int)=2 from rfl,show((2048:Nat):Int)=2048 from rfl] at f;rw[f];have e:s[k].toNat % 16=s[k].toNat-224:=by omega
  rw[e]
  match s.drop (k+1) with
  | []=>rfl
  | [c1]=>rfl
  | c1::c2::r1 =>
   simp only[List.length_cons,if_neg (by omega:¬ r1.length+1+1<2),Qy1];cases h:Qcm c1 with
   | false=>rfl
   | true =>
    cases h' : Qcm c2 with
    | false=>simp[endP]
    | true=>simp only[if_true,endP,true_and]
 rw[if_neg h3];have d3:(decide (224<=s[k].toNat)&&decide (s[k].toNat<240))=false:=by
  rw[Bool.and_eq_false_iff];by_cases h:224<=s[k].toNat
  .exact .inr (decide_eq_false (by omega))
  .exact .inl (decide_eq_false h)
 rw[d3];simp only[Bool.false_eq_true,if_false];by_cases h4:240<=s[k].toNat/\s[k].toNat<248
 .rw[decide_eq_true h4.1,decide_eq_true h4.2,if_pos h4,b7];simp only[Bool.and_true,if_true,Qac];rw[Qy0 (by omega) (by omega)];have f:=fin (s[k].toNat % 8) 65536 3 (by omega) (by omega);rw[show((3:Nat):Int)=3 from rfl,show((65536:Nat):Int)=65536 from rfl] at f;rw[f];have e:s[k].toNat % 8=s[k].toNat-240:=by omega
  rw[e]
  match s.drop (k+1) with
  | []=>rfl
  | [c1]=>rfl
  | [c1,c2]=>rfl
  | c1::c2::c3::r1 =>
   simp only[List.length_cons,if_neg (by omega:¬ r1.length+1+1+1<3),Qy1];cases h:Qcm c1 with
   | false=>rfl
   | true =>
    cases h' : Qcm c2 with
    | false=>simp[endP]
    | true =>
     cases h'' : Qcm c3 with
     | false=>simp[endP]
     | true=>simp only[if_true,endP,true_and]
 rw[if_neg h4];have d4:(decide (240<=s[k].toNat)&&decide (s[k].toNat<248))=false:=by
  rw[Bool.and_eq_false_iff];by_cases h:240<=s[k].toNat
  .exact .inr (decide_eq_false (by omega))
  .exact .inl (decide_eq_false h)
 rw[d4];rfl
theorem Q19(l:List UInt8)(h:l≠[]):1<=(Qjz l).2/\(Qjz l).2<=l.length:=by
 cases l with
 | nil=>exact absurd rfl h
 | cons c r =>
  rw[Qjz];unfold Qahm;split
  .simp
  .split
   .split
    .split<;>simp
    .simp
   .split
    .split
     .split<;>simp
     .simp
    .split
     .split
      .split<;>simp
      .simp
     .simp
def Qo7(n:Nat):List Nat :=
 if n<128 then [n] else if n<2048 then [192+n / 64,128+n % 64] else if n<65536 then [224+n / 4096,128+n / 64 % 64,128+n % 64] else [240+n / 262144,128+n / 4096 % 64,128+n / 64 % 64,128+n % 64]
theorem Qaho(l:List Nat)(h:∀ x ∈ l,x<256)(m:List UInt8):(l.map UInt8.ofNat==m)=decide (l=m.map UInt8.toNat):=by
 have key:l.map UInt8.ofNat=m↔l=m.map UInt8.toNat:=by
  constructor
  .intro e;subst e;rw[List.map_map]
   conv=>lhs; rw[<-List.map_id l]
   refine List.map_congr_left λx hx=>?_
   have:=h x hx;show x=(UInt8.ofNat x).toNat
   rw[UInt8.toNat_ofNat', Nat.mod_eq_of_lt this]
  .intro e;subst e;rw[List.map_map]
   conv=>rhs; rw[<-List.map_id m]
   exact List.map_congr_left λx _=>by simp
 by_cases he:l.map UInt8.ofNat=m
 .rw[decide_eq_true (key.1 he),beq_iff_eq]; exact he
 .rw[decide_eq_false (λk=>he (key.2 k)),beq_eq_false_iff_ne]; exact he
theorem Q7l(l:List Nat)(h:∀ x ∈ l,x<256):b2s (l.map λx:Nat=>(x:Int))=some (l.map UInt8.ofNat):=by
 unfold b2s;rw[if_pos]
 .rw[List.map_map]; rfl
 .rw[List.all_eq_true];intro n hn;obtain⟨x,hx,rfl⟩:=List.mem_map.1 hn;have:=h x hx;simp only[decide_eq_true_eq];omega
theorem td(n k:Nat):((n:Int).tdiv (k:Int))=((n / k:Nat):Int):=by rw[Int.tdiv_eq_ediv_of_nonneg (by omega)]; rfl
theorem tm(n k:Nat):((n:Int).tmod (k:Int))=((n % k:Nat):Int):=by rw[Int.tmod_eq_emod_of_nonneg (by omega)]; rfl
theorem wrN(n:Nat)(h:n<9000000000000):wr (n:Int)=(n:Int):=Qff (by omega) (by omega)
theorem u8N(n:Nat)(h:n<256):IntKind.u8.wrap (n:Int)=(n:Int):=Qalk (by omega) (by omega)
set_option maxRecDepth 20000 in
theorem Qaln(n:Nat)(h:Qid n=true):Qlo (n:Int)=some ((Qo7 n).map UInt8.ofNat):=by
 have hn:n<=1114111:=by unfold Qid at h; rw[Bool.and_eq_true] at h; exact of_decide_eq_true h.1
 have a1:decide ((n:Int)<128)=decide (n<128):=ltI n 128;have a2:decide ((n:Int)<2048)=decide (n<2048):=ltI n 2048;have a3:decide ((n:Int)<65536)=decide (n<65536):=ltI n 65536;have d64:(n:Int).tdiv 64=((n / 64:Nat):Int):=td n 64;have m64:(n:Int).tmod 64=((n % 64:Nat):Int):=tm n 64;have d4096:(n:Int).tdiv 4096=((n / 4096:Nat):Int):=td n 4096;have d262:(n:Int).tdiv 262144=((n / 262144:Nat):Int):=td n 262144;have w1:∀ a b:Nat,a+b<256->IntKind.u8.wrap (wr ((a:Int)+(b:Int)))=((a+b:Nat):Int):=λa b h=>by
  rw[Qff (by omega) (by omega),Qalk (by omega) (by omega)]; rfl
 rw[Qlo,rIsR,h];simp only[Qac,Bool.not_true,Bool.false_eq_true,if_false,a1,a2,a3,d64,m64,d4096,d262];rw[wrN (n / 64) (by omega),wrN (n / 4096) (by omega),wrN (n / 262144) (by omega)];have t64:(((n / 64:Nat):Int)).tmod 64=((n / 64 % 64:Nat):Int):=tm (n / 64) 64;have t4096:(((n / 4096:Nat):Int)).tmod 64=((n / 4096 % 64:Nat):Int):=tm (n / 4096) 64;rw[t64,t4096];unfold Qo7;by_cases h1:n<128
 .rw[decide_eq_true h1,if_pos h1,u8N n (by omega)];simp only[if_true];have:=Q7l [n] (by simp; omega);simp only[List.map_cons,List.map_nil] at this;rw[this]; rfl
 rw[decide_eq_false h1,if_neg h1];by_cases h2:n<2048
 .rw[decide_eq_true h2,if_pos h2];have e1:=w1 192 (n / 64) (by omega);have e2:=w1 128 (n % 64) (by omega);have:=Q7l [192+n / 64,128+n % 64] (by simp; omega);simp only[List.map_cons,List.map_nil] at this;simp only[Bool.false_eq_true,if_false,if_true];rw[show(192:Int)=((192:Nat):Int) from rfl,show(128:Int)=((128:Nat):Int) from rfl,e1,e2,this]; rfl
 rw[decide_eq_false h2,if_neg h2];by_cases h3:n<65536
 .rw[decide_eq_true h3,if_pos h3];have e1:=w1 224 (n / 4096) (by omega);have e2:=w1 128 (n / 64 % 64) (by omega);have e3:=w1 128 (n % 64) (by omega);have:=Q7l [224+n / 4096,128+n / 64 % 64,128+n % 64] (by simp; omega);simp only[List.map_cons,List.map_nil] at this;simp only[Bool.false_eq_true,if_false,if_true];rw[show(224:Int)=((224:Nat):Int) from rfl,show(128:Int)=((128:Nat):Int) from rfl,e1,e2,e3,this]; rfl
 rw[decide_eq_false h3,if_neg h3];have e0:=w1 240 (n / 262144) (by omega);have e1:=w1 128 (n / 4096 % 64) (by omega);have e2:=w1 128 (n / 64 % 64) (by omega);have e3:=w1 128 (n % 64) (by omega);have:=Q7l [240+n / 262144,128+n / 4096 % 64,128+n / 64 % 64,128+n % 64] (by simp; omega);simp only[List.map_cons,List.map_nil] at this;simp only[Bool.false_eq_true,if_false];rw[show(240:Int)=((240:Nat):Int) from rfl,show(128:Int)=((128:Nat):Int) from rfl,e0,e1,e2,e3,this]; rfl
theorem Qafl(n:Nat)(h:n<=1114111):∀ x ∈ Qo7 n,x<256:=by
 unfold Qo7;split
 .simp; omega
 .split
  .simp; omega
  .split<;>simp<;>omega
theorem Qank(s:List UInt8)(k m:Nat)(hm:k+m<=s.length)(hs:s.length<9000000000000)(n:Int) :
  ( if(decide (n >= 0))=true then
    Qmb n>>=λx11 =>
    if x11=true then
     Qlo n>>=λx12 =>
     cutL s k (wr ((k:Int)+m))>>=λx13 =>
     some (x12==x13)
    else
     some false
   else
    some false:Option Bool)=some (decide (0<=n)&&(Qid n.toNat&&decide (Qo7 n.toNat=((s.take (k+m)).drop k).map UInt8.toNat))):=by
 have e:wr ((k:Int)+m)=((k+m:Nat):Int):=by rw[Qff (by omega) (by omega)]; rfl
 by_cases h:0<=n
 .obtain⟨v,rfl⟩:∃ v:Nat,n=v:=⟨n.toNat,by omega⟩;rw[decide_eq_true (show(v:Int) >= 0 by omega),rIsR,e,Qoc (by omega) (by omega) (by omega)];simp only[if_true,Qac,Int.toNat_natCast,Bool.true_and];cases hr:Qid v with
  | false=>rfl
  | true =>
   have hv:v<=1114111:=by unfold Qid at hr; rw[Bool.and_eq_true] at hr; exact of_decide_eq_true hr.1
   rw[Qaln v hr];simp only[if_true,Qac,Qaho _ (Qafl v hv),Bool.true_and]
 .rw[decide_eq_false (show ¬ n >= 0 from h)]; rfl
theorem wr64(a b:Int)(ha : -3000000<=a)(ha2:a<=3000000)(hb:0<=b)(hb2:b<=255):wr ((wr ((wr (64*a))+(wr b)))-128)=64*a+b-128:=by
 rw[Qff (n:=64*a) (by omega) (by omega),Qff (n:=b) (by omega) (by omega),Qff (n:=64*a+b) (by omega) (by omega),Qff (by omega) (by omega)]
def addN(a:Int)(c:UInt8):Int:=64*a+c.toNat-128
theorem rL2(s:List UInt8)(k:Nat)(v6:List Int)(m:Nat)(hm:k+m<=s.length)(hm4:m<=4)(hs:s.length<9000000000000):∀ d (i:Nat) (v:Int),i+d=m->1<=i->(i=1 -> -300<=v/\v<=300)->(i=2 -> -30000<=v/\v<=30000)->(i=3 -> -3000000<=v/\v<=3000000) ->
  Qd6 s k v6 m v i=some (((s.drop (k+i)).take d).foldl addN v):=by
 intro d
 induction d with
 | zero =>
  intro i v hi _ _ _ _;rw[Qd6,ltI,decide_eq_false (by omega:¬ i<m)];simp
 | succ d ih =>
  intro i v hi hi1 h1 h2 h3;have hk:k+i<s.length:=by omega
  have e1:wr ((k:Int)+i)=((k+i:Nat):Int):=by rw[Qff (by omega) (by omega)]; rfl
  have hc:=s[k+i].toNat_lt;have hb : -3000000<=v/\v<=3000000:=by omega
  rw[Qd6,ltI,decide_eq_true (by omega:i<m),e1,Qa0 (by omega)];simp only[if_true,Qax,getE hk,Qac];rw[wr64 v _ hb.1 hb.2 (by omega) (by omega),Qce hk,List.take_succ_cons,List.foldl_cons];exact ih (i+1) (addN v s[k+i]) (by omega) (by omega) (by omega) (by unfold addN; omega) (by unfold addN; omega)
def Qy2:List Int:=[0,0,192,224,240]
def numN(c:UInt8)(r:List UInt8)(m:Nat):Int:=(r.take (m-1)).foldl addN ((c.toNat:Int)-(Qy2[m]?.getD 0))
def tstB(c:UInt8)(r:List UInt8)(m:Nat):Bool:=decide (0<=numN c r m)&&(Qid (numN c r m).toNat&&decide (Qo7 (numN c r m).toNat=((c::r).take m).map UInt8.toNat))
theorem rL1(s:List UInt8)(k:Nat)(hk:k<s.length)(hs:s.length<9000000000000)(m:Nat)(h1:1<=m)(h4:m<=4) :
  Qcw s k Qy2 m=if k+m<=s.length then(if tstB s[k] (s.drop (k+1)) m=true then some (.inr (numN s[k] (s.drop (k+1)) m,(m:Int))) else Qcw s k Qy2 ((m+1:Nat):Int)) else some (.inl ()):=by
 have e0:wr ((s.length:Int)-k)=((s.length-k:Nat):Int):=by rw[Qff (by omega) (by omega)]; omega
 have a4:decide ((m:Int)<=4)=true:=decide_eq_true (by omega);have hc:=s[k].toNat_lt;rw[Qcw,e0,a4];by_cases hm:k+m<=s.length
 .have a5:decide ((m:Int)<=((s.length-k:Nat):Int))=true:=decide_eq_true (by omega);obtain⟨ld,hld,hl0,hl1⟩:∃ ld:Int,Qy2[m]? = some ld/\0<=ld/\ld<=240:=by
   match m,h1,h4 with
   | 1,_,_=>exact⟨0,rfl,by omega,by omega⟩
   | 2,_,_=>exact⟨192,rfl,by omega,by omega⟩
   | 3,_,_=>exact⟨224,rfl,by omega,by omega⟩
   | 4,_,_=>exact⟨240,rfl,by omega,by omega⟩
  have ew:wr ((wr (s[k].toNat:Int))-ld)=(s[k].toNat:Int)-ld:=by rw[Qff (n:=(s[k].toNat:Int)) (by omega) (by omega),Qff (by omega) (by omega)]
  have h2:=rL2 s k Qy2 m hm h4 hs (m-1) 1 ((s[k].toNat:Int)-ld) (by omega) (by omega) (by omega) (by omega) (by omega);have en:numN s[k] (s.drop (k+1)) m=((s.drop (k+1)).take (m-1)).foldl addN ((s[k].toNat:Int)-ld):=by rw[numN,hld]; rfl
  rw[<-en,show((1:Nat):Int)=1 from rfl] at h2;have ht:=Qank s k m hm hs (numN s[k] (s.drop (k+1)) m);have et:((s.take (k+m)).drop k)=((s[k]::s.drop (k+1)).take m):=by rw[<-Qce hk,List.drop_take]; congr 1; omega
  rw[et] at ht;rw[a5,if_pos hm,Qa0 (by omega)];simp only[if_true,Qac,Qax,getE hk,hld,ew,h2];rw[ht];rfl
 .have a5:decide ((m:Int)<=((s.length-k:Nat):Int))=false:=decide_eq_false (by omega);rw[a5,if_neg hm];rfl
theorem tst1(c:UInt8)(r:List UInt8):tstB c r 1=decide (c.toNat<128)/\numN c r 1=(c.toNat:Int):=by
 have hc:=c.toNat_lt;have en:numN c r 1=(c.toNat:Int):=by simp[numN,Qy2]
 refine⟨?_,en⟩;have hr:Qid c.toNat=true:=by unfold Qid; rw[decide_eq_true (by omega),decide_eq_false (by omega)]; rfl
 rw[tstB,en,decide_eq_true (by omega),Int.toNat_natCast,hr];simp only[Bool.true_and,List.take_succ_cons,List.take_zero,List.map_cons,List.map_nil];unfold Qo7;by_cases h:c.toNat<128
 .rw[decide_eq_true h,if_pos h]; simp
 .rw[decide_eq_false h,if_neg h,if_pos (by omega)];simp
theorem tst2(c c1:UInt8)(r:List UInt8):tstB c (c1::r) 2=decide ((192<=c.toNat/\c.toNat<224)/\Qcm c1=true/\128<=(c.toNat-192)*64+(c1.toNat-128))/\numN c (c1::r) 2=64*((c.toNat:Int)-192)+c1.toNat-128:=by
 have hc:=c.toNat_lt;have hc1:=c1.toNat_lt;have en:numN c (c1::r) 2=64*((c.toNat:Int)-192)+c1.toNat-128:=by simp[numN,Qy2,addN]
 refine⟨?_,en⟩;rw[tstB,en];simp only[List.take_succ_cons,List.take_zero,List.map_cons,List.map_nil];have hcont:Qcm c1=true↔(128<=c1.toNat/\c1.toNat<192):=by unfold Qcm; simp
 by_cases hn:0<=64*((c.toNat:Int)-192)+c1.toNat-128
 .obtain⟨n,hn2⟩:∃ n:Nat,64*((c.toNat:Int)-192)+c1.toNat-128=n:=⟨(64*((c.toNat:Int)-192)+c1.toNat-128).toNat,by omega⟩;rw[hn2,Int.toNat_natCast,decide_eq_true (by omega),Bool.true_and];have hlt:n<5000:=by omega
  have hr:Qid n=true:=by unfold Qid; rw[decide_eq_true (by omega),decide_eq_false (by omega)]; rfl
  rw[hr,Bool.true_and];congr 1;apply propext;rw[hcont];unfold Qo7;by_cases h1:n<128
  .rw[if_pos h1];constructor
   .intro h; simp at h
   .intro h; omega
  .rw[if_neg h1];by_cases h2:n<2048
   .rw[if_pos h2];simp only[List.cons.injEq,and_true];omega
   .rw[if_neg h2,if_pos (by omega)];constructor
    .intro h; simp at h
    .intro h; omega
 .rw[decide_eq_false hn,Bool.false_and,decide_eq_false];rw[hcont]; omega
theorem tst3(c c1 c2:UInt8)(r:List UInt8):tstB c (c1::c2::r) 3=decide ((224<=c.toNat/\c.toNat<240)/\Qcm c1=true/\Qcm c2=true/\2048<=((c.toNat-224)*64+(c1.toNat-128))*64+(c2.toNat-128)/\Qid (((c.toNat-224)*64+(c1.toNat-128))*64+(c2.toNat-128))=true) /\
  numN c (c1::c2::r) 3=64*(64*((c.toNat:Int)-224)+c1.toNat-128)+c2.toNat-128:=by
 have hc:=c.toNat_lt;have hc1:=c1.toNat_lt;have hc2:=c2.toNat_lt;have en:numN c (c1::c2::r) 3=64*(64*((c.toNat:Int)-224)+c1.toNat-128)+c2.toNat-128:=by simp[numN,Qy2,addN]
 refine⟨?_,en⟩;rw[tstB,en];simp only[List.take_succ_cons,List.take_zero,List.map_cons,List.map_nil];have hcont:Qcm c1=true↔(128<=c1.toNat/\c1.toNat<192):=by unfold Qcm; simp
 have hcont2:Qcm c2=true↔(128<=c2.toNat/\c2.toNat<192):=by unfold Qcm; simp
 by_cases hn:0<=64*(64*((c.toNat:Int)-224)+c1.toNat-128)+c2.toNat-128
 .obtain⟨n,hn2⟩:∃ n:Nat,64*(64*((c.toNat:Int)-224)+c1.toNat-128)+c2.toNat-128=n:=⟨(64*(64*((c.toNat:Int)-224)+c1.toNat-128)+c2.toNat-128).toNat,by omega⟩;rw[hn2,Int.toNat_natCast,decide_eq_true (by omega),Bool.true_and];have hlt:n<200000:=by omega
  have key:Qo7 n=[c.toNat,c1.toNat,c2.toNat]↔((224<=c.toNat/\c.toNat<240)/\(128<=c1.toNat/\c1.toNat<192)/\(128<=c2.toNat/\c2.toNat<192)/\2048<=n):=by
   unfold Qo7;by_cases h1:n<128
   .rw[if_pos h1];exact⟨λh=>by simp at h,λh=>by omega⟩
   rw[if_neg h1];by_cases h2:n<2048
   .rw[if_pos h2];exact⟨λh=>by simp at h,λh=>by omega⟩
   rw[if_neg h2];by_cases h3:n<65536
   .rw[if_pos h3];simp only[List.cons.injEq,and_true];omega
   .rw[if_neg h3];exact⟨λh=>by simp at h,λh=>by omega⟩
  rw[Bool.eq_iff_iff];simp only[Bool.and_eq_true,decide_eq_true_eq];rw[key,hcont,hcont2];constructor
  .rintro ⟨hr,a,b,c', d⟩;have e:((c.toNat-224)*64+(c1.toNat-128))*64+(c2.toNat-128)=n:=by omega
   exact⟨a,b,c', by omega,by rw[e]; exact hr⟩
  .rintro ⟨a,b,c', d,hr⟩;have e:((c.toNat-224)*64+(c1.toNat-128))*64+(c2.toNat-128)=n:=by omega
   rw[e] at hr d;exact⟨hr,a,b,c', d⟩
 .rw[decide_eq_false hn,Bool.false_and,decide_eq_false];rw[hcont,hcont2]; omega
theorem tst4(c c1 c2 c3:UInt8)(r:List UInt8):tstB c (c1::c2::c3::r) 4=decide ((240<=c.toNat/\c.toNat<248)/\Qcm c1=true/\Qcm c2=true/\Qcm c3=true/\65536<=(((c.toNat-240)*64+(c1.toNat-128))*64+(c2.toNat-128))*64+(c3.toNat-128)/\Qid ((((c.toNat-240)*64+(c1.toNat-128))*64+(c2.toNat-128))*64+(c3.toNat-128))=true) /\
  numN c (c1::c2::c3::r) 4=64*(64*(64*((c.toNat:Int)-240)+c1.toNat-128)+c2.toNat-128)+c3.toNat-128:=by
 have hc:=c.toNat_lt;have hc1:=c1.toNat_lt;have hc2:=c2.toNat_lt;have hc3:=c3.toNat_lt;have en:numN c (c1::c2::c3::r) 4=64*(64*(64*((c.toNat:Int)-240)+c1.toNat-128)+c2.toNat-128)+c3.toNat-128:=by simp[numN,Qy2,addN]
 refine⟨?_,en⟩;rw[tstB,en];simp only[List.take_succ_cons,List.take_zero,List.map_cons,List.map_nil];have hcont:Qcm c1=true↔(128<=c1.toNat/\c1.toNat<192):=by unfold Qcm; simp
 have hcont2:Qcm c2=true↔(128<=c2.toNat/\c2.toNat<192):=by unfold Qcm; simp
 have hcont3:Qcm c3=true↔(128<=c3.toNat/\c3.toNat<192):=by unfold Qcm; simp
 by_cases hn:0<=64*(64*(64*((c.toNat:Int)-240)+c1.toNat-128)+c2.toNat-128)+c3.toNat-128
 .obtain⟨n,hn2⟩:∃ n:Nat,64*(64*(64*((c.toNat:Int)-240)+c1.toNat-128)+c2.toNat-128)+c3.toNat-128=n:=⟨(64*(64*(64*((c.toNat:Int)-240)+c1.toNat-128)+c2.toNat-128)+c3.toNat-128).toNat,by omega⟩;rw[hn2,Int.toNat_natCast,decide_eq_true (by omega),Bool.true_and];have key:Qid n=true->(Qo7 n=[c.toNat,c1.toNat,c2.toNat,c3.toNat]↔((240<=c.toNat/\c.toNat<248)/\(128<=c1.toNat/\c1.toNat<192)/\(128<=c2.toNat/\c2.toNat<192)/\(128<=c3.toNat/\c3.toNat<192)/\65536<=n)):=λhr=>by
   have hlt:n<=1114111:=by unfold Qid at hr; rw[Bool.and_eq_true] at hr; exact of_decide_eq_true hr.1
   unfold Qo7;by_cases h1:n<128
   .rw[if_pos h1];exact⟨λh=>by simp at h,λh=>by omega⟩
   rw[if_neg h1];by_cases h2:n<2048
   .rw[if_pos h2];exact⟨λh=>by simp at h,λh=>by omega⟩
   rw[if_neg h2];by_cases h3:n<65536
   .rw[if_pos h3];exact⟨λh=>by simp at h,λh=>by omega⟩
   .rw[if_neg h3];simp only[List.cons.injEq,and_true];omega
  rw[Bool.eq_iff_iff];simp only[Bool.and_eq_true,decide_eq_true_eq];rw[hcont,hcont2,hcont3];constructor
  .rintro ⟨hr,hb⟩;obtain⟨a,b,c', d', d⟩:=(key hr).1 hb;have e:(((c.toNat-240)*64+(c1.toNat-128))*64+(c2.toNat-128))*64+(c3.toNat-128)=n:=by omega
   exact⟨a,b,c', d', by omega,by rw[e]; exact hr⟩
  .rintro ⟨a,b,c', d', d,hr⟩;have e:(((c.toNat-240)*64+(c1.toNat-128))*64+(c2.toNat-128))*64+(c3.toNat-128)=n:=by omega
   rw[e] at hr d;exact⟨hr,(key hr).2 ⟨a,b,c', d', d⟩⟩
 .rw[decide_eq_false hn,Bool.false_and,decide_eq_false];rw[hcont,hcont2,hcont3]; omega
theorem Qanl(s:List UInt8)(k:Nat)(hk:k<s.length)(hs:s.length<9000000000000):Qk0 s k=some (((Qjz (s.drop k)).1:Int),((Qjz (s.drop k)).2:Int)):=by
 have d1:decide ((k:Int)<0)=false:=decide_eq_false (by omega);have d2:decide ((k:Int) >= (s.length:Int))=false:=decide_eq_false (by omega);have hc:=s[k].toNat_lt;have l1:=rL1 s k hk hs 1 (by omega) (by omega);have l2:=rL1 s k hk hs 2 (by omega) (by omega);have l3:=rL1 s k hk hs 3 (by omega) (by omega);have l4:=rL1 s k hk hs 4 (by omega) (by omega);have l5:Qcw s k Qy2 ((4+1:Nat):Int)=some (.inl ()):=by
  rw[Qcw,show decide (((4+1:Nat):Int)<=4)=false from rfl];simp only[Bool.false_eq_true,if_false,Qac]
 have hdl:(s.drop (k+1)).length=s.length-(k+1):=List.length_drop;rw[Qk0,d1,d2,Qce hk,Qjz];show(Qcw s k Qy2 ((1:Nat):Int)>>=_)=_;rw[l1,if_pos (by omega),(tst1 _ _).1,(tst1 _ _).2,l2];unfold Qahm;by_cases h1:s[k].toNat<128
 .rw[decide_eq_true h1,if_pos rfl,if_pos h1]; rfl
 rw[decide_eq_false h1,if_neg (by decide),if_neg h1];generalize hr:s.drop (k+1)=r at *
 match r with
 | [] =>
  simp at hdl;rw[if_neg (by omega)];simp
 | [c1] =>
  simp at hdl;have hc1:=c1.toNat_lt;rw[if_pos (by omega),(tst2 _ _ _).1,(tst2 _ _ _).2,l3,if_neg (by omega:¬ k+3<=s.length)];dsimp only;by_cases h2:192<=s[k].toNat/\s[k].toNat<224
  .rw[if_pos h2];by_cases h3:Qcm c1=true/\128<=(s[k].toNat-192)*64+(c1.toNat-128)
   .have h4:128<=c1.toNat:=by have:=h3.1; unfold Qcm at this; simp at this; exact this.1
    rw[decide_eq_true ⟨h2,h3⟩,if_pos rfl,if_pos h3];simp only[Qac];congr 2;omega
   .rw[decide_eq_false (λh=>h3 h.2),if_neg (by decide),if_neg h3]; rfl
  .rw[decide_eq_false (λh=>h2 h.1),if_neg (by decide),if_neg h2];simp
 | [c1,c2] =>
  simp at hdl;have hc1:=c1.toNat_lt;have hc2:=c2.toNat_lt;rw[if_pos (by omega),(tst2 _ _ _).1,(tst2 _ _ _).2,l3,if_pos (by omega:k+3<=s.length),(tst3 _ _ _ _).1,(tst3 _ _ _ _).2,l4,if_neg (by omega:¬ k+4<=s.length)];dsimp only;by_cases h2:192<=s[k].toNat/\s[k].toNat<224
  .rw[if_pos h2];by_cases h3:Qcm c1=true/\128<=(s[k].toNat-192)*64+(c1.toNat-128)
   .have h4:128<=c1.toNat:=by have:=h3.1; unfold Qcm at this; simp at this; exact this.1
    rw[decide_eq_true ⟨h2,h3⟩,if_pos rfl,if_pos h3];simp only[Qac];congr 2;omega
   .rw[decide_eq_false (λh=>h3 h.2),if_neg (by decide),if_neg h3,decide_eq_false (λh=>by have:=h.1; omega),if_neg (by decide)]; rfl
  .rw[decide_eq_false (λh=>h2 h.1),if_neg (by decide),if_neg h2];by_cases h5:224<=s[k].toNat/\s[k].toNat<240
   .rw[if_pos h5];by_cases h6:Qcm c1=true/\Qcm c2=true/\2048<=((s[k].toNat-224)*64+(c1.toNat-128))*64+(c2.toNat-128)/\Qid (((s[k].toNat-224)*64+(c1.toNat-128))*64+(c2.toNat-128))=true
    .have h4:128<=c1.toNat:=by have:=h6.1; unfold Qcm at this; simp at this; exact this.1
     have h4' : 128<=c2.toNat:=by have:=h6.2.1; unfold Qcm at this; simp at this; exact this.1
     rw[decide_eq_true ⟨h5,h6⟩,if_pos rfl,if_pos h6];simp only[Qac];congr 2;omega
    .rw[decide_eq_false (λh=>h6 h.2),if_neg (by decide),if_neg h6]; rfl
   .rw[decide_eq_false (λh=>h5 h.1),if_neg (by decide),if_neg h5];simp
 | c1::c2::c3::r =>
  simp at hdl;have hc1:=c1.toNat_lt;have hc2:=c2.toNat_lt;have hc3:=c3.toNat_lt;rw[if_pos (by omega),(tst2 _ _ _).1,(tst2 _ _ _).2,l3,if_pos (by omega:k+3<=s.length),(tst3 _ _ _ _).1,(tst3 _ _ _ _).2,l4,if_pos (by omega:k+4<=s.length),(tst4 _ _ _ _ _).1,(tst4 _ _ _ _ _).2,l5];dsimp only;by_cases h2:192<=s[k].toNat/\s[k].toNat<224
  .rw[if_pos h2];by_cases h3:Qcm c1=true/\128<=(s[k].toNat-192)*64+(c1.toNat-128)
   .have h4:128<=c1.toNat:=by have:=h3.1; unfold Qcm at this; simp at this; exact this.1
    rw[decide_eq_true ⟨h2,h3⟩,if_pos rfl,if_pos h3];simp only[Qac];congr 2;omega
   .rw[decide_eq_false (λh=>h3 h.2),if_neg (by decide),if_neg h3,decide_eq_false (λh=>by have:=h.1; omega),if_neg (by decide),decide_eq_false (λh=>by have:=h.1; omega),if_neg (by decide)]; rfl
  .rw[decide_eq_false (λh=>h2 h.1),if_neg (by decide),if_neg h2];by_cases h5:224<=s[k].toNat/\s[k].toNat<240
   .rw[if_pos h5];by_cases h6:Qcm c1=true/\Qcm c2=true/\2048<=((s[k].toNat-224)*64+(c1.toNat-128))*64+(c2.toNat-128)/\Qid (((s[k].toNat-224)*64+(c1.toNat-128))*64+(c2.toNat-128))=true
    .have h4:128<=c1.toNat:=by have:=h6.1; unfold Qcm at this; simp at this; exact this.1
     have h4' : 128<=c2.toNat:=by have:=h6.2.1; unfold Qcm at this; simp at this; exact this.1
     rw[decide_eq_true ⟨h5,h6⟩,if_pos rfl,if_pos h6];simp only[Qac];congr 2;omega
    .rw[decide_eq_false (λh=>h6 h.2),if_neg (by decide),if_neg h6,decide_eq_false (λh=>by have:=h.1; omega),if_neg (by decide)]; rfl
   .rw[decide_eq_false (λh=>h5 h.1),if_neg (by decide),if_neg h5];by_cases h7:240<=s[k].toNat/\s[k].toNat<248
    .rw[if_pos h7];by_cases h8:Qcm c1=true/\Qcm c2=true/\Qcm c3=true/\65536<=(((s[k].toNat-240)*64+(c1.toNat-128))*64+(c2.toNat-128))*64+(c3.toNat-128)/\Qid ((((s[k].toNat-240)*64+(c1.toNat-128))*64+(c2.toNat-128))*64+(c3.toNat-128))=true
     .have h4:128<=c1.toNat:=by have:=h8.1; unfold Qcm at this; simp at this; exact this.1
      have h4' : 128<=c2.toNat:=by have:=h8.2.1; unfold Qcm at this; simp at this; exact this.1
      have h4'' : 128<=c3.toNat:=by have:=h8.2.2.1; unfold Qcm at this; simp at this; exact this.1
      rw[decide_eq_true ⟨h7,h8⟩,if_pos rfl,if_pos h8];simp only[Qac];congr 2;omega
     .rw[decide_eq_false (λh=>h8 h.2),if_neg (by decide),if_neg h8]; rfl
    .rw[decide_eq_false (λh=>h7 h.1),if_neg (by decide),if_neg h7];rfl
def utfF:Nat->List UInt8->Bool
 | 0,_=>true
 | n+1,l=>match l with
  | []=>true
  | _::_=>if(Qjz l).1=65533/\(Qjz l).2=1 then false else utfF n (l.drop (Qjz l).2)
theorem Q7m(n:Nat)(l:List UInt8)(h:l≠[]):utfF (n+1) l=if(Qjz l).1=65533/\(Qjz l).2=1 then false else utfF n (l.drop (Qjz l).2):=by
 cases l with
 | nil=>exact absurd rfl h
 | cons c r=>rfl
theorem badI(p:Nat×Nat):(if(((p.1:Nat):Int)==65533)=true then some (((p.2:Nat):Int)==1) else some false:Option Bool)=some (decide (p.1=65533/\p.2=1)):=by
 have a:=eqN p.1 65533;have b:=eqN p.2 1;rw[show(65533:Int)=((65533:Nat):Int) from rfl,show(1:Int)=((1:Nat):Int) from rfl,a,b];by_cases h1:p.1=65533
 .rw[beq_iff_eq.2 h1,if_pos rfl];by_cases h2:p.2=1
  .rw[beq_iff_eq.2 h2,decide_eq_true ⟨h1,h2⟩]
  .rw[beq_eq_false_iff_ne.2 h2,decide_eq_false (λh=>h2 h.2)]
 .rw[beq_eq_false_iff_ne.2 h1,if_neg (by decide),decide_eq_false (λh=>h1 h.1)]
theorem rIsU(s:List UInt8)(hs:s.length<9000000000000):∀ n k,k<=s.length->s.length-k<=n->Qnm s k=some (if utfF n (s.drop k)=true then .inl () else .inr ()):=by
 intro n
 induction n with
 | zero =>
  intro k h1 h2;rw[Qnm,ltI,decide_eq_false (by omega:¬ k<s.length)];rfl
 | succ n ih =>
  intro k h1 h2;by_cases hk:k<s.length
  .have hne:s.drop k≠[]:=by rw[Qce hk]; exact List.cons_ne_nil _ _
   obtain⟨z1,z2⟩:=Q19 _ hne;rw[List.length_drop] at z2;have ew:wr ((k:Int)+((Qjz (s.drop k)).2:Int))=((k+(Qjz (s.drop k)).2:Nat):Int):=by rw[Qff (by omega) (by omega)]; rfl
   rw[Qnm,ltI,decide_eq_true hk,Qanl s k hk hs];simp only[if_true,Qac];rw[badI (Qjz (s.drop k)),ew,ih _ (by omega) (by omega),Q7m n _ hne,List.drop_drop];by_cases hb:(Qjz (s.drop k)).1=65533/\(Qjz (s.drop k)).2=1
   .rw[decide_eq_true hb,if_pos hb]; rfl
   .rw[decide_eq_false hb,if_neg hb]; rfl
  .rw[Qnm,ltI,decide_eq_false hk,List.drop_eq_nil_of_le (by omega)];rfl
theorem tIsU(s:List UInt8)(x1:List UInt8)(hs:s.length<9000000000000):∀ n k,k<=s.length->s.length-k<=n->∃ out,Qel s k=some (out,())/\Qjx x1 out=some (if utfF n (s.drop k)=true then .inl () else .inr ()):=by
 intro n
 induction n with
 | zero =>
  intro k h1 h2;rw[Qel,ltI,decide_eq_false (by omega:¬ k<s.length)];refine⟨[],rfl,?_⟩;rw[Qjx]; rfl
 | succ n ih =>
  intro k h1 h2;by_cases hk:k<s.length
  .have hne:s.drop k≠[]:=by rw[Qce hk]; exact List.cons_ne_nil _ _
   obtain⟨z1,z2⟩:=Q19 _ hne;rw[List.length_drop] at z2;have ew:wr ((k:Int)+((Qjz (s.drop k)).2:Int))=((k+(Qjz (s.drop k)).2:Nat):Int):=by rw[Qff (by omega) (by omega)]; rfl
   obtain⟨out,o1,o2⟩:=ih (k+(Qjz (s.drop k)).2) (by omega) (by omega);rw[Qel,ltI,decide_eq_true hk,Qanj s k hk (by omega)];simp only[if_true,Qac];rw[ew,o1];refine⟨_,rfl,?_⟩;rw[Qjx];simp only;rw[badI (Qjz (s.drop k)),o2,Q7m n _ hne,List.drop_drop];by_cases hb:(Qjz (s.drop k)).1=65533/\(Qjz (s.drop k)).2=1
   .rw[decide_eq_true hb,if_pos hb]; rfl
   .rw[decide_eq_false hb,if_neg hb]; rfl
  .rw[Qel,ltI,decide_eq_false hk,List.drop_eq_nil_of_le (by omega)];refine⟨[],rfl,?_⟩;rw[Qjx]; rfl
theorem rUtf(s:List UInt8)(hs:s.length<9000000000000):Qae5 s=some (utfF s.length s):=by
 have:=rIsU s hs s.length 0 (by omega) (by omega);rw[Qae5,show(0:Int)=((0:Nat):Int) from rfl,this,List.drop_zero];cases utfF s.length s<;>rfl
theorem tUtf(s:List UInt8)(hs:s.length<9000000000000):Q7g s=some (utfF s.length s):=by
 obtain⟨out,o1,o2⟩:=tIsU s s hs s.length 0 (by omega) (by omega);rw[List.drop_zero] at o2;rw[Q7g,Q4a];simp only[Qac];rw[Qtw,show(0:Int)=((0:Nat):Int) from rfl,o1];simp only[Qac,List.append_nil,o2];cases utfF s.length s<;>rfl
def qb(c:UInt8):List UInt8:=if c=10 then [92,110] else if c=9 then [92,116] else if c=34\/c=92 then [92,c] else [c]
def qs(s:List UInt8):List UInt8:=s.flatMap qb
theorem Qafm(c:UInt8):(qb c).length<=2:=by unfold qb; split; simp; split; simp; split<;>simp
theorem Qaib:∀ s:List UInt8,(qs s).length<=2*s.length
 | []=>by simp[qs]
 | c::r=>by
  have:=Qaib r;have:=Qafm c;simp[qs] at *;omega
theorem eqC(c:UInt8)(k:Nat)(hk:k<256):((c.toNat:Int)==(k:Int))=decide (c=UInt8.ofNat k):=by
 rw[eqN];by_cases h:c.toNat=k
 .rw[beq_iff_eq.2 h,decide_eq_true];apply UInt8.toNat_inj.1;rw[h,UInt8.toNat_ofNat', Nat.mod_eq_of_lt hk]
 .rw[beq_eq_false_iff_ne.2 h,decide_eq_false];intro e; apply h; rw[e,UInt8.toNat_ofNat', Nat.mod_eq_of_lt hk]
theorem Qajn(s:List UInt8)(hs:s.length<=1000000):∀ k,k<=s.length->∀ acc:List Int,acc.length<=2*k+1->Qc1 s acc k=some (acc++s2b (qs (s.drop k))):=by
 refine upto ?_ λk hk ih=>?_
 .intro acc _;rw[Qc1]; simp[qs,s2b]
 .intro acc ha;have e10:=eqC s[k] 10 (by omega);have e9:=eqC s[k] 9 (by omega);have e34:=eqC s[k] 34 (by omega);have e92:=eqC s[k] 92 (by omega);rw[Qc1,Qa0 (by omega)];simp only[ltI,hk,decide_true,if_true,Qax,getE hk,Qac];rw[show(10:Int)=((10:Nat):Int) from rfl,show(9:Int)=((9:Nat):Int) from rfl,show(34:Int)=((34:Nat):Int) from rfl,show(92:Int)=((92:Nat):Int) from rfl,e10,e9,e34,e92];have eq:qs (s.drop k)=qb s[k]++qs (s.drop (k+1)):=by rw[Qce hk]; rfl
  have step:∀ w:List UInt8,qb s[k]=w->(appL 1 acc (s2b w)>>=λx=>Qc1 s x ((k+1:Nat):Int))=some (acc++s2b (qs (s.drop k))):=λw hw=>by
   have hl:w.length<=2:=by rw[<-hw]; exact Qafm _
   rw[Qfg (by rw[Qyy]; omega) (by rw[Qyy]; omega),Qac,ih _ (by rw[List.length_append,Qyy]; omega),eq,hw,Qajd,List.append_assoc]
  by_cases h10:s[k]=10
  .rw[decide_eq_true (show s[k]=UInt8.ofNat 10 from h10)];exact step [92,110] (by unfold qb; rw[if_pos h10])
  have h10' : decide (s[k]=UInt8.ofNat 10)=false:=decide_eq_false h10;rw[h10'];by_cases h9:s[k]=9
  .rw[decide_eq_true (show s[k]=UInt8.ofNat 9 from h9)];exact step [92,116] (by unfold qb; rw[if_neg h10,if_pos h9])
  have h9' : decide (s[k]=UInt8.ofNat 9)=false:=decide_eq_false h9;rw[h9'];have e:(if decide (s[k]=UInt8.ofNat 34)=true then some (decide (s[k]=UInt8.ofNat 34)) else some (decide (s[k]=UInt8.ofNat 92)):Option Bool)=some (decide (s[k]=34\/s[k]=92)):=by
   by_cases h:s[k]=34
   .rw[decide_eq_true (show s[k]=UInt8.ofNat 34 from h),decide_eq_true (show s[k]=34\/s[k]=92 from .inl h)]; rfl
   .rw[decide_eq_false (show ¬ s[k]=UInt8.ofNat 34 from h)];by_cases h' : s[k]=92
    .rw[decide_eq_true (show s[k]=UInt8.ofNat 92 from h'),decide_eq_true (show s[k]=34\/s[k]=92 from .inr h')]; rfl
    .rw[decide_eq_false (show ¬ s[k]=UInt8.ofNat 92 from h'),decide_eq_false (show ¬ (s[k]=34\/s[k]=92) from λq=>q.elim h h')]; rfl
  simp only[Bool.false_eq_true,if_false];rw[e];simp only[Qac];by_cases h34:s[k]=34\/s[k]=92
  .rw[decide_eq_true h34];exact step [92,s[k]] (by unfold qb; rw[if_neg h10,if_neg h9,if_pos h34])
  .rw[decide_eq_false h34];exact step [s[k]] (by unfold qb; rw[if_neg h10,if_neg h9,if_neg h34])
theorem Qajo(s:List UInt8)(hs:s.length<=1000000):∀ k,k<=s.length->∀ acc:List UInt8,acc.length<=2*k+1->Qhe s acc k=some (if(s.drop k).any (· == 13)=true then .inr () else .inl (acc++qs (s.drop k))):=by
 refine upto ?_ λk hk ih=>?_
 .intro acc _;rw[Qhe]; simp[qs]
 .intro acc ha;have ec:cutL s k (wr ((k:Int)+1))=some [s[k]]:=by
   rw[Qa0 (by omega),Qoc (by omega) (by omega) (by omega),Int.toNat_natCast,Int.toNat_natCast];congr 1;rw[List.drop_take,Qce hk];have:k+1-k=1:=by omega
   rw[this]; rfl
  have eq:qs (s.drop k)=qb s[k]++qs (s.drop (k+1)):=by rw[Qce hk]; rfl
  have eany:(s.drop k).any (· == 13)=(s[k]==13||(s.drop (k+1)).any (· == 13)):=by rw[Qce hk]; rfl
  have e1:∀ b:UInt8,(([s[k]]:List UInt8)==[b])=decide (s[k]=b):=λb=>by
   rw[List.cons_beq_cons];by_cases h:s[k]=b
   .rw[decide_eq_true h,beq_iff_eq.2 h]; rfl
   .rw[decide_eq_false h,beq_eq_false_iff_ne.2 h]; rfl
  have hq:=Qafm s[k];rw[Qhe,ec,Qa0 (by omega),eany,eq];simp only[ltI,hk,decide_true,if_true,Qac,e1];by_cases h13:s[k]=13
  .rw[decide_eq_true h13,beq_iff_eq.2 h13]; rfl
  rw[decide_eq_false h13,beq_eq_false_iff_ne.2 h13];have n1:need (([92]:List UInt8).length+[s[k]].length<=9223372036854775807)=some ():=Qp2 (by simp);have step:∀ w:List UInt8,qb s[k]=w->(need (acc.length+w.length<=9223372036854775807)>>=λ_=>Qhe s (acc++w) ((k+1:Nat):Int))=some (if(s.drop (k+1)).any (· == 13)=true then .inr () else .inl (acc++(qb s[k]++qs (s.drop (k+1))))):=λw hw=>by
   rw[Qp2 (by rw[<-hw]; omega),Qac,ih _ (by rw[List.length_append,<-hw]; omega),hw,List.append_assoc]
  simp only[Bool.false_eq_true,if_false,Bool.false_or,n1,Qac];by_cases h10:s[k]=10
  .rw[decide_eq_true h10];exact step [92,110] (by unfold qb; rw[if_pos h10])
  rw[decide_eq_false h10];by_cases h9:s[k]=9
  .rw[decide_eq_true h9];exact step [92,116] (by unfold qb; rw[if_neg h10,if_pos h9])
  rw[decide_eq_false h9];by_cases h34:s[k]=34
  .rw[decide_eq_true h34];exact step ([92]++[s[k]]) (by unfold qb; rw[if_neg h10,if_neg h9,if_pos (show s[k]=34\/s[k]=92 from .inl h34)]; rfl)
  rw[decide_eq_false h34];by_cases h92:s[k]=92
  .rw[decide_eq_true h92];exact step ([92]++[s[k]]) (by unfold qb; rw[if_neg h10,if_neg h9,if_pos (show s[k]=34\/s[k]=92 from .inr h92)]; rfl)
  .rw[decide_eq_false h92];exact step [s[k]] (by unfold qb; rw[if_neg h10,if_neg h9,if_neg (show ¬ (s[k]=34\/s[k]=92) from λq=>q.elim h34 h92)])
theorem Qalo:∀ s:List UInt8,decide (Lib.indexByte s 13 >= 0)=s.any (· == 13)
 | []=>rfl
 | c::r=>by
  have ih:=Qalo r;have hg:=Lib.indexByte_ge r 13;unfold Lib.indexByte;rw[List.any_cons];cases hc:(c==13) with
  | true=>rfl
  | false =>
   simp only[Bool.false_eq_true,if_false,Bool.false_or];rw[<-ih];by_cases h1:Lib.indexByte r 13 = -1
   .rw[h1]; rfl
   .rw[if_neg (by simpa using h1),decide_eq_true (by omega),decide_eq_true (by omega)]
def quoV(s:List UInt8):List UInt8×Bool:=if utfF s.length s=true/\s.any (· == 13)=false then([34]++qs s++[34],true) else([],false)
theorem Qaic(s:List UInt8)(hs:s.length<=1000000):Qjy s=some (quoV s)/\Qqg s=some (quoV s)/\(quoV s).1.length<=2*s.length+2:=by
 unfold quoV;have hl:=Qaib s;have t:=Qajn s hs 0 (by omega) [34] (by simp);have r:=Qajo s hs 0 (by omega) [34] (by simp);rw[List.drop_zero] at t r;have e13:decide (Lib.indexByte s (13:Int).toNat.toUInt8 >= 0)=s.any (· == 13):=Qalo s;refine⟨?_,?_,?_⟩
 .rw[Qjy,tUtf s (by omega),Qgc,Qb6];simp only[Qac,e13];cases hu:utfF s.length s with
  | false=>rfl
  | true =>
   cases ha:s.any (· == 13) with
   | true=>rfl
   | false =>
    simp only[Bool.not_true,Bool.false_eq_true,if_false,Qac,if_true,and_self];rw[show(0:Int)=((0:Nat):Int) from rfl,t];simp only[Qac];rw[Qfg (by simp[Qyy]; omega) (by simp[Qyy]; omega),Qac];have e:[34]++s2b (qs s)++[34]=s2b ([34]++qs s++[34]):=by simp[s2b]
    rw[e,Qaje];rfl
 .rw[Qqg,rUtf s (by omega)];cases hu:utfF s.length s with
  | false=>rfl
  | true =>
   simp only[Qac,Bool.not_true,Bool.false_eq_true,if_false];rw[show(0:Int)=((0:Nat):Int) from rfl,r];cases ha:s.any (· == 13) with
   | true=>rfl
   | false =>
    simp only[Bool.false_eq_true,if_false,Qac,and_self,if_true];rw[Qp2 (by simp; omega)];rfl
 .split
  .simp; omega
  .simp
theorem Qafn(s:List UInt8)(hs:s.length<=1000000):∃ q,Qjy s=some q/\Qqg s=some q/\q.1.length<=2*s.length+2:=⟨_,Qaic s hs⟩
def rngN(x:Qaa):Prop := -9223372036854775808<=x.N/\x.N<=9223372036854775807
theorem Q2a(x:Qaa)(h1:x.Name.length<=40)(h2:x.Text.length<=60)(h3:rngN x):okNd x:=by
 refine⟨by omega,by omega,h3,λ_=>?_⟩;obtain⟨q,q1,q2,-⟩:=Qafn x.Text (by omega);exact⟨q,q1,q2⟩
abbrev Nm:=List UInt8
def up(l:List Nm):Prop:=l.Pairwise (· < ·)
theorem bl:∀ x y:Nm,Op.bytesLess x y=decide (x<y)
 | [],[]=>by simp[Op.bytesLess]
 | _::_,[]=>by simp[Op.bytesLess]
 | [],_::_=>by simp[Op.bytesLess]
 | a::x,b::y=>by
  rw[Op.bytesLess,bl x y];simp only[List.cons_lt_cons_iff];by_cases h1:a<b<;>by_cases h2:a=b<;>by_cases h3:x<y<;>simp[h1,h2,h3]
theorem nlt{a b:Nm}(h:a<b):¬ b<a:=λk=>List.lt_irrefl a (List.lt_trans h k)
theorem Qafo{a b:Nm}(h:¬ a<b)(k:¬ b<a):a=b:=List.le_antisymm k h
theorem Qji{l:List Nm}(h:up l):l.Nodup:=List.Pairwise.imp (λ{a b} (h:a<b) (e:a=b)=>List.lt_irrefl a (by rw[<-e] at h; exact h)) h
theorem Qvx{a b:List Nm}(ha:up a)(hb:up b)(h:∀ x,x ∈ a↔x ∈ b):a=b :=
 List.Perm.eq_of_pairwise (λ_ _ _ _ h1 h2=>absurd h2 (nlt h1)) ha hb ((List.perm_ext_iff_of_nodup (Qji ha) (Qji hb)).2 h)
def insS(s:Nm):List Nm->List Nm
 | []=>[s]
 | x::r=>if s=x then x::r else if Op.bytesLess s x then s::x::r else x::insS s r
theorem Qmg(s:Nm):∀ (l:List Nm) (x:Nm),x ∈ insS s l↔x=s\/x ∈ l
 | [],x=>by simp[insS]
 | y::r,x=>by
  unfold insS;split
  .rename_i h; subst h; simp
  .split
   .simp
   .simp only[List.mem_cons,Qmg s r];constructor
    .rintro (h | h | h)
     .exact .inr (.inl h)
     .exact .inl h
     .exact .inr (.inr h)
    .rintro (h | h | h)
     .exact .inr (.inl h)
     .exact .inl h
     .exact .inr (.inr h)
theorem Qva(s:Nm):∀ {l:List Nm},up l->up (insS s l)
 | [],_=>by simp[insS,up]
 | y::r,h=>by
  obtain⟨h1,h2⟩:=List.pairwise_cons.1 h;unfold insS;split
  .exact h
  .rename_i hne;split
   .rename_i hl;rw[bl] at hl;have hl:=of_decide_eq_true hl;exact List.pairwise_cons.2 ⟨λz hz=>by
     rcases List.mem_cons.1 hz with rfl | hz
     .exact hl
     .exact List.lt_trans hl (h1 z hz),h⟩
   .rename_i hl;rw[bl] at hl;have hl:¬ s<y:=by simpa using hl
    refine List.pairwise_cons.2 ⟨λz hz=>?_,Qva s h2⟩;rcases (Qmg s r z).1 hz with rfl | hz
    .exact Classical.byContradiction λk=>hne (Qafo hl k)
    .exact h1 z hz
def upL(l:List Nm):List Nm:=l.foldr insS []
theorem Qew:∀ {l:List Nm} {x:Nm},x ∈ upL l↔x ∈ l
 | [],x=>Iff.rfl
 | y::r,x=>by
  show x ∈ insS y (upL r)↔_;rw[Qmg,Qew (l:=r),List.mem_cons]
theorem Qhy:∀ l:List Nm,up (upL l)
 | []=>List.Pairwise.nil
 | y::r=>Qva y (Qhy r)
theorem Q7n{l:List Nm}(h:up l):upL l=l:=Qvx (Qhy l) h λ_=>Qew
theorem Qabj{a b:List Nm}(h:∀ x,x ∈ a↔x ∈ b):upL a=upL b:=Qvx (Qhy a) (Qhy b) λx=>by rw[Qew,Qew]; exact h x
theorem Qafp(l:List Nm):(upL l).length<=l.length:=by
 refine List.Nodup.length_le_of_subset (Qji (Qhy l)) λx hx=>Qew.1 hx
theorem Qaid{l:List Nm}:(l.mergeSort λx y=>decide (x<=y)).Pairwise (· <= ·):=by
 have:=List.pairwise_mergeSort (le:=λx y:Nm=>decide (x<=y)) (λa b c h1 h2=>by
  simp only[decide_eq_true_eq] at *;exact List.le_trans h1 h2) (λa b=>by
  simp only[Bool.or_eq_true,decide_eq_true_eq];exact List.le_total a b) l
 exact this.imp λh=>of_decide_eq_true h
theorem Qajp{a b:Nm}(h:a<=b)(hne:a≠b):a<b:=Classical.byContradiction λk=>hne (Qafo k h)
theorem Qafq{l:List Nm}(h:l.Nodup):(l.mergeSort λx y=>decide (x<=y))=upL l:=by
 have hn:=(List.mergeSort_perm l (λx y:Nm=>decide (x<=y))).nodup_iff.2 h;refine Qvx (List.Pairwise.imp₂ (λ{a b} h1 h2=>Qajp h1 h2) Qaid hn) (Qhy l) λx=>by rw[List.mem_mergeSort,Qew]
theorem Qy3(zs:List Nm)(hz:zs.Pairwise (· <= ·)):∀ m,m<=zs.length->up (Lib.compactUpTo zs.toArray m)/\∀ x,x ∈ Lib.compactUpTo zs.toArray m↔x ∈ zs.take m
 | 0,_=>by simp[Lib.compactUpTo,up]
 | m+1,hm=>by
  obtain⟨h1,h2⟩:=Qy3 zs hz m (by omega);have e:zs.toArray[m]! = zs[m]:=by simp[show m<zs.length by omega]
  rw[Lib.compactUpTo_succ,e,List.take_succ_eq_append_getElem (by omega)];by_cases hk:Lib.keeps zs.toArray m=true
  .rw[if_pos hk];refine⟨List.pairwise_append.2 ⟨h1,by simp,λa ha b hb=>?_⟩,λx=>by simp only[List.mem_append,h2]⟩;simp only[List.mem_singleton] at hb;subst hb;have ha:=(h2 a).1 ha;obtain⟨j,hj,rfl⟩:=List.mem_iff_getElem.1 ha;have hj2:j<m:=by simp at hj; omega
   rw[List.getElem_take];have hkk:m=0\/zs.toArray[m]! ≠ zs.toArray[m-1]! := by simpa [Lib.keeps] using hk
   have hne:zs[m]≠zs[m-1]:=by
    rcases hkk with h | h
    .omega
    .have e2:zs.toArray[m-1]! = zs[m-1]:=by simp[show m-1<zs.length by omega]
     rwa [e,e2] at h
   have hle:zs[m-1]<=zs[m]:=List.pairwise_iff_getElem.1 hz (m-1) m (by omega) (by omega) (by omega);have hlt:=Qajp hle (Ne.symm hne);by_cases hjm:j=m-1
   .subst hjm; exact hlt
   .have hle2:zs[j]<=zs[m-1]:=List.pairwise_iff_getElem.1 hz j (m-1) (by omega) (by omega) (by omega);by_cases he:zs[j]=zs[m-1]
    .rw[he]; exact hlt
    .exact List.lt_trans (Qajp hle2 he) hlt
  .rw[if_neg hk,List.append_nil];refine⟨h1,λx=>?_⟩;rw[h2,List.mem_append];refine⟨.inl,λh=>h.elim id λh=>?_⟩;simp only[List.mem_singleton] at h;subst h;have hkk:¬ (m=0\/zs.toArray[m]! ≠ zs.toArray[m-1]!):=by simpa [Lib.keeps] using hk
   have h0:m≠0:=λh=>hkk (.inl h)
   have e2:zs.toArray[m-1]! = zs[m-1]:=by simp[show m-1<zs.length by omega]
   have hq:zs[m]=zs[m-1]:=by
    refine Classical.byContradiction λk=>hkk (.inr ?_)
    rwa [e,e2]
   rw[hq];exact List.mem_iff_getElem.2 ⟨m-1,by simp; omega,by rw[List.getElem_take]⟩
theorem Qacy(l:List Nm):Lib.compact (l.mergeSort λx y=>decide (x<=y))=upL l:=by
 obtain⟨h1,h2⟩:=Qy3 _ (Qaid (l:=l)) _ (Nat.le_refl _);exact Qvx h1 (Qhy l) λx=>by
  show x ∈ Lib.compactUpTo _ _↔_;rw[h2,List.take_length,List.mem_mergeSort,Qew]
mutual
def usN:Qaa->List Nm
 | ⟨k,nm,_,_,_,t,e⟩=>(if k==13 then [nm] else [])++(usL t++usL e)
def usL:List Qaa->List Nm
 | []=>[]
 | x::r=>usN x++usL r
end
theorem Qj0(x:Qaa):usN x=(if x.Kind==13 then [x.Name] else [])++(usL x.Then++usL x.Else):=by cases x; rw[usN]
theorem Q4i:∀ n (l:List Qaa),nns l<=n->(usL l).length<=nns l:=by
 intro n
 induction n with
 | zero=>intro l h; cases l with
  | nil=>simp[usL,nns]
  | cons x r=>rw[nns] at h; have:=Qkv x; omega
 | succ n ih =>
  intro l
  induction l with
  | nil=>intro _; simp[usL,nns]
  | cons x r ihr =>
   intro h;rw[nns] at h;have h1:=Qi3 x;have h2:=ih x.Then (by omega);have h3:=ih x.Else (by omega);have h4:=ihr (by omega);rw[usL,Qj0,nns,List.length_append,List.length_append,List.length_append];split<;>simp<;>omega
def Qlx(l:List Qaa):List Nm:=upL (usL l)
theorem Qy4{n:Nat}{l:List Qaa}(h:nns l<=n):(Qlx l).length<=n:=Nat.le_trans (Qafp _) (Nat.le_trans (Q4i n l h) h)
def fndT(l:List Qad)(s:Nm):Option Qad:=l.find? (·.Name==s)
abbrev nms(l:List Qad):List Nm:=l.map (·.Name)
def suc(l:List Qad)(s:Nm):List Nm:=match fndT l s with | none=>[] | some x=>Qlx x.L
theorem Qvy(l:List Qad)(s:Nm):up (suc l s):=by
 unfold suc;split
 .exact List.Pairwise.nil
 .exact Qhy _
theorem Qom{l:List Qad}{s:Nm}:(fndT l s).isSome=true↔s ∈ nms l:=by
 unfold fndT;rw[List.find?_isSome];simp only[beq_iff_eq,List.mem_map]
theorem Q4j{l:List Qad}(hn:(nms l).Nodup){x:Qad}(h:x ∈ l):fndT l x.Name=some x:=by
 unfold fndT
 induction l with
 | nil=>cases h
 | cons y r ih =>
  rw[show nms (y::r)=y.Name::nms r from rfl,List.nodup_cons] at hn;rw[List.find?_cons];rcases List.mem_cons.1 h with rfl | h
  .simp
  .have hne:¬ y.Name=x.Name:=λe=>hn.1 (by rw[e]; exact List.mem_map.2 ⟨x,h,rfl⟩)
   have:(y.Name==x.Name)=false:=by simpa using hne
   rw[this];exact ih hn.2 h
theorem Q9t{l:List Qad}(hn:(nms l).Nodup){x:Qad}(h:x ∈ l):suc l x.Name=Qlx x.L:=by
 unfold suc; rw[Q4j hn h]
def closed(l:List Qad):Prop:=∀ s,∀ u ∈ suc l s,u ∈ nms l
def rnd(l:List Qad)(o:List Nm):List Nm:=upL (o++o.flatMap (suc l))
def clo(l:List Qad):Nat->List Nm->List Nm
 | 0,o=>o
 | n+1,o=>clo l n (rnd l o)
theorem Qon{l:List Qad}{o:List Nm}{x:Nm}:x ∈ rnd l o↔x ∈ o\/∃ s ∈ o,x ∈ suc l s:=by
 unfold rnd;rw[Qew,List.mem_append,List.mem_flatMap]
theorem Qaie(l:List Qad):∀ n {o:List Nm},up o->up (clo l n o)
 | 0,_,h=>h
 | n+1,_,_=>Qaie l n (Qhy _)
theorem Qafr(l:List Qad):∀ n {o:List Nm} {x:Nm},x ∈ o->x ∈ clo l n o
 | 0,_,_,h=>h
 | n+1,_,_,h=>Qafr l n (Qon.2 (.inl h))
theorem Q7o(l:List Qad){C:Nm->Prop}(hC:∀ s,C s->∀ u ∈ suc l s,C u):∀ n {o:List Nm},(∀ x ∈ o,C x)->∀ x ∈ clo l n o,C x
 | 0,_,h=>h
 | n+1,o,h=>Q7o l hC n λx hx=>by
  rcases Qon.1 hx with hx | ⟨s,hs,hx⟩
  .exact h x hx
  .exact hC s (h s hs) x hx
theorem Qafs{l:List Qad}:∀ n {o:List Nm},rnd l o=o->clo l n o=o
 | 0,_,_=>rfl
 | n+1,o,h=>by rw[clo,h,Qafs n h]
theorem Qaif{a b:List Nm}(ha:a.Nodup)(h:∀ x ∈ a,x ∈ b)(hl:b.length<=a.length):∀ x ∈ b,x ∈ a:=λx hx=>Classical.byContradiction λk=>by
 have:=List.Nodup.length_le_of_subset (List.nodup_cons.2 ⟨k,ha⟩) (l₂ := b) λy hy=>by
  rcases List.mem_cons.1 hy with rfl | hy
  .exact hx
  .exact h y hy
 simp at this; omega
theorem Q2b{l:List Qad}(hc:closed l):∀ n {o:List Nm},up o->(∀ x ∈ o,x ∈ nms l)->(nms l).length<=n+o.length->rnd l (clo l n o)=clo l n o
 | 0,o,hu,hN,hn=>by
  have hr:∀ x ∈ rnd l o,x ∈ nms l:=λx hx=>by
   rcases Qon.1 hx with hx | ⟨s,_,hx⟩
   .exact hN x hx
   .exact hc s x hx
  have hlen:=List.Nodup.length_le_of_subset (Qji (Qhy (o++o.flatMap (suc l)))) (l₂ := nms l) λx hx=>hr x hx
  exact Qvx (Qhy _) hu λx=>⟨Qaif (Qji hu) (λx hx=>Qon.2 (.inl hx)) (Nat.le_trans hlen (by omega)) x,λhx=>Qon.2 (.inl hx)⟩
 | n+1,o,hu,hN,hn=>by
  by_cases he:rnd l o=o
  .rw[Qafs (n+1) he,he]
  .rw[clo];have hr:∀ x ∈ rnd l o,x ∈ nms l:=λx hx=>by
    rcases Qon.1 hx with hx | ⟨s,_,hx⟩
    .exact hN x hx
    .exact hc s x hx
   refine Q2b hc n (Qhy _) hr ?_;have:o.length<(rnd l o).length:=Nat.lt_of_not_le λhle=>he (Qvx (Qhy _) hu λx=>⟨Qaif (Qji hu) (λx hx=>Qon.2 (.inl hx)) hle x,λhx=>Qon.2 (.inl hx)⟩)
   omega
def froP(l:List Qad)(o:List Nm):List Nm:=clo l l.length o
theorem Qsy{l:List Qad}(hc:closed l){o:List Nm}(hu:up o)(hN:∀ x ∈ o,x ∈ nms l):∀ s ∈ froP l o,∀ u ∈ suc l s,u ∈ froP l o:=λs hs u hu' => by
 have:=Q2b hc l.length hu hN (by simp);rw[froP,<-this];exact Qon.2 (.inr ⟨s,hs,hu'⟩)
theorem Qabk{l:List Qad}{o:List Nm}{x:Nm}(h:x ∈ o):x ∈ froP l o:=Qafr l _ h
theorem Qns{l:List Qad}{C:Nm->Prop}(hC:∀ s,C s->∀ u ∈ suc l s,C u){o:List Nm}(h:∀ x ∈ o,C x):∀ x ∈ froP l o,C x:=Q7o l hC _ h
theorem Q9u{l:List Qad}{o:List Nm}(h:up o):up (froP l o):=Qaie l _ h
theorem Qacz{l:List Qad}(hc:closed l){o:List Nm}(h:∀ x ∈ o,x ∈ nms l):∀ x ∈ froP l o,x ∈ nms l:=Qns (λs _ u hu=>hc s u hu) h
theorem Qabl{l:List Qad}(hc:closed l){o:List Nm}(hu:up o)(h:∀ x ∈ o,x ∈ nms l):(froP l o).length<=l.length:=by
 have:=List.Nodup.length_le_of_subset (Qji (Q9u (l:=l) hu)) (l₂ := nms l) λx hx=>Qacz hc h x hx
 simpa using this
def reaP(l:List Qad)(s:Nm):List Nm:=froP l (suc l s)
theorem Qrc{l:List Qad}(hc:closed l)(hr:∀ s ∈ nms l,s ∉ reaP l s){s u:Nm}(hu:u ∈ suc l s):(reaP l u).length<(reaP l s).length:=by
 have hu1:u ∈ reaP l s:=Qabk hu;have hsub:∀ x ∈ u::reaP l u,x ∈ reaP l s:=λx hx=>by
  rcases List.mem_cons.1 hx with rfl | hx
  .exact hu1
  .refine Qns (C:=λx=>x ∈ reaP l s) (λt ht v hv=>Qsy hc (Qvy l s) (hc s) t ht v hv) (λx hx=>?_) x hx;exact Qsy hc (Qvy l s) (hc s) u hu1 x hx
 have:=List.Nodup.length_le_of_subset (List.nodup_cons.2 ⟨hr u (hc s u hu),Qji (Q9u (Qvy l u))⟩) hsub;exact this
end Go.Proofs.YtfgegilhjlnohaaGreat
end
