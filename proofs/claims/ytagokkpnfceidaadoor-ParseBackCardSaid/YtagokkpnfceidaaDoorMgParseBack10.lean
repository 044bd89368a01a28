/- The proof's texts, part 10 of 12: the walks by a logic in which data are by value, the plain laws, and at the end the law, for every input. -/
import Derived.Test.YtagokkpnfceidaaDoorMgParseBack9

section
set_option linter.unusedVariables false
set_option linter.unusedSimpArgs false
set_option maxRecDepth 100000
set_option maxHeartbeats 4000000
namespace Go.Proofs.YtagokkpnfceidaaDoor
open Go.RowKit
theorem Qtm:(∀ (p0:(List Qaa)) (p1:Int) (o:(List (Qaa×Int))×Unit),Qd6 p0 p1=some o→∀ gxs:List (List V),gxs=o.1.map Qa7→IterOK Tryd.prog 116 [.ep [.sl false (p0.map Qac)],.ep [iV p1]] gxs)∧(∀ (p0:(List Qaa)) (p1:Int) (v12:Int) (o2:(List (Qaa×Int))×(Unit)),Qdx p0 p1 v12=some o2→∀ (gxs gp gpost gq1:List (List V)),gxs=gp++(o2.1.map Qa7++gpost)→gxs=gq1++gpost→TL (0,1) Tryd.prog 44 Qr4 (Qs (0,1) 44 gxs (JP1 (0,1) 44 o2.2 (.exit 0) (Qle p0 p1 gxs gq1))) (Qh8 p0 p1 v12 gxs gp))∧(∀ (p0:(List Qaa)) (p1:Int) (v12:Int) (x3:Qaa) (v28:Int) (o5:(List (Qaa×Int))×(Unit)),Qbs p0 p1 v12 x3 v28=some o5→∀ (gxs gp gpost gq4:List (List V)),gxs=gp++(o5.1.map Qa7++gpost)→gxs=gq4++gpost→TL (0,1) Tryd.prog 44 Qr3 (Qs (0,1) 44 gxs (JP1 (0,1) 44 o5.2 (.exit 2) (Qld p0 p1 v12 x3 gxs gq4))) (Qh7 p0 p1 v12 x3 v28 gxs gp)):=by
 refine Qd6.mutual_partial_correctness _ _ _ ?_ ?_ ?_
 ·intro Qdx' iQdx p0 p1 o h
  intro gxs hg
  have hx:gxs=[]++(o.1.map Qa7++[]):=by simp[hg]
  refine IterOK.ofB mixed tbOk Qgg Tryd.func116 rfl (by kernel_rfl) (Nat.le_of_ble_eq_true rfl) rfl ?_
  refine view (lenMap _ _) rfl ?_
  refine Qu4 h hx (fun o2 lgq1 gq1 ho hk hxa hjgq1=>?_)
  refine Exists.intro (Qs _ _ gxs (JP1 _ _ o2.2 (.exit 0) (Qle p0 p1 gxs gq1))) (And.intro (T_le (τ := Qh8 p0 p1 0 gxs ([]:List (List V))) ?_ (TL.loop ((iQdx p0 p1 0 o2 ho) _ _ _ _ hxa hjgq1))) (joinS (join1 ?_) ?_))
  ·exact Le.tz 1 1 rfl rfl rfl
  ·have h:=hk
   have hx:=hjgq1
   exact Q6v h hx (.inl rfl) rfl
  ·exact fun s1 h1 h2 hs=>Q5s (.inr rfl) hs
 ·intro Qdx' Qbs' iQdx iQbs p0 p1 v12 o2 h
  intro gxs gp gpost gq1 hx hq
  refine TL.round (Qak mixed tbOk (lv:=Qgg) _ _ _ ?_)
  refine Qaf h (fun hb h=>?_) (fun hb h=>?_)
  ·refine Qcl (l:=p0) (c:=Qac) (c' := Qat) h Qah (fun _=>rfl) (by decide) (fun x3 hi h=>?_)
   refine Q6g (c:=Qa7) h hx (.refl _) (by exact rfl) (by exact rfl) (fun _ h hx=>?_) ?_
   ·refine bF ?_
    refine Qu4 h hx (fun o5 lgq4 gq4 ho hk hxa hjgq4=>?_)
    refine Exists.intro (Qs _ _ gxs (JP1 _ _ o5.2 (.exit 2) (Qld p0 p1 v12 x3 gxs gq4))) (And.intro (T_le (τ := Qh7 p0 p1 v12 x3 0 gxs (gp++[Qa7 (x3,p1)])) ?_ (TL.loop ((iQbs p0 p1 v12 x3 0 o5 ho) _ _ _ _ hxa hjgq4))) (joinS (join1 ?_) ?_))
    ·exact Le.tz 2 1 rfl rfl rfl
    ·have h:=hk
     have hx:=hjgq4
     refine TL.le (τ := Qh8 p0 p1 (wr (v12+1)) gxs gq4) ?_ ((iQdx p0 p1 (wr (v12+1)) _ h) _ _ _ _ hx hq)
     exact Le.tz 1 1 rfl rfl rfl
    ·exact fun s1 h1 h2 hs =>.inr ⟨rfl,s1,.refl _ _ _,h1,h2,hs⟩
   ·refine bT ?_
    exact .inr ⟨rfl,_,(Le.env0 _).trans (Le.tow 0 1 rfl .nil (.refl _) rfl),rfl,rfl,rfl⟩
  ·exact .inl (JP1.a (sndI h) (Le.tz 1 1 rfl rfl (liveQ h hx hq rfl)))
 ·intro Qd6' Qbs' iQd6 iQbs p0 p1 v12 x3 v28 o5 h
  intro gxs gp gpost gq4 hx hq
  refine TL.round (Qak mixed tbOk (lv:=Qgg) _ _ _ ?_)
  refine Qaf h (fun hb h=>?_) (fun hb h=>?_)
  ·refine Q6w (l:=([x3.L,x3.Then,x3.Else]:List (List Qaa))) (c:=fun x6 =>.sl false (x6.map Qac)) h rfl rfl rfl rfl (fun x6 hi h=>?_)
   refine Qaj [.sl false (x6.map Qac),iV (wr (p1+1))] Qkc h (fun x7 hy=>(Qod x6 (wr (p1+1)) x7 hy)) (fun x7 hy h=>?_)
   refine Qag h (fun y11 hy11 h=>?_)
   refine Qu4 h hx (fun o13 lgq12 gq12 ho hk hxa hjgq12=>?_)
   refine Exists.intro (Qs _ _ gxs (JP1 _ _ o13.2 .normal (Qh6 p0 p1 v12 x3 v28 x7 gxs gq12))) (And.intro (T_le (τ := Qcw p0 p1 v12 x3 v28 x7 gxs gp) ?_ (Qzi (g:=116) (cap:=[.ep [.sl false (x7.1.map Qac)],.ep [iV x7.2]]) rfl ((iQd6 x7.1 x7.2 y11 hy11) _ rfl) (mapSize fun _=>rfl) rfl (Nat.le_of_ble_eq_true rfl) (Nat.le_of_ble_eq_true rfl) ((Qql p0 p1 v12 x3 v28 x7 y11.1 o13 ho) _ _ _ _ hxa hjgq12))) (joinS (join1 ?_) ?_))
   ·exact Le.tz 2 1 rfl rfl rfl
   ·have h:=hk
    have hx:=hjgq12
    refine TL.le (τ := Qh7 p0 p1 v12 x3 (wr (v28+1)) gxs gq12) ?_ ((iQbs p0 p1 v12 x3 (wr (v28+1)) _ h) _ _ _ _ hx hq)
    exact Le.tz 2 1 rfl rfl rfl
   ·exact fun s1 h1 h2 hs =>.inr ⟨rfl,s1,.refl _ _ _,h1,h2,hs⟩
  ·exact .inl (JP1.a (sndI h) (Le.tz 2 1 rfl rfl (liveQ h hx hq rfl)))
theorem Qo1:∀ (p0:(List Qaa)) (p1:Int) (o:(List (Qaa×Int))×Unit),Qd6 p0 p1=some o→∀ gxs:List (List V),gxs=o.1.map Qa7→IterOK Tryd.prog 116 [.ep [.sl false (p0.map Qac)],.ep [iV p1]] gxs:=fun p0 p1=>Qtm.1 p0 p1
noncomputable def Qkk (p0:(List Qaa)):Option (Int) :=
 Qhi p0 1>>=fun x1 =>
 Qd6 x1.1 x1.2>>=fun y5 =>
 (Qc2 x1 y5.1 0)>>=fun o6 =>
 some o6
theorem Qwe:∀ (p0:(List Qaa)) (o:Int),Qkk p0=some o→PCall Tryd.prog 51 [.sl false (p0.map Qac)] (Qme o):=by
 intro p0 o h
 unfold Qkk at h
 refine PCall.ofB mixed tbOk Qk2 Tryd.func51 rfl (by kernel_rfl) (Nat.le_of_ble_eq_true rfl) ?_
 refine Qaj [.sl false (p0.map Qac),iV 1] Qkc h (fun x1 hy=>(Qod p0 1 x1 hy)) (fun x1 hy h=>?_)
 refine Qag h (fun y5 hy5 h=>?_)
 refine Qag h (fun o6 ho hk=>?_)
 refine Exists.intro (JP1 _ _ o6 .normal (Qh5 x1)) (And.intro (T_le (τ := Qcv x1 0) ?_ (Qzi (g:=116) (cap:=[.ep [.sl false (x1.1.map Qac)],.ep [iV x1.2]]) rfl ((Qo1 x1.1 x1.2 y5 hy5) _ rfl) (mapSize fun _=>rfl) rfl (Nat.le_of_ble_eq_true rfl) (Nat.le_of_ble_eq_true rfl) (Qqk x1 y5.1 0 o6 ho))) (join1 ?_))
 ·exact Le.tz 1 0 rfl rfl rfl
 have h:=hk
 refine Qal (t:=Qme) h ?_
 exact .refl _
noncomputable def Qdn (x1:(List Qaa)×Int) (l4:(List (Qaa×Int))) (h0_0:Int):Option (Int) :=
 match l4 with
 | [] =>
  some h0_0
 | x2::r3 =>
  Qdn x1 r3 (if x2.2>h0_0 then x2.2 else h0_0)
 partial_fixpoint
theorem Qqm:∀ (x1:(List Qaa)×Int),(∀ (l4:(List (Qaa×Int))) (h0_0:Int) (o6:Int),Qdn x1 l4 h0_0=some o6→RL 1 0 Tryd.prog 14 (rgP Qd5) (rgA Qd5) (rgB Qd5) (Qdf x1 h0_0).env (JP1 (0,0) 14 o6 .normal (Qi4 x1)) (l4.map Qa7) (Qdf x1 h0_0).s):=by
 intro x1
 refine Qdn.partial_correctness x1 _ ?_
 intro Qdn' iQdn l4 h0_0 o6 h
 cases l4 with
 | nil =>
  refine Q3t ?_
  exact JP1.a h (Le.tz 1 0 rfl rfl rfl)
 | cons x2 r3 =>
  refine Qzq (Qak mixed tbOk (lv:=Qmf) _ _ _ ?_)
  refine And.intro rfl (Qak mixed tbOk (lv:=Qmf) _ _ _ ?_)
  exact Exists.intro (Qdf x1 (if x2.2>h0_0 then x2.2 else h0_0)).s (And.intro (Le.tz 1 0 rfl rfl rfl) (And.intro rfl (And.intro rfl ((iQdn r3 (if x2.2>h0_0 then x2.2 else h0_0) _ h)))))
theorem Qsg:∀ (x1:(List Qaa)×Int) (l4:(List (Qaa×Int))) (h0_0:Int) (o6:Int),Qdn x1 l4 h0_0=some o6→RL 1 0 Tryd.prog 14 (rgP Qd5) (rgA Qd5) (rgB Qd5) (Qdf x1 h0_0).env (JP1 (0,0) 14 o6 .normal (Qi4 x1)) (l4.map Qa7) (Qdf x1 h0_0).s:=fun x1 l4 h0_0=>(Qqm x1) l4 h0_0
noncomputable def Qmo (p0:(List Qaa)):Option (Int) :=
 Qhi p0 1>>=fun x1 =>
 Qd6 x1.1 x1.2>>=fun y5 =>
 (Qdn x1 y5.1 0)>>=fun o6 =>
 some o6
theorem Qyi:∀ (p0:(List Qaa)) (o:Int),Qmo p0=some o→PCall Tryd.prog 52 [.sl false (p0.map Qac)] (Qn5 o):=by
 intro p0 o h
 unfold Qmo at h
 refine PCall.ofB mixed tbOk Qmf Tryd.func52 rfl (by kernel_rfl) (Nat.le_of_ble_eq_true rfl) ?_
 refine Qaj [.sl false (p0.map Qac),iV 1] Qkc h (fun x1 hy=>(Qod p0 1 x1 hy)) (fun x1 hy h=>?_)
 refine Qag h (fun y5 hy5 h=>?_)
 refine Qag h (fun o6 ho hk=>?_)
 refine Exists.intro (JP1 _ _ o6 .normal (Qi4 x1)) (And.intro (T_le (τ := Qdf x1 0) ?_ (Qzi (g:=116) (cap:=[.ep [.sl false (x1.1.map Qac)],.ep [iV x1.2]]) rfl ((Qo1 x1.1 x1.2 y5 hy5) _ rfl) (mapSize fun _=>rfl) rfl (Nat.le_of_ble_eq_true rfl) (Nat.le_of_ble_eq_true rfl) (Qsg x1 y5.1 0 o6 ho))) (join1 ?_))
 ·exact Le.tz 1 0 rfl rfl rfl
 have h:=hk
 refine Qal (t:=Qn5) h ?_
 exact .refl _
noncomputable def Qeu (p0:(List UInt8)):Option ((List Qaa)×Int×Int) :=
 Qki p0>>=fun x1 =>
 if(x1.2.2 != 0) then
  some ([],x1.2.1,x1.2.2)
 else
  Qaw false false x1.1 0>>=fun o3 =>
  match o3 with
  | .inl x2 =>
   Qkk x2.1>>=fun x5 =>
   if(decide (x5>1024)) then
    some ([],0,5)
   else
    Qmo x2.1>>=fun x6 =>
    if(decide (x6>12)) then
     some ([],0,8)
    else
     some (x2.1,0,0)
  | .inr z4 =>
   Qc1 p0 x1.1 z4>>=fun x7 =>
   some ([],x7,7)
theorem Qhj:∀ (p0:(List UInt8)) (o:(List Qaa)×Int×Int),Qeu p0=some o→PCall Tryd.prog 22 [sV p0] (Qcd o):=by
 intro p0 o h
 unfold Qeu at h
 refine Q36 (lv:=Qtc) ?_
 refine Qaj [sV p0] Ql8 h (fun x1 hy=>(Qwd p0 x1 hy)) (fun x1 hy h=>?_)
 refine Qaf h (fun hb h=>?_) (fun hb h=>?_)
 ·refine Exists.intro (.op 0 (.op 1 (.op 2 (.op 3 (.op 4 (.nil) (.nil)) (.nil)) (.nil)) (.op 2 (.op 1 (.op 3 (.op 4 (.nil) (.nil)) (.nil)) (.op 3 (.op 1 (.op 4 (.nil) (.nil)) (.nil)) (.nil))) (.nil))) (.op 1 (.op 0 (.op 2 (.op 3 (.op 4 (.nil) (.nil)) (.nil)) (.nil)) (.op 2 (.op 0 (.op 3 (.op 4 (.nil) (.nil)) (.nil)) (.nil)) (.nil))) (.op 2 (.op 0 (.op 1 (.op 3 (.op 4 (.nil) (.nil)) (.nil)) (.op 3 (.op 1 (.op 4 (.nil) (.nil)) (.nil)) (.nil))) (.op 1 (.op 0 (.op 3 (.op 4 (.nil) (.nil)) (.nil)) (.nil)) (.nil))) (.nil))):PT) (Exists.intro _ (And.intro (by decide +kernel) (And.intro (And.intro (And.intro (And.intro (And.intro (And.intro (rfl) (trivial)) (trivial)) (trivial)) (And.intro (And.intro (And.intro (And.intro (rfl) (trivial)) (trivial)) (And.intro (And.intro (And.intro (rfl) (trivial)) (trivial)) (trivial))) (trivial))) (And.intro (And.intro (And.intro (And.intro (And.intro (rfl) (trivial)) (trivial)) (trivial)) (And.intro (And.intro (And.intro (And.intro (rfl) (trivial)) (trivial)) (trivial)) (trivial))) (And.intro (And.intro (And.intro (And.intro (And.intro (rfl) (trivial)) (trivial)) (And.intro (And.intro (And.intro (rfl) (trivial)) (trivial)) (trivial))) (And.intro (And.intro (And.intro (And.intro (rfl) (trivial)) (trivial)) (trivial)) (trivial))) (trivial)))) ?_)))
  refine Qal (t:=Qcd) h ?_
  exact .tup (xs:=[.sl true [],iV x1.2.1,iV x1.2.2]) (ys:=[.sl false [],iV x1.2.1,iV x1.2.2]) (.cons (.not) (.cons (.refl _) (.cons (.refl _) (.nil))))
 ·refine And.intro rfl (And.intro rfl (And.intro rfl (And.intro rfl (And.intro rfl (And.intro rfl (And.intro rfl ?_))))))
  refine xle ?_
  refine Qa3 _ _ _ h (fun x2 hy=>(Qhz false false x1.1 0 (.inl x2) hy).a.fr [4] [] rfl rfl rfl) (fun z4 hy=>(Qhz false false x1.1 0 (.inr z4) hy).b.fr [4] [] rfl rfl rfl) (fun x2 hy h=>?_) (fun z4 hy h=>?_)
  ·refine Qaj [.sl false (x2.1.map Qac)] Qme h (fun x5 hy=>(Qwe x2.1 x5 hy)) (fun x5 hy h=>?_)
   refine Qaf h (fun hb h=>?_) (fun hb h=>?_)
   ·refine Qal (t:=Qcd) h ?_
    exact .tup (xs:=[.sl true [],iV 0,iV 5]) (ys:=[.sl false [],iV 0,iV 5]) (.cons (.not) (.cons (.refl _) (.cons (.refl _) (.nil))))
   ·refine Qaj [.sl false (x2.1.map Qac)] Qn5 h (fun x6 hy=>(Qyi x2.1 x6 hy)) (fun x6 hy h=>?_)
    refine Qaf h (fun hb h=>?_) (fun hb h=>?_)
    ·refine Qal (t:=Qcd) h ?_
     exact .tup (xs:=[.sl true [],iV 0,iV 8]) (ys:=[.sl false [],iV 0,iV 8]) (.cons (.not) (.cons (.refl _) (.cons (.refl _) (.nil))))
    ·refine Qal (t:=Qcd) h ?_
     exact .refl _
  ·refine And.intro rfl (And.intro rfl (And.intro rfl (And.intro rfl (And.intro rfl (And.intro rfl ?_)))))
   refine Qau _ _ h (fun x7 hy=>((Qmn p0 x1.1 z4 x7 hy).fr [4] [] rfl rfl rfl)) (fun x7 hy h=>?_)
   refine And.intro rfl ?_
   refine Qal (t:=Qcd) h ?_
   exact .tup (xs:=[.sl true [],iV x7,iV 7]) (ys:=[.sl false [],iV x7,iV 7]) (.cons (.not) (.cons (.refl _) (.cons (.refl _) (.nil))))
noncomputable def Qcc:Option (Bool) :=
 Qeu [123,123,32,105,102,32,120,46,121,32,125,125,97,123,123,32,101,110,100,32,125,125]>>=fun x1 =>
 Qeu [123,123,32,101,110,100,32,125,125]>>=fun x2 =>
 Qeu [123,123,32,105,102,32,120,32,125,125]>>=fun x3 =>
 ( if(x1.2.2==0) then
   if((x1.1.length:Int)==1) then
    idx x1.1 0>>=fun x5 =>
    if(x5.Kind==10) then
     idx x1.1 0>>=fun x6 =>
     if((x6.Then.length:Int)==1) then
      if(x2.2.2==7) then
       if(x2.2.1==3) then
        if(x3.2.2==7) then
         some (x3.2.1==10)
        else
         some false
       else
        some false
      else
       some false
     else
      some false
    else
     some false
   else
    some false
  else
   some false:Option (Bool))>>=fun o4 =>
 some o4
theorem Qif:∀ (o:Bool),Qcc  = some o→PCall Tryd.prog 21 [] (Qdq o):=by
 intro o h
 unfold Qcc at h
 refine PCall.ofB mixed tbOk Qne Tryd.func21 rfl (by kernel_rfl) (Nat.le_of_ble_eq_true rfl) ?_
 refine Qaj [sV [123,123,32,105,102,32,120,46,121,32,125,125,97,123,123,32,101,110,100,32,125,125]] Qcd h (fun x1 hy=>(Qhj [123,123,32,105,102,32,120,46,121,32,125,125,97,123,123,32,101,110,100,32,125,125] x1 hy)) (fun x1 hy h=>?_)
 refine Qaj [sV [123,123,32,101,110,100,32,125,125]] Qcd h (fun x2 hy=>(Qhj [123,123,32,101,110,100,32,125,125] x2 hy)) (fun x2 hy h=>?_)
 refine Qaj [sV [123,123,32,105,102,32,120,32,125,125]] Qcd h (fun x3 hy=>(Qhj [123,123,32,105,102,32,120,32,125,125] x3 hy)) (fun x3 hy h=>?_)
 refine Qag h (fun o4 ho hk=>?_)
 refine Exists.intro (JP1 _ _ o4 .normal (Qlj )) (And.intro ?_ (join1 ?_))
 ·have h:=ho
  refine Qaf h (fun hb h=>?_) (fun hb h=>?_)
  ·refine view (lenMap _ _) rfl ?_
   refine Qaf h (fun hb h=>?_) (fun hb h=>?_)
   ·refine Qcl (l:=x1.1) (c:=Qac) (c' := Qat) h Qah (fun _=>rfl) (by decide) (fun x5 hi h=>?_)
    refine Qaf h (fun hb h=>?_) (fun hb h=>?_)
    ·refine Qcl (l:=x1.1) (c:=Qac) (c' := Qat) h Qah (fun _=>rfl) (by decide) (fun x6 hi h=>?_)
     refine view (lenMap _ _) rfl ?_
     refine Qaf h (fun hb h=>?_) (fun hb h=>?_)
     ·refine Qaf h (fun hb h=>?_) (fun hb h=>?_)
      ·refine Qaf h (fun hb h=>?_) (fun hb h=>?_)
       ·refine Qaf h (fun hb h=>?_) (fun hb h=>?_)
        ·refine JP1.a h ?_
         exact Le.tz 0 0 rfl rfl rfl
        ·refine JP1.a h ?_
         exact Le.tz 0 0 rfl rfl rfl
       ·refine bF ?_
        refine JP1.a h ?_
        exact Le.tz 0 0 rfl rfl rfl
      ·refine bF ?_
       refine bF ?_
       refine JP1.a h ?_
       exact Le.tz 0 0 rfl rfl rfl
     ·refine bF ?_
      refine bF ?_
      refine bF ?_
      refine JP1.a h ?_
      exact Le.tz 0 0 rfl rfl rfl
    ·refine bF ?_
     refine bF ?_
     refine bF ?_
     refine bF ?_
     refine JP1.a h ?_
     exact Le.tz 0 0 rfl rfl rfl
   ·refine bF ?_
    refine bF ?_
    refine bF ?_
    refine bF ?_
    refine bF ?_
    refine JP1.a h ?_
    exact Le.tz 0 0 rfl rfl rfl
  ·refine bF ?_
   refine bF ?_
   refine bF ?_
   refine bF ?_
   refine bF ?_
   refine bF ?_
   refine JP1.a h ?_
   exact Le.tz 0 0 rfl rfl rfl
 ·have h:=hk
  refine Qal (t:=Qdq) h ?_
  exact .refl _
noncomputable def Qch (p0:(List Qaa)):Option (Bool) :=
 Qav p0 15 80>>=fun x1 =>
 Qmh x1.1>>=fun x2 =>
 if(!x2.2) then
  Qcc>>=fun x3 =>
  some x3
 else
  Qeu x2.1>>=fun x4 =>
  ( if(x4.2.2==0) then
    if(x4.2.1==0) then
     Qgl x4.1 x1.1>>=fun x6 =>
     if x6 then
      Qcc>>=fun x7 =>
      some x7
     else
      some false
    else
     some false
   else
    some false:Option (Bool))>>=fun o5 =>
  some o5
theorem Qkl:∀ (p0:(List Qaa)) (o:Bool),Qch p0=some o→PCall Tryd.prog 7 [.sl false (p0.map Qac)] (Qdp o):=by
 intro p0 o h
 unfold Qch at h
 refine PCall.ofB mixed tbOk Qkb Tryd.func7 rfl (by kernel_rfl) (Nat.le_of_ble_eq_true rfl) ?_
 refine Qaj [.sl false (p0.map Qac),iV 15,iV 80] Qbv h (fun x1 hy=>(Qnn p0 15 80 x1 hy)) (fun x1 hy h=>?_)
 refine Qaj [.sl false (x1.1.map Qac)] Qix h (fun x2 hy=>(Qyf x1.1 x2 hy)) (fun x2 hy h=>?_)
 refine Qaf h (fun hb h=>?_) (fun hb h=>?_)
 ·refine Qaj [] Qdq h (fun x3 hy=>(Qif x3 hy)) (fun x3 hy h=>?_)
  refine Qal (t:=Qdp) h ?_
  exact .refl _
 ·refine Qaj [sV x2.1] Qcd h (fun x4 hy=>(Qhj x2.1 x4 hy)) (fun x4 hy h=>?_)
  refine Qag h (fun o5 ho hk=>?_)
  refine Exists.intro (JP1 _ _ o5 .normal (Qjc )) (And.intro ?_ (join1 ?_))
  ·have h:=ho
   refine Qaf h (fun hb h=>?_) (fun hb h=>?_)
   ·refine Qaf h (fun hb h=>?_) (fun hb h=>?_)
    ·refine Qaj [.sl false (x4.1.map Qac),.sl false (x1.1.map Qac)] Qez h (fun x6 hy=>(Q0d x4.1 x1.1 x6 hy)) (fun x6 hy h=>?_)
     refine Qaf h (fun hb h=>?_) (fun hb h=>?_)
     ·refine Qaj [] Qdq h (fun x7 hy=>(Qif x7 hy)) (fun x7 hy h=>?_)
      refine JP1.a h ?_
      exact Le.tz 0 0 rfl rfl rfl
     ·refine JP1.a h ?_
      exact Le.tz 0 0 rfl rfl rfl
    ·refine bF ?_
     refine JP1.a h ?_
     exact Le.tz 0 0 rfl rfl rfl
   ·refine bF ?_
    refine bF ?_
    refine JP1.a h ?_
    exact Le.tz 0 0 rfl rfl rfl
  ·have h:=hk
   refine Qal (t:=Qdp) h ?_
   exact .refl _
end Go.Proofs.YtagokkpnfceidaaDoor
end

section
namespace Go.Proofs.YtagokkpnfceidaaDoor
open Go.RowKit
mutual
def nn:Qaa→Nat
 | ⟨_,_,_,_,a,b,c⟩=>1+nns a+nns b+nns c
def nns:List Qaa→Nat
 | []=>0
 | x::r=>nn x+nns r
end
mutual
def dp:Qaa→Nat
 | ⟨_,_,_,_,a,b,c⟩=>1+max (dps a) (max (dps b) (dps c))
def dps:List Qaa→Nat
 | []=>0
 | x::r=>max (dp x) (dps r)
end
mutual
def sm:Qaa→Prop
 | ⟨_,s,t,_,a,b,c⟩=>s.length≤40∧t.length≤60∧sms a∧sms b∧sms c
def sms:List Qaa→Prop
 | []=>True
 | x::r=>sm x∧sms r
end
theorem nn_eq (x:Qaa):nn x=1+nns x.L+nns x.Then+nns x.Else:=by cases x; rw[nn]
theorem dp_eq (x:Qaa):dp x=1+max (dps x.L) (max (dps x.Then) (dps x.Else)):=by cases x; rw[dp]
theorem sm_eq (x:Qaa):sm x↔(x.Name.length≤40∧x.Text.length≤60∧sms x.L∧sms x.Then∧sms x.Else):=by cases x; rw[sm]
theorem Qgp (x:Qaa):1≤nn x:=by rw[nn_eq]; omega
theorem Qg9:∀ l:List Qaa,l.length≤nns l
 | []=>by simp[nns]
 | x::r=>by have:=Qg9 r; have:=Qgp x; simp[nns]; omega
theorem Qfs:∀ {l:List Qaa} {x:Qaa},x ∈ l→nn x≤nns l
 | y::r,x,h=>by
  rcases List.mem_cons.1 h with rfl | h
  ·simp[nns]
  ·have:=Qfs h; simp[nns]; omega
theorem Qwf:∀ a b:List Qaa,nns (a++b)=nns a+nns b
 | [],b=>by simp[nns]
 | x::r,b=>by simp[nns,Qwf r b]; omega
def lightG (g:List Qaa→Nat→List Qaa×Nat):List Qaa→Nat→List Qaa×Nat
 | [],n=>([],n)
 | x::r,n=>if n=0 then([],0) else
  (⟨x.Kind,x.Name.take 40,x.Text.take 60,x.N,(g x.L (n-1)).1,(g x.Then (g x.L (n-1)).2).1,(g x.Else (g x.Then (g x.L (n-1)).2).2).1⟩ ::
   (lightG g r (g x.Else (g x.Then (g x.L (n-1)).2).2).2).1,(lightG g r (g x.Else (g x.Then (g x.L (n-1)).2).2).2).2)
def lightP:Nat→List Qaa→Nat→List Qaa×Nat
 | 0,_,n=>([],n)
 | d+1,l,n=>lightG (lightP d) l n
def LG (d:Nat) (g:List Qaa→Nat→List Qaa×Nat):Prop:=∀ (l:List Qaa) (n:Nat),nns (g l n).1+(g l n).2=n∧dps (g l n).1≤d∧sms (g l n).1
theorem Q4c {d:Nat} {g:List Qaa→Nat→List Qaa×Nat} (hg:LG d g):LG (d+1) (lightG g):=fun l=>by
 induction l with
 | nil=>intro n; simp[lightG,nns,dps,sms]
 | cons x r ih =>
  intro n
  unfold lightG
  split
  ·subst_vars; simp[nns,dps,sms]
  ·obtain⟨a1,a2,a3⟩:=hg x.L (n-1)
   obtain⟨b1,b2,b3⟩:=hg x.Then (g x.L (n-1)).2
   obtain⟨c1,c2,c3⟩:=hg x.Else (g x.Then (g x.L (n-1)).2).2
   obtain⟨d1,d2,d3⟩:=ih (g x.Else (g x.Then (g x.L (n-1)).2).2).2
   simp only[nns,nn_eq,dps,dp_eq,sms,sm_eq]
   refine⟨by omega,by omega,⟨?_,?_,a3,b3,c3⟩,d3⟩
   ·simp; omega
   ·simp; omega
theorem Qmp:∀ d,LG d (lightP d)
 | 0=>fun l n=>by simp[lightP,nns,dps,sms]
 | d+1=>Q4c (Qmp d)
theorem takeMin {l:List UInt8} {k:Nat}:(l.take (if(k:Int)<(l.length:Int) then(k:Int) else(l.length:Int)).toNat).drop (0:Int).toNat=l.take k:=by
 split
 ·simp
 ·simp
  rw[List.take_of_length_le (by omega)]
theorem cutMin (l:List UInt8) (k:Nat):cutL l 0 (if(k:Int)<(l.length:Int) then(k:Int) else(l.length:Int))=some (l.take k):=by
 rw[Qjq (by omega) (by split<;>omega) (by split<;>omega),takeMin]
def LIs (g:List Qaa→Nat→List Qaa×Nat) (f:List Qaa→Int→Option (List Qaa×Int)):Prop:=∀ (l:List Qaa) (n:Nat),n≤100→f l n=some ((g l n).1,((g l n).2:Int))
theorem Q51 {d:Nat} (hd:d+1≤15) (hf:LIs (lightP d) (fun l n=>Qav l d n)) (l:List Qaa):∀ k,k≤l.length→∀ (n:Nat) (acc:List Qaa),acc.length=k→k+n≤100 →
  Qbo l ((d+1:Nat):Int) n acc k=some (((lightG (lightP d) (l.drop k) n).2:Int),acc++(lightG (lightP d) (l.drop k) n).1):=by
 refine upto ?_ fun k hk ih=>?_
 ·intro n acc _ _
  rw[Qbo]
  simp[lightG]
 ·intro n acc ha hn
  rw[Qbo,dropE hk]
  have h40:=cutMin (l[k].Name) 40
  have h60:=cutMin (l[k].Text) 60
  simp only[ltI,hk,decide_true,if_true]
  by_cases h0:n=0
  ·subst h0
   simp[lightG]
  ·have e1:wr (((d+1:Nat):Int)-1)=d:=by rw[wr_in (by omega) (by omega)]; omega
   have e2:wr ((n:Int)-1)=((n-1:Nat):Int):=by rw[wr_in (by omega) (by omega)]; omega
   have hpos:decide ((n:Int)>0)=true:=decide_eq_true (by omega)
   have hpos2:decide (((d+1:Nat):Int)>0)=true:=decide_eq_true (by omega)
   simp only[hpos,hpos2,if_true,Qad,Qbr,getE hk,e1,e2]
   rw[show(40:Int)=((40:Nat):Int) from rfl,h40,Qad,show(60:Int)=((60:Nat):Int) from rfl,h60,Qad]
   obtain⟨a1,-,-⟩:=Qmp d l[k].L (n-1)
   have f1:=hf l[k].L (n-1) (by omega)
   obtain⟨b1,-,-⟩:=Qmp d l[k].Then (lightP d l[k].L (n-1)).2
   have f2:=hf l[k].Then (lightP d l[k].L (n-1)).2 (by omega)
   obtain⟨c1,-,-⟩:=Qmp d l[k].Else (lightP d l[k].Then (lightP d l[k].L (n-1)).2).2
   have f3:=hf l[k].Else (lightP d l[k].Then (lightP d l[k].L (n-1)).2).2 (by omega)
   simp only at f1 f2 f3
   simp only[f1,f2,f3,Qad]
   rw[Qlu (by simp; omega) (by simp; omega),Qad,Qbt (by omega)]
   rw[ih _ _ (by simp[ha]) (by omega),lightG,if_neg h0]
   simp
theorem Q1k:∀ d,d≤15→LIs (lightP d) (fun l n=>Qav l (d:Nat) n)
 | 0,_=>fun l n hn=>by
  have h0:decide (((0:Nat):Int)>0)=false:=rfl
  show Qav l ((0:Nat):Int) n=_
  rw[Qav,Qbo]
  simp only[h0,Qad]
  have e:∀ b c:Bool,(if b=true then if c=true then some false else some false else some false:Option Bool)=some false:=fun b c=>by cases b<;>cases c<;>rfl
  rw[e]
  rfl
 | d+1,h=>fun l n hn=>by
  have:=Q51 h (Q1k d (by omega)) l 0 (by omega) n [] rfl (by omega)
  show Qav l ((d+1:Nat):Int) n=_
  rw[Qav]
  rw[show((0:Nat):Int)=0 from rfl] at this
  rw[this]
  simp[lightP]
mutual
def sameN:Qaa→Qaa→Bool
 | ⟨k,s,t,n,a,b,c⟩,y=>k==y.Kind&&(s==y.Name&&(t==y.Text&&(n==y.N&&(sameL a y.L&&(sameL b y.Then&&sameL c y.Else)))))
def sameL:List Qaa→List Qaa→Bool
 | [],m=>m.isEmpty
 | x::r,m=>match m with
  | []=>false
  | y::q=>sameN x y&&sameL r q
end
theorem Q1l (x y:Qaa):sameN x y=(x.Kind==y.Kind&&(x.Name==y.Name&&(x.Text==y.Text&&(x.N==y.N&&(sameL x.L y.L&&(sameL x.Then y.Then&&sameL x.Else y.Else)))))):=by cases x; rw[sameN]
theorem Q2t:∀ n (l:List Qaa),nns l≤n→sameL l l=true:=by
 intro n
 induction n with
 | zero=>intro l h; cases l with
  | nil=>simp[sameL]
  | cons x r=>have:=Qgp x; simp[nns] at h; omega
 | succ n ih =>
  intro l
  induction l with
  | nil=>intro _; simp[sameL]
  | cons x r ihr =>
   intro h
   rw[nns,nn_eq] at h
   rw[sameL,Q1l,ih _ (by omega:nns x.L≤n),ih _ (by omega:nns x.Then≤n),ih _ (by omega:nns x.Else≤n),ihr (by omega)]
   simp
theorem Qyj:∀ (a b:List Qaa),a.length≠b.length→sameL a b=false
 | [],[],h=>absurd rfl h
 | [],y::q,_=>by simp[sameL]
 | x::r,[],_=>by simp[sameL]
 | x::r,y::q,h=>by
  rw[sameL,Qyj r q (by simpa using h)]
  simp
section
end
theorem neI (a b:Nat):((a:Int) != (b:Int))=(a != b):=by
 by_cases h:a=b
 ·subst h; simp
 ·have:(a:Int)≠b:=by omega
  rw[bne_iff_ne.2 h,bne_iff_ne.2 this]
section
variable (n:Nat) (ih:∀ a b:List Qaa,nns a≤n→Qgl a b=some (sameL a b))
include ih
theorem rSameL (a b:List Qaa) (hl:a.length=b.length) (h:nns a≤n+1) (hlen:a.length<9223372036854775807):∀ k,k≤a.length →
  Qfr a b k=some (if sameL (a.drop k) (b.drop k) then .inl () else .inr ()):=by
 refine upto ?_ fun k hk ihk=>?_
 ·rw[Qfr]
  rw[hl,List.drop_length,← hl,List.drop_length]
  simp[sameL]
 ·have hk2:k<b.length:=by omega
  have hx:=Qfs (List.getElem_mem hk)
  rw[nn_eq] at hx
  rw[Qfr,Qbt (by omega),ihk]
  simp only[ltI,hk,decide_true,if_true,Qbr,getE hk,getE hk2,Qad]
  rw[ih a[k].L b[k].L (by omega),ih a[k].Then b[k].Then (by omega),ih a[k].Else b[k].Else (by omega)]
  simp only[Qad]
  rw[dropE hk,dropE hk2,sameL,Q1l]
  have e:∀ p q:Int,(p != q) = !(p==q):=fun p q=>rfl
  simp only[e]
  cases (a[k].Kind==b[k].Kind)<;>cases (a[k].Name==b[k].Name)<;>cases (a[k].Text==b[k].Text)<;>cases (a[k].N==b[k].N)<;>cases (sameL a[k].L b[k].L)<;>cases (sameL a[k].Then b[k].Then)<;>cases (sameL a[k].Else b[k].Else)<;>rfl
end
theorem rSame:∀ n (a b:List Qaa),n<9223372036854775807→nns a≤n→Qgl a b=some (sameL a b):=by
 intro n
 induction n with
 | zero =>
  intro a b _ h
  have ha:a=[]:=List.eq_nil_of_length_eq_zero (by have:=Qg9 a; omega)
  subst ha
  rw[Qgl,neI]
  cases b with
  | nil=>rw[show(0:Int)=((0:Nat):Int) from rfl,Qfr]; simp[sameL]
  | cons y q=>simp[sameL]
 | succ n ih =>
  intro a b hn h
  rw[Qgl,neI]
  by_cases hl:a.length=b.length
  ·have:=rSameL n (fun a b=>ih a b (by omega)) a b hl h (by have:=Qg9 a; omega) 0 (by omega)
   rw[show(0:Int)=((0:Nat):Int) from rfl,this]
   simp only[hl,bne_self_eq_false,Bool.false_eq_true,if_false,Qad,List.drop_zero]
   cases sameL a b<;>rfl
  ·rw[Qyj a b hl,bne_iff_ne.2 hl]
   rfl
end Go.Proofs.YtagokkpnfceidaaDoor
end

section
namespace Go.Proofs.YtagokkpnfceidaaDoor
open Go.RowKit
def smallB (c:UInt8):Bool:=decide (97≤c.toNat)&&decide (c.toNat≤122)
def digB (c:UInt8):Bool:=decide (48≤c.toNat)&&decide (c.toNat≤57)
def letB (c:UInt8):Bool:=smallB c||(digB c||c.toNat==95)
def headB:List UInt8→Bool
 | []=>false
 | c::_=>decide (97≤c.toNat)
theorem Qpt (c:UInt8) (r:List UInt8):headB (c::r)=decide (97≤c.toNat):=rfl
def wordP (s:List UInt8):Bool := !(s==[])&&(decide (s.length≤32)&&(headB s&&s.all letB))
theorem geN (n k:Nat):decide ((n:Int) ≥ (k:Int))=decide (k≤n):=by
 by_cases h:k≤n
 ·rw[decide_eq_true h,decide_eq_true (by omega:(n:Int) ≥ k)]
 ·rw[decide_eq_false h,decide_eq_false (by omega)]
theorem leN (n k:Nat):decide ((n:Int)≤(k:Int))=decide (n≤k):=by
 by_cases h:n≤k
 ·rw[decide_eq_true h,decide_eq_true (by omega:(n:Int)≤k)]
 ·rw[decide_eq_false h,decide_eq_false (by omega)]
theorem eqN (n k:Nat):((n:Int)==(k:Int))=(n==k):=by
 by_cases h:n=k
 ·subst h; simp
 ·rw[beq_eq_false_iff_ne.2 h,beq_eq_false_iff_ne.2 (by omega)]
theorem lDigit (c:UInt8):Qhx (c.toNat:Int)=some (digB c):=by
 have a:=geN c.toNat 48
 have b:=leN c.toNat 57
 rw[Qhx]
 rw[show(48:Int)=((48:Nat):Int) from rfl,show(57:Int)=((57:Nat):Int) from rfl,a,b,digB]
 cases decide (48≤c.toNat)<;>rfl
theorem rDigit (c:UInt8):Qmg (c.toNat:Int)=some (digB c):=by
 have a:=geN c.toNat 48
 have b:=leN c.toNat 57
 rw[Qmg]
 rw[show(48:Int)=((48:Nat):Int) from rfl,show(57:Int)=((57:Nat):Int) from rfl,a,b,digB]
 cases decide (48≤c.toNat)<;>rfl
theorem rSmall (c:UInt8):Qkg (c.toNat:Int)=some (smallB c):=by
 have a:=geN c.toNat 97
 have b:=leN c.toNat 122
 rw[Qkg]
 rw[show(97:Int)=((97:Nat):Int) from rfl,show(122:Int)=((122:Nat):Int) from rfl,a,b,smallB]
 cases decide (97≤c.toNat)<;>rfl
theorem lLetter (c:UInt8):Qg7 (c.toNat:Int)=some (letB c):=by
 have a:=geN c.toNat 97
 have b:=leN c.toNat 122
 have d:=eqN c.toNat 95
 rw[Qg7,lDigit]
 rw[show(97:Int)=((97:Nat):Int) from rfl,show(122:Int)=((122:Nat):Int) from rfl,show(95:Int)=((95:Nat):Int) from rfl,a,b,d,letB,smallB]
 simp only[Qad]
 cases decide (97≤c.toNat)<;>cases decide (c.toNat≤122)<;>cases digB c<;>cases (c.toNat==95)<;>rfl
theorem lWordL (s:List UInt8) (hs:s.length<9223372036854775807):∀ k,k≤s.length→Qes s k=some (if(s.drop k).all letB then .inl () else .inr ()):=by
 refine upto ?_ fun k hk ih=>?_
 ·rw[Qes]; simp
 ·rw[Qes,Qbt (by omega),ih]
  simp only[ltI,hk,decide_true,if_true,Qbr,getE hk,Qad,lLetter]
  rw[dropE hk,List.all_cons]
  cases letB s[k]<;>rfl
theorem lWord (s:List UInt8) (hs:s.length<9223372036854775807):Qjn s=some (wordP s):=by
 have h:=lWordL s hs 0 (by omega)
 rw[Qjn,show(0:Int)=((0:Nat):Int) from rfl,h,List.drop_zero,wordP]
 have e:=leN s.length 32
 rw[show(32:Int)=((32:Nat):Int) from rfl,e]
 cases ha:s.all letB with
 | false=>cases (s==[])<;>cases decide (s.length≤32)<;>cases headB s<;>rfl
 | true =>
  cases s with
  | nil=>rfl
  | cons c r =>
   have g:=geN c.toNat 97
   rw[show(97:Int)=((97:Nat):Int) from rfl]
   simp only[if_true,Qad,Qbr,List.getElem?_cons_zero,g,Qpt]
   have e0:((c::r)==([]:List UInt8))=false:=rfl
   rw[e0]
   cases decide ((c::r).length≤32)<;>simp
theorem letSmall {c:UInt8} (h:letB c=true):smallB c=decide (97≤c.toNat):=by
 unfold letB smallB digB at *
 by_cases h1:97≤c.toNat
 ·rw[decide_eq_true h1] at h ⊢
  simp at h ⊢
  omega
 ·rw[decide_eq_false h1]; rfl
theorem rWordL (s:List UInt8) (hs:s.length<9223372036854775807):∀ k,k≤s.length→Qen s k=some (if(s.drop k).all letB then .inl () else .inr ()):=by
 refine upto ?_ fun k hk ih=>?_
 ·rw[Qen]; simp
 ·have d:=eqN s[k].toNat 95
  rw[Qen,Qbt (by omega),ih]
  simp only[ltI,hk,decide_true,if_true,Qbr,getE hk,Qad,rSmall,rDigit]
  rw[dropE hk,List.all_cons,letB]
  have e:(((s[k].toNat:Nat):Int) != 95) = !(s[k].toNat==95):=by rw[← d]; rfl
  rw[e]
  cases smallB s[k]<;>cases digB s[k]<;>cases (s[k].toNat==95)<;>rfl
theorem rWord (s:List UInt8) (hs:s.length<9223372036854775807):Qk5 s=some (wordP s):=by
 have h:=rWordL s hs 0 (by omega)
 rw[Qk5,show(0:Int)=((0:Nat):Int) from rfl,h,List.drop_zero,wordP]
 cases s with
 | nil=>rfl
 | cons c r =>
  have e1:decide ((((c::r).length:Nat):Int)<1)=false:=decide_eq_false (by simp; omega)
  have e2:decide ((((c::r).length:Nat):Int)>32) = !(decide ((c::r).length≤32)):=by
   by_cases h:(c::r).length≤32
   ·rw[decide_eq_true h,decide_eq_false (by omega)]; rfl
   ·rw[decide_eq_false h,decide_eq_true (by omega)]; rfl
  simp only[e1,e2,Bool.false_eq_true,if_false,Qbr,List.getElem?_cons_zero,Qad,rSmall,Qpt]
  have e0:((c::r)==([]:List UInt8))=false:=rfl
  rw[e0]
  cases ha:(c::r).all letB with
  | true =>
   have hl:letB c=true:=by rw[List.all_cons,Bool.and_eq_true] at ha; exact ha.1
   rw[letSmall hl]
   cases decide ((c::r).length≤32)<;>cases decide (97≤c.toNat)<;>rfl
  | false=>cases decide ((c::r).length≤32)<;>cases decide (97≤c.toNat)<;>cases smallB c<;>rfl
theorem Q0g (a b:List UInt8):s2b (a++b)=s2b a++s2b b:=by simp[s2b]
theorem Qpu (a:List UInt8):(s2b a).length=a.length:=by simp[s2b]
theorem Q60 (l:List UInt8):b2s (s2b l)=some l:=by
 unfold b2s s2b
 rw[if_pos]
 ·rw[List.map_map]
  congr 1
  have:∀ c:UInt8,((fun n:Int=>UInt8.ofNat n.toNat) ∘ fun c:UInt8=>(c.toNat:Int)) c=c:=fun c=>by simp
  rw[show((fun n:Int=>UInt8.ofNat n.toNat) ∘ fun c:UInt8=>(c.toNat:Int))=id from funext this,List.map_id]
 ·rw[List.all_eq_true]
  intro n hn
  obtain⟨c,-,rfl⟩:=List.mem_map.1 hn
  have:=c.toNat_lt
  simp only[decide_eq_true_eq]
  omega
end Go.Proofs.YtagokkpnfceidaaDoor
end

section
namespace Go.Proofs.YtagokkpnfceidaaDoor
open Go.RowKit
def kws:List (List UInt8):=[[105,102],[101,108,115,101],[101,110,100],[101,97,99,104],[105,110],[108,101,116],[117,115,101],[116,114,117,101],[102,97,108,115,101],[115,101,99,114,101,116]]
def nameP (s:List UInt8):Bool := !(kws.any (· == s))&&wordP s
theorem tName (s:List UInt8) (hs:s.length<9223372036854775807):Qml s=some (nameP s):=by
 have c:∀ a:List UInt8,(a==s)=(s==a):=fun a=>by rw[Bool.beq_comm]
 rw[Qml,lWord s hs,nameP]
 simp only[kws,List.any_cons,List.any_nil,c]
 generalize (s==[105,102])=a1
 generalize (s==[101,108,115,101])=a2
 generalize (s==[101,110,100])=a3
 generalize (s==[101,97,99,104])=a4
 generalize (s==[105,110])=a5
 generalize (s==[108,101,116])=a6
 generalize (s==[117,115,101])=a7
 generalize (s==[116,114,117,101])=a8
 generalize (s==[102,97,108,115,101])=a9
 generalize (s==[115,101,99,114,101,116])=a10
 generalize wordP s=b
 cases a1
 ·cases a2
  ·cases a3
   ·cases a4
    ·cases a5
     ·cases a6
      ·cases a7
       ·cases a8
        ·cases a9
         ·cases a10<;>cases b<;>rfl
         ·rfl
        ·rfl
       ·rfl
      ·rfl
     ·rfl
    ·rfl
   ·rfl
  ·rfl
 ·rfl
theorem rNameL (s:List UInt8) (l:List (List UInt8)) (hl:l.length<9223372036854775807):∀ k,k≤l.length→Qdv s l k=some (if(l.drop k).any (· == s) then .inr () else .inl ()):=by
 refine upto ?_ fun k hk ih=>?_
 ·rw[Qdv]; simp
 ·rw[Qdv,Qbt (by omega),ih]
  simp only[ltI,hk,decide_true,if_true,Qbr,getE hk,Qad]
  rw[dropE hk,List.any_cons]
  cases (l[k]==s)<;>rfl
theorem rName (s:List UInt8) (hs:s.length<9223372036854775807):Qjk s=some (nameP s):=by
 have h:=rNameL s kws (by decide) 0 (by omega)
 rw[Qjk,Qox]
 simp only[Qad,rWord s hs]
 rw[show(0:Int)=((0:Nat):Int) from rfl]
 show(Qdv s kws _>>=_)=_
 rw[h,List.drop_zero,nameP]
 cases kws.any (· == s)<;>rfl
theorem Q61 {s:List UInt8} (h:wordP s=true):(s==[])=false:=by
 unfold wordP at h
 cases hs:(s==[]) with
 | false=>rfl
 | true=>rw[hs] at h; cases h
theorem Qi9 {s:List UInt8} (h:nameP s=true):wordP s=true:=by
 unfold nameP at h
 cases hw:wordP s with
 | true=>rfl
 | false=>rw[hw] at h; simp at h
def hasB:List UInt8→Bool
 | []=>false
 | c::r=>(c==123&&r.head? == some 123)||hasB r
theorem rBegins (s:List UInt8) (k:Nat) (hk:k<s.length) (hs:s.length<4294967281):Qke s [123,123] k=some (match s.drop k with | []=>false | c::r=>c==123&&r.head? == some 123):=by
 have e1:decide ((k:Int) ≥ 0)=true:=decide_eq_true (by omega)
 have e2:decide ((k:Int)≤(s.length:Int))=true:=decide_eq_true (by omega)
 have e3:wr ((s.length:Int)-k)=((s.length-k:Nat):Int):=by rw[wr_in (by omega) (by omega)]; omega
 have e4:wr ((k:Int)+(([123,123]:List UInt8).length:Int))=((k+2:Nat):Int):=by rw[wr_in (by simp; omega) (by simp; omega)]; simp
 rw[Qke,e1,e2,e3,e4]
 simp only[if_true]
 by_cases h2:2≤s.length-k
 ·have e5:decide (((([123,123]:List UInt8).length:Nat):Int)≤((s.length-k:Nat):Int))=true:=decide_eq_true (by simp; omega)
  rw[e5,Qjq (by omega) (by omega) (by omega)]
  simp only[if_true,Qad]
  have hk1:k+1<s.length:=by omega
  have e6:(s.take (k+2)).drop k=[s[k],s[k+1]]:=by
   apply List.ext_getElem
   ·simp; omega
   ·intro i h1 h2
    simp at h1 h2
    match i,h2 with
    | 0,_=>simp
    | 1,_=>simp
  rw[Int.toNat_natCast,Int.toNat_natCast,e6,dropE hk,dropE hk1]
  simp only[List.head?_cons]
  have:(([s[k],s[k+1]]:List UInt8)==[123,123])=(s[k]==123&&(some s[k+1]==some 123)):=by
   have e:(some s[k+1]==some (123:UInt8))=(s[k+1]==123):=rfl
   rw[e,List.cons_beq_cons,List.cons_beq_cons]
   show(s[k]==123&&(s[k+1]==123&&true))=_
   rw[Bool.and_true]
  rw[this]
 ·have e5:decide (((([123,123]:List UInt8).length:Nat):Int)≤((s.length-k:Nat):Int))=false:=decide_eq_false (by simp; omega)
  rw[e5,dropE hk]
  have:s.drop (k+1)=[]:=List.drop_eq_nil_of_le (by omega)
  rw[this]
  simp
theorem rStandsL (s:List UInt8) (hs:s.length<4294967281):∀ k,k≤s.length→Qcz s [123,123] k=some (if hasB (s.drop k) then .inr () else .inl ()):=by
 refine upto ?_ fun k hk ih=>?_
 ·rw[Qcz]; simp[hasB]
 ·rw[Qcz,Qbt (by omega),ih,rBegins s k hk hs]
  simp only[ltI,hk,decide_true,if_true,Qad]
  rw[dropE hk,hasB]
  show(if(s[k]==123&&(s.drop (k+1)).head? == some 123)=true then _ else _)=_
  generalize (s[k]==123&&(s.drop (k+1)).head? == some 123)=b
  cases b<;>rfl
theorem rStands (s:List UInt8) (hs:s.length<4294967281):Qkh s [123,123]=some (hasB s):=by
 have h:=rStandsL s hs 0 (by omega)
 rw[Qkh,show(0:Int)=((0:Nat):Int) from rfl,h,List.drop_zero]
 cases hasB s<;>rfl
def endB (s:List UInt8):Bool:=s.getLast? == some 123
theorem rEnd (s:List UInt8) (hs:s.length<4294967281) (hne:(s==[])=false):(idx s (wr ((s.length:Int)-1))>>=fun x=>some ((x.toNat:Int)==123))=some (endB s):=by
 have hne:s≠[]:=fun h=>by subst h; cases hne
 have hpos:0<s.length:=List.length_pos_iff.2 hne
 have e2:wr ((s.length:Int)-1)=((s.length-1:Nat):Int):=by rw[wr_in (by omega) (by omega)]; omega
 have h1:s.length-1<s.length:=by omega
 rw[e2,Qbr,getE h1,Qad,endB,List.getLast?_eq_getElem?,getE h1]
 have d:=eqN s[s.length-1].toNat 123
 rw[show(123:Int)=((123:Nat):Int) from rfl,d]
 congr 1
 by_cases h:s[s.length-1]=123
 ·rw[h]; rfl
 ·have:s[s.length-1].toNat≠123:=fun e=>h (UInt8.toNat_inj.1 (by rw[e]; rfl))
  rw[beq_eq_false_iff_ne.2 this]
  symm
  rw[beq_eq_false_iff_ne]
  intro e; exact h (Option.some.inj e)
end Go.Proofs.YtagokkpnfceidaaDoor
end

section
namespace Go.Proofs.YtagokkpnfceidaaDoor
open Go.RowKit
mutual
def allN (Q:Qaa→Prop):Qaa→Prop
 | ⟨k,s,t,n,a,b,c⟩=>Q ⟨k,s,t,n,a,b,c⟩∧allL Q a∧allL Q b∧allL Q c
def allL (Q:Qaa→Prop):List Qaa→Prop
 | []=>True
 | x::r=>allN Q x∧allL Q r
end
theorem Qe5 (Q:Qaa→Prop) (x:Qaa):allN Q x↔(Q x∧allL Q x.L∧allL Q x.Then∧allL Q x.Else):=by cases x; rw[allN]
theorem Qhk {Q:Qaa→Prop}:∀ {l:List Qaa} {x:Qaa},x ∈ l→allL Q l→allN Q x
 | y::r,x,h,hs=>by
  rw[allL] at hs
  rcases List.mem_cons.1 h with rfl | h
  ·exact hs.1
  ·exact Qhk h hs.2
theorem Q62 {R Q:Qaa→Prop} (h:∀ x:Qaa,x.Name.length≤40→x.Text.length≤60→R x→Q x):∀ n (l:List Qaa),nns l≤n→sms l→allL R l→allL Q l:=by
 intro n
 induction n with
 | zero=>intro l hn _; cases l with
  | nil=>intro _; rw[allL]; trivial
  | cons x r=>have:=Qgp x; simp[nns] at hn; omega
 | succ n ih =>
  intro l
  induction l with
  | nil=>intro _ _ _; rw[allL]; trivial
  | cons x r ihr =>
   intro hn hs hr
   rw[nns,nn_eq] at hn
   rw[sms,sm_eq] at hs
   obtain⟨⟨h1,h2,h3,h4,h5⟩,h6⟩:=hs
   rw[allL,Qe5] at hr ⊢
   obtain⟨⟨g1,g2,g3,g4⟩,g5⟩:=hr
   exact⟨⟨h x h1 h2 g1,ih _ (by omega) h3 g2,ih _ (by omega) h4 g3,ih _ (by omega) h5 g4⟩,ihr (by omega) h6 g5⟩
structure okNd (x:Qaa):Prop where
 nm:x.Name.length≤1000000
 tx:x.Text.length≤1000000
 rg : -9223372036854775808≤x.N∧x.N≤9223372036854775807
 qt:x.Kind=1→∃ q,Qgi x.Text=some q∧Qgi x.Text=some q
noncomputable def quoteP (s:List UInt8):List UInt8×Bool:=(Qgi s).getD ([],false)
def zl (l:List Qaa):Bool:=l.length==0
mutual
noncomputable def exprP:Qaa→Bool
 | ⟨k,s,t,n,a,b,c⟩ =>
  if k==1 then(quoteP t).2&&(s==[]&&(n==0&&(zl a&&(zl b&&zl c)))) else
  if k==2 then s==[]&&(t==[]&&(zl a&&(zl b&&zl c))) else
  if k==3 then(n==0||n==1)&&(s==[]&&(t==[]&&(zl a&&(zl b&&zl c)))) else
  if k==4 then nameP s&&(t==[]&&(n==0&&(zl a&&(zl b&&zl c)))) else
  if k==5 then wordP s&&(a.length==1&&(exprsP a&&(t==[]&&(n==0&&(zl b&&zl c))))) else
  if k==6 then nameP s&&(decide (a.length≤3)&&(exprsP a&&(t==[]&&(n==0&&(zl b&&zl c))))) else
  if k==7 then wordP s&&(t==[]&&(n==0&&(zl a&&(zl b&&zl c)))) else false
noncomputable def exprsP:List Qaa→Bool
 | []=>true
 | x::r=>exprP x&&exprsP r
end
theorem Qo2 (x:Qaa):exprP x =
  if x.Kind==1 then(quoteP x.Text).2&&(x.Name==[]&&(x.N==0&&(zl x.L&&(zl x.Then&&zl x.Else)))) else
  if x.Kind==2 then x.Name==[]&&(x.Text==[]&&(zl x.L&&(zl x.Then&&zl x.Else))) else
  if x.Kind==3 then(x.N==0||x.N==1)&&(x.Name==[]&&(x.Text==[]&&(zl x.L&&(zl x.Then&&zl x.Else)))) else
  if x.Kind==4 then nameP x.Name&&(x.Text==[]&&(x.N==0&&(zl x.L&&(zl x.Then&&zl x.Else)))) else
  if x.Kind==5 then wordP x.Name&&(x.L.length==1&&(exprsP x.L&&(x.Text==[]&&(x.N==0&&(zl x.Then&&zl x.Else))))) else
  if x.Kind==6 then nameP x.Name&&(decide (x.L.length≤3)&&(exprsP x.L&&(x.Text==[]&&(x.N==0&&(zl x.Then&&zl x.Else))))) else
  if x.Kind==7 then wordP x.Name&&(x.Text==[]&&(x.N==0&&(zl x.L&&(zl x.Then&&zl x.Else)))) else false:=by cases x; rw[exprP]
theorem zI (l:List Qaa):((l.length:Int)==0)=zl l:=eqN l.length 0
theorem gI (l:List Qaa):decide ((l.length:Int)>0) = !zl l:=by
 unfold zl
 by_cases h:l.length=0
 ·rw[h]; rfl
 ·rw[beq_eq_false_iff_ne.2 h,decide_eq_true (by omega)]; rfl
theorem oneI (l:List Qaa):((l.length:Int)==1)=(l.length==1):=eqN l.length 1
section
end
def bareB (x:Qaa) (p1 p2 p3 p4 p5:Bool):Bool:=(p1||x.Name==[])&&((p2||x.Text==[])&&((p3||x.N==0)&&((p4||zl x.L)&&((p5||zl x.Then)&&(x.Kind==10||zl x.Else)))))
theorem rBare (x:Qaa) (p1 p2 p3 p4 p5:Bool):Qcy x p1 p2 p3 p4 p5=some (bareB x p1 p2 p3 p4 p5):=by
 unfold Qcy bareB
 simp only[zI]
 generalize (x.Name==[])=a1
 generalize (x.Text==[])=a2
 generalize (x.N==0)=a3
 generalize zl x.L=a4
 generalize zl x.Then=a5
 generalize zl x.Else=a6
 generalize (x.Kind==10)=a7
 have e:∀ b:Bool,(if a7=true then some true else some b:Option Bool)=some (a7||b):=fun b=>by cases a7<;>rfl
 simp only[e]
 generalize (a7||a6)=a8
 cases p1<;>cases p2<;>cases p3<;>cases p4<;>cases p5<;>cases a1<;>(try rfl)<;>cases a2<;>(try rfl)<;>cases a3<;>(try rfl)<;>cases a4<;>(try rfl)<;>cases a5<;>rfl
section
variable (n:Nat) (ih:∀ x:Qaa,nn x≤n→allN okNd x→Qm9 x=some (exprP x))
include ih
theorem rExprsL (l:List Qaa) (h:nns l≤n) (ho:allL okNd l) (hl:l.length<9223372036854775807):∀ k,k≤l.length→Qf1 l k=some (if exprsP (l.drop k) then .inl () else .inr ()):=by
 refine upto ?_ fun k hk ihk=>?_
 ·rw[Qf1]; simp[exprsP]
 ·have hx:=Qfs (List.getElem_mem hk)
  rw[Qf1,Qbt (by omega),ihk]
  simp only[ltI,hk,decide_true,if_true,Qbr,getE hk,Qad,ih l[k] (by omega) (Qhk (List.getElem_mem hk) ho)]
  rw[dropE hk,exprsP]
  cases exprP l[k]<;>rfl
theorem rExprs (l:List Qaa) (h:nns l≤n) (ho:allL okNd l) (hl:l.length<9223372036854775807):Qi6 l=some (exprsP l):=by
 have:=rExprsL n ih l h ho hl 0 (by omega)
 rw[Qi6,show(0:Int)=((0:Nat):Int) from rfl,this,List.drop_zero]
 cases exprsP l<;>rfl
end
theorem rExpr:∀ n (x:Qaa),n<1000000000→nn x≤n→allN okNd x→Qm9 x=some (exprP x):=by
 intro n
 induction n with
 | zero=>intro x _ h; have:=Qgp x; omega
 | succ n ih =>
  intro x hb h ho
  rw[nn_eq] at h
  obtain⟨hq,ho1,-,-⟩:=(Qe5 okNd x).1 ho
  have hnm:=hq.nm
  have hll:=Qg9 x.L
  have hex:=rExprs n (fun y=>ih y (by omega)) x.L (by omega) ho1 (by omega)
  have el:decide ((x.L.length:Int)≤3)=decide (x.L.length≤3):=leN x.L.length 3
  rw[Qm9,Qo2,rName x.Name (by omega),rWord x.Name (by omega),hex]
  simp only[Qad,rBare,bareB,oneI,el]
  by_cases k1:x.Kind=1
  ·obtain⟨q,q1,q2⟩:=hq.qt k1
   have e10:(x.Kind==10)=false:=beq_eq_false_iff_ne.2 (by omega)
   simp only[e10]
   simp only[k1,beq_self_eq_true,if_true,q2,q1,Qad,quoteP,Option.getD_some]
   generalize (x.Name==[])=a1
   generalize (x.N==0)=a3
   generalize zl x.L=a4
   generalize zl x.Then=a5
   generalize zl x.Else=a6
   cases q.2<;>cases a1<;>cases a3<;>cases a4<;>cases a5<;>cases a6<;>rfl
  have b1:(x.Kind==1)=false:=beq_eq_false_iff_ne.2 k1
  by_cases h10:x.Kind=10
  ·simp only[h10]; rfl
  have e10:(x.Kind==10)=false:=beq_eq_false_iff_ne.2 h10
  simp only[e10,b1,Bool.false_eq_true,if_false,Bool.false_or,Bool.true_or,Bool.true_and]
  generalize (x.Kind==2)=k2
  generalize (x.Kind==3)=k3
  generalize (x.Kind==4)=k4
  generalize (x.Kind==5)=k5
  generalize (x.Kind==6)=k6
  generalize (x.Kind==7)=k7
  generalize (x.Name==[])=a1
  generalize (x.Text==[])=a2
  generalize (x.N==0)=a3
  generalize (x.N==1)=a8
  generalize zl x.L=a4
  generalize zl x.Then=a5
  generalize zl x.Else=a6
  generalize nameP x.Name=n1
  generalize wordP x.Name=n2
  generalize (x.L.length==1)=l1
  generalize decide (x.L.length≤3)=l3
  generalize exprsP x.L=ex
  cases k2
  ·cases k3
   ·cases k4
    ·cases k5
     ·cases k6
      ·cases k7
       ·rfl
       ·cases n2<;>rfl
      ·cases n1<;>(try rfl)<;>cases l3<;>(try rfl)<;>cases ex<;>rfl
     ·cases n2<;>(try rfl)<;>cases l1<;>(try rfl)<;>cases ex<;>rfl
    ·cases n1<;>rfl
   ·cases a3<;>(try rfl)<;>cases a8<;>rfl
  ·rfl
def litB:List Qaa→Bool
 | []=>false
 | x::_=>x.Kind==8
def badSt (x:Qaa) (r:List Qaa) (inn:Bool):Bool:=x.Kind==8&&(litB r||((!r.isEmpty||inn)&&endB x.Text))
mutual
noncomputable def stmtP:Qaa→Bool
 | ⟨k,s,t,n,a,b,c⟩ =>
  if k==8 then !(t==[])&&(!(hasB t)&&(s==[]&&(n==0&&(zl a&&(zl b&&zl c))))) else
  if k==9 then(a.length==1&&exprsP a)&&(s==[]&&(t==[]&&(n==0&&(zl b&&zl c)))) else
  if k==10 then(a.length==1&&exprsP a)&&((blockP b true&&blockP c true)&&(s==[]&&(t==[]&&n==0))) else
  if k==11||k==12 then nameP s&&((a.length==1&&exprsP a)&&(blockP b true&&(t==[]&&(n==0&&zl c)))) else
  if k==13 then nameP s&&((a.length==1&&exprsP a)&&(t==[]&&(n==0&&(zl b&&zl c)))) else false
noncomputable def blockP:List Qaa→Bool→Bool
 | [],_=>true
 | x::r,inn=>stmtP x&&(!(badSt x r inn)&&blockP r inn)
end
theorem Qnb (x:Qaa):stmtP x =
  if x.Kind==8 then !(x.Text==[])&&(!(hasB x.Text)&&(x.Name==[]&&(x.N==0&&(zl x.L&&(zl x.Then&&zl x.Else))))) else
  if x.Kind==9 then(x.L.length==1&&exprsP x.L)&&(x.Name==[]&&(x.Text==[]&&(x.N==0&&(zl x.Then&&zl x.Else)))) else
  if x.Kind==10 then(x.L.length==1&&exprsP x.L)&&((blockP x.Then true&&blockP x.Else true)&&(x.Name==[]&&(x.Text==[]&&x.N==0))) else
  if x.Kind==11||x.Kind==12 then nameP x.Name&&((x.L.length==1&&exprsP x.L)&&(blockP x.Then true&&(x.Text==[]&&(x.N==0&&zl x.Else)))) else
  if x.Kind==13 then nameP x.Name&&((x.L.length==1&&exprsP x.L)&&(x.Text==[]&&(x.N==0&&(zl x.Then&&zl x.Else)))) else false:=by cases x; rw[stmtP]
theorem Qco {l:List Qaa} (h:zl l=true):l=[]:=List.eq_nil_of_length_eq_zero (by simpa [zl] using h)
theorem Q4d (b:Bool):blockP [] b=true:=by rw[blockP]
theorem Q4e {x:Qaa} (h:stmtP x=true) (hk:x.Kind=8):(x.Text==[])=false:=by
 rw[Qnb,hk] at h
 simp only[beq_self_eq_true,if_true] at h
 cases ht:(x.Text==[]) with
 | false=>rfl
 | true=>rw[ht] at h; cases h
theorem lastI (k n:Nat) (hk:k<n) (hn:n<9223372036854775807):((k:Int)==wr ((n:Int)-1))=(k+1==n):=by
 have e:wr ((n:Int)-1)=((n-1:Nat):Int):=by rw[wr_in (by omega) (by omega)]; omega
 rw[e,eqN]
 by_cases h:k+1=n
 ·rw[beq_iff_eq.2 h,beq_iff_eq.2 (by omega)]
 ·rw[beq_eq_false_iff_ne.2 h,beq_eq_false_iff_ne.2 (by omega)]
theorem dropNil {l:List Qaa} {k:Nat} (hk:k<l.length):(l.drop (k+1)).isEmpty=(k+1==l.length):=by
 by_cases h:k+1=l.length
 ·rw[List.drop_eq_nil_of_le (by omega),beq_iff_eq.2 h]; rfl
 ·rw[beq_eq_false_iff_ne.2 h,dropE (by omega:k+1<l.length)]; rfl
end Go.Proofs.YtagokkpnfceidaaDoor
end

section
namespace Go.Proofs.YtagokkpnfceidaaDoor
open Go.RowKit
theorem Q63 (l:List Qaa) (k:Nat) (h:k+1<l.length):litB (l.drop (k+1))=(l[k+1].Kind==8):=by
 rw[dropE h]; rfl
section
end
section
variable (n:Nat) (hn:n<900000000) (ih:∀ x:Qaa,nn x≤n→allN okNd x→Qoy x=some (stmtP x))
include hn ih
theorem rBlockL (l:List Qaa) (h:nns l≤n) (ho:allL okNd l) (inn:Bool):∀ k,k≤l.length→Qeq l inn k=some (if blockP (l.drop k) inn then .inl () else .inr ()):=by
 have hl:=Qg9 l
 refine upto ?_ fun k hk ihk=>?_
 ·rw[Qeq]; simp[blockP]
 ·have hx:=Qfs (List.getElem_mem hk)
  have ha:=Qhk (List.getElem_mem hk) ho
  have htx:=((Qe5 okNd l[k]).1 ha).1.tx
  rw[Qeq,Qbt (by omega),ihk]
  simp only[ltI,hk,decide_true,if_true,Qbr,getE hk,Qad,ih l[k] (by omega) ha,lastI k l.length hk (by omega)]
  rw[dropE hk,blockP,badSt]
  rw[dropNil hk]
  cases hs:stmtP l[k] with
  | false=>rfl
  | true =>
   cases h8:(l[k].Kind==8) with
   | false =>
    have:(l[k].Kind != 8)=true:=by rw[bne,h8]; rfl
    rw[this]
    simp
   | true =>
    have h8' : (l[k].Kind != 8)=false:=by rw[bne,h8]; rfl
    rw[h8', rEnd l[k].Text (by omega) (Q4e hs (by simpa using h8))]
    by_cases hlast:k+1=l.length
    ·have e1:(k+1==l.length)=true:=beq_iff_eq.2 hlast
     have e2:litB (l.drop (k+1))=false:=by rw[List.drop_eq_nil_of_le (by omega)]; rfl
     rw[e1,e2]
     cases inn<;>cases endB l[k].Text<;>simp
    ·have e1:(k+1==l.length)=false:=beq_eq_false_iff_ne.2 hlast
     have hk1:k+1<l.length:=by omega
     rw[e1,Q63 l k hk1,getE hk1]
     simp only[Qad]
     cases (l[k+1].Kind==8)<;>cases endB l[k].Text<;>cases inn<;>simp
theorem rBlock (l:List Qaa) (h:nns l≤n) (ho:allL okNd l) (inn:Bool):Qgk l inn=some (blockP l inn):=by
 have:=rBlockL n hn ih l h ho inn 0 (by omega)
 rw[Qgk,show(0:Int)=((0:Nat):Int) from rfl,this,List.drop_zero]
 cases blockP l inn<;>rfl
end
theorem rStmt:∀ n (x:Qaa),n<900000000→nn x≤n→allN okNd x→Qoy x=some (stmtP x):=by
 intro n
 induction n with
 | zero=>intro x _ h; have:=Qgp x; omega
 | succ n ih =>
  intro x hb h ho
  rw[nn_eq] at h
  obtain⟨hq,ho1,ho2,ho3⟩:=(Qe5 okNd x).1 ho
  have hnm:=hq.nm
  have htx:=hq.tx
  have hll:=Qg9 x.L
  have ih' := fun y=>ih y (by omega)
  have t1:=rBlock n (by omega) ih' x.Then (by omega) ho2 true
  have t2:=rBlock n (by omega) ih' x.Else (by omega) ho3 true
  have hex:=rExprs n (fun y hy=>rExpr n y (by omega) hy) x.L (by omega) ho1 (by omega)
  rw[Qoy,Qnb,rName x.Name (by omega),rStands x.Text (by omega),t1,t2,hex]
  simp only[Qad,oneI,rBare,bareB]
  have e1:(if(x.L.length==1)=true then some (exprsP x.L) else some false:Option Bool)=some (x.L.length==1&&exprsP x.L):=by cases (x.L.length==1)<;>rfl
  rw[e1]
  simp only[Qad]
  generalize (x.L.length==1&&exprsP x.L)=one
  by_cases k8:x.Kind=8
  ·have e10:(x.Kind==10)=false:=beq_eq_false_iff_ne.2 (by omega)
   simp only[e10]
   simp only[k8,beq_self_eq_true,if_true]
   generalize (x.Name==[])=a1
   generalize (x.Text==[])=a2
   generalize (x.N==0)=a3
   generalize zl x.L=a4
   generalize zl x.Then=a5
   generalize zl x.Else=a6
   generalize hasB x.Text=hh
   cases a2<;>(try rfl)<;>cases hh<;>(try rfl)<;>cases a1<;>(try rfl)<;>cases a3<;>rfl
  have b8:(x.Kind==8)=false:=beq_eq_false_iff_ne.2 k8
  simp only[b8,Bool.false_eq_true,if_false]
  by_cases k10:x.Kind=10
  ·simp only[k10,beq_self_eq_true,if_true,show((10:Int)==9)=false from rfl,Bool.false_eq_true,if_false]
   generalize (x.Name==[])=a1
   generalize (x.Text==[])=a2
   generalize (x.N==0)=a3
   generalize blockP x.Then true=bt
   generalize blockP x.Else true=be
   generalize zl x.L=a4
   generalize zl x.Then=a5
   generalize zl x.Else=a6
   cases one<;>(try rfl)<;>cases bt<;>(try rfl)<;>cases be<;>(try rfl)<;>cases a1<;>(try rfl)<;>cases a2<;>(try rfl)<;>cases a3<;>rfl
  have b10:(x.Kind==10)=false:=beq_eq_false_iff_ne.2 k10
  simp only[b10,Bool.false_eq_true,if_false]
  have e11:(if(x.Kind==11)=true then some (x.Kind==11) else some (x.Kind==12):Option Bool)=some (x.Kind==11||x.Kind==12):=by cases (x.Kind==11)<;>rfl
  rw[e11]
  simp only[Qad]
  have nw:nameP x.Name=true→(x.Name==[])=false:=fun h=>Q61 (Qi9 h)
  generalize (x.Kind==9)=k9
  generalize (x.Kind==11||x.Kind==12)=k11
  generalize (x.Kind==13)=k13
  generalize (x.Name==[])=a1
  generalize nameP x.Name=nm
  generalize (x.Text==[])=a2
  generalize (x.N==0)=a3
  generalize blockP x.Then true=bt
  generalize blockP x.Else true=be
  generalize zl x.L=a4
  generalize zl x.Then=a5
  generalize zl x.Else=a6
  cases k9
  ·cases k11
   ·cases k13
    ·rfl
    ·cases nm<;>(try rfl)<;>cases one<;>(try rfl)<;>cases a2<;>(try rfl)<;>cases a3<;>rfl
   ·cases nm<;>(try rfl)<;>cases one<;>(try rfl)<;>cases bt<;>(try rfl)<;>cases a2<;>(try rfl)<;>cases a3<;>rfl
  ·cases one<;>(try rfl)<;>cases a1<;>(try rfl)<;>cases a2<;>(try rfl)<;>cases a3<;>rfl
end Go.Proofs.YtagokkpnfceidaaDoor
end

section
namespace Go.Proofs.YtagokkpnfceidaaDoor
open Go.RowKit
def maxD (l:List (Qaa×Int)) (m:Int):Int:=l.foldl (fun m x=>if x.2>m then x.2 else m) m
theorem Qqz (a b:List (Qaa×Int)) (m:Int):maxD (a++b) m=maxD b (maxD a m):=by unfold maxD; rw[List.foldl_append]
theorem tDeepL (x1:List Qaa×Int):∀ (l:List (Qaa×Int)) (m:Int),Qdn x1 l m=some (maxD l m)
 | [],m=>by rw[Qdn]; rfl
 | x::r,m=>by rw[Qdn,tDeepL x1 r]; rfl
theorem tCountL (x1:List Qaa×Int):∀ (l:List (Qaa×Int)) (m:Nat),m+l.length<9223372036854775807→Qc2 x1 l m=some ((m+l.length:Nat):Int)
 | [],m,_=>by rw[Qc2]; rfl
 | x::r,m,h=>by
  simp at h
  rw[Qc2,Qbt (by omega),tCountL x1 r (m+1) (by omega)]
  simp; omega
theorem tAll3 (p0:List Qaa) (p1 v12:Int) (x3:Qaa) (v28:Int) (x7:List Qaa×Int):∀ l:List (Qaa×Int),Qc3 p0 p1 v12 x3 v28 x7 l=some (l,())
 | []=>by rw[Qc3]
 | x::r=>by
  obtain⟨⟨k,s,t,n,a,b,c⟩,d⟩:=x
  rw[Qc3,tAll3 p0 p1 v12 x3 v28 x7 r]; rfl
def AllIs (d:Nat) (k dep:Nat) (o:Option (List (Qaa×Int)×Unit)):Prop:=∃ out,o=some (out,())∧out.length=k∧∀ m:Int,(d:Int)-1≤m→maxD out m=max m ((d:Int)-1+dep)
section
variable (n:Nat) (ih:∀ (l:List Qaa) (d:Nat),nns l≤n→n+d≤1000000000→AllIs d (nns l) (dps l) (Qd6 l d))
include ih
theorem tAll2 (l:List Qaa) (d:Nat) (v:Int) (x:Qaa) (hx:nn x≤n+1) (hd:n+1+d≤1000000000) :
  AllIs (d+1) (nns x.L+nns x.Then+nns x.Else) (max (dps x.L) (max (dps x.Then) (dps x.Else))) (Qbs l d v x 0):=by
 rw[nn_eq] at hx
 have ed:wr ((d:Int)+1)=((d+1:Nat):Int):=Qbt (by omega)
 obtain⟨o1,a1,a2,a3⟩:=ih x.L (d+1) (by omega) (by omega)
 obtain⟨o2,b1,b2,b3⟩:=ih x.Then (d+1) (by omega) (by omega)
 obtain⟨o3,c1,c2,c3⟩:=ih x.Else (d+1) (by omega) (by omega)
 have s3:Qbs l d v x 3=some ([],()):=by rw[Qbs]; rfl
 have s2:Qbs l d v x 2=some (o3++[],()):=by
  rw[Qbs]
  have e:wr ((2:Int)+1)=3:=by rw[wr_in (by omega) (by omega)]; rfl
  have g:idx ([x.L,x.Then,x.Else]:List (List Qaa)) 2=some x.Else:=Qzs _ 2
  rw[g,e,s3]
  simp only[Qad,Qhi,ed,c1,tAll3,show decide ((2:Int)<3)=true from rfl,if_true]
 have s1:Qbs l d v x 1=some (o2++(o3++[]),()):=by
  rw[Qbs]
  have e:wr ((1:Int)+1)=2:=by rw[wr_in (by omega) (by omega)]; rfl
  have g:idx ([x.L,x.Then,x.Else]:List (List Qaa)) 1=some x.Then:=Qzs _ 1
  rw[g,e,s2]
  simp only[Qad,Qhi,ed,b1,tAll3,show decide ((1:Int)<3)=true from rfl,if_true]
 have s0:Qbs l d v x 0=some (o1++(o2++(o3++[])),()):=by
  rw[Qbs]
  have e:wr ((0:Int)+1)=1:=by rw[wr_in (by omega) (by omega)]; rfl
  have g:idx ([x.L,x.Then,x.Else]:List (List Qaa)) 0=some x.L:=Qzs _ 0
  rw[g,e,s1]
  simp only[Qad,Qhi,ed,a1,tAll3,show decide ((0:Int)<3)=true from rfl,if_true]
 refine⟨_,s0,by simp; omega,fun m hm=>?_⟩
 rw[List.append_nil,Qqz,Qqz,a3 m hm,b3 _ (by omega),c3 _ (by omega)]
 omega
theorem tAll1 (l:List Qaa) (d:Nat) (hl:nns l≤n+1) (hd:n+1+d≤1000000000):∀ k,k≤l.length→AllIs d (nns (l.drop k)) (dps (l.drop k)) (Qdx l d k):=by
 have hlen:=Qg9 l
 refine upto ?_ fun k hk ihk=>?_
 ·rw[Qdx,List.drop_length]
  refine⟨[],by simp,by simp[nns],fun m hm=>?_⟩
  simp[maxD,dps]; omega
 ·have hx:=Qfs (List.getElem_mem hk)
  obtain⟨o1,a1,a2,a3⟩:=tAll2 n ih l d k l[k] (by omega) hd
  obtain⟨o2,b1,b2,b3⟩:=ihk
  rw[Qdx,Qbt (by omega)]
  simp only[ltI,hk,decide_true,if_true,Qbr,getE hk,Qad,a1,b1]
  rw[dropE hk]
  refine⟨_,rfl,?_,fun m hm=>?_⟩
  ·simp[nns,nn_eq,a2,b2]; omega
  ·show maxD ([(l[k],(d:Int))]++(o1++o2)) m=_
   have e0:maxD [(l[k],(d:Int))] m=max m d:=by
    show(if(d:Int)>m then(d:Int) else m)=_
    split<;>omega
   rw[Qqz,Qqz,e0,a3 _ (by omega),b3 _ (by omega),dps,dp_eq]
   omega
end
theorem tAll:∀ n (l:List Qaa) (d:Nat),nns l≤n→n+d≤1000000000→AllIs d (nns l) (dps l) (Qd6 l d):=by
 intro n
 induction n with
 | zero =>
  intro l d h _
  have hl:l=[]:=List.eq_nil_of_length_eq_zero (by have:=Qg9 l; omega)
  subst hl
  rw[Qd6,Qdx]
  refine⟨[],by simp,by simp[nns],fun m hm=>?_⟩
  simp[maxD,dps]; omega
 | succ n ih =>
  intro l d h hd
  obtain⟨o,a1,a2,a3⟩:=tAll1 n ih l d h hd 0 (by omega)
  rw[List.drop_zero] at a2 a3
  refine⟨o,?_,a2,a3⟩
  rw[Qd6,show(0:Int)=((0:Nat):Int) from rfl,a1]
  simp
theorem tDeep (l:List Qaa) (h:nns l≤900000000):Qmo l=some (dps l:Int):=by
 obtain⟨o,a1,a2,a3⟩:=tAll 900000000 l 1 h (by omega)
 rw[Qmo,Qhi]
 simp only[Qad]
 rw[show(1:Int)=((1:Nat):Int) from rfl,a1]
 simp only[Qad,tDeepL]
 rw[a3 0 (by omega)]
 congr 1
 omega
theorem tCount (l:List Qaa) (h:nns l≤900000000):Qkk l=some (nns l:Int):=by
 obtain⟨o,a1,a2,a3⟩:=tAll 900000000 l 1 h (by omega)
 have:=tCountL (l,((1:Nat):Int)) o 0 (by omega)
 rw[Qkk,Qhi]
 simp only[Qad]
 rw[show(1:Int)=((1:Nat):Int) from rfl,a1]
 simp only[Qad]
 rw[show(0:Int)=((0:Nat):Int) from rfl,this]
 simp[a2]
theorem Q4f:∀ m (l:List Qaa),nns l≤m→dps l≤nns l:=by
 intro m
 induction m with
 | zero =>
  intro l h
  have hl:l=[]:=List.eq_nil_of_length_eq_zero (by have:=Qg9 l; omega)
  subst hl; simp[dps]
 | succ m ihm =>
  intro l
  induction l with
  | nil=>intro _; simp[dps]
  | cons x r ihr =>
   intro h
   rw[nns,nn_eq] at h
   have h1:=ihm x.L (by omega)
   have h2:=ihm x.Then (by omega)
   have h3:=ihm x.Else (by omega)
   have h4:=ihr (by omega)
   rw[dps,dp_eq,nns,nn_eq]
   omega
section
variable (n:Nat) (hn:n≤900000000) (ih:∀ l:List Qaa,nns l≤n→Qgj l=some (dps l:Int)∧Qeo l=some (nns l:Int))
include hn ih
theorem rDeepL (l:List Qaa) (h:nns l≤n+1):∀ k,k≤l.length→∀ v:Nat,v≤1000000000→Qfq l v k=some ((max v (dps (l.drop k)):Nat):Int):=by
 have hl:=Qg9 l
 refine upto ?_ fun k hk ihk=>?_
 ·intro v _; rw[Qfq]; simp[dps]
 ·intro v hv
  have hx:=Qfs (List.getElem_mem hk)
  rw[nn_eq] at hx
  have d1:=Q4f _ l[k].L (Nat.le_refl _)
  have d2:=Q4f _ l[k].Then (Nat.le_refl _)
  have d3:=Q4f _ l[k].Else (Nat.le_refl _)
  have em:(if(dps l[k].Else:Int)>(if(dps l[k].Then:Int)>(dps l[k].L:Int) then(dps l[k].Then:Int) else(dps l[k].L:Int)) then(dps l[k].Else:Int) else(if(dps l[k].Then:Int)>(dps l[k].L:Int) then(dps l[k].Then:Int) else(dps l[k].L:Int)))=((max (dps l[k].L) (max (dps l[k].Then) (dps l[k].Else)):Nat):Int):=by
   split<;>split at * <;> omega
  rw[Qfq,Qbt (by omega)]
  simp only[ltI,hk,decide_true,if_true,Qbr,getE hk,Qad,(ih l[k].L (by omega)).1,(ih l[k].Then (by omega)).1,(ih l[k].Else (by omega)).1]
  rw[em]
  have ew:wr (1+((max (dps l[k].L) (max (dps l[k].Then) (dps l[k].Else)):Nat):Int))=((dp l[k]:Nat):Int):=by
   rw[wr_in (by omega) (by omega),dp_eq]; omega
  rw[ew]
  have ei:(if((dp l[k]:Nat):Int)>(v:Int) then((dp l[k]:Nat):Int) else(v:Int))=((max v (dp l[k]):Nat):Int):=by split<;>omega
  have hdp:dp l[k]≤1000000000:=by rw[dp_eq]; omega
  rw[ei,ihk (max v (dp l[k])) (by omega),dropE hk,dps]
  congr 2
  omega
theorem rCountL (l:List Qaa) (h:nns l≤n+1):∀ k,k≤l.length→∀ v:Nat,v+nns (l.drop k)≤1000000000→Qep l v k=some ((v+nns (l.drop k):Nat):Int):=by
 have hl:=Qg9 l
 refine upto ?_ fun k hk ihk=>?_
 ·intro v _; rw[Qep]; simp[nns]
 ·intro v hv
  have hx:=Qfs (List.getElem_mem hk)
  rw[nn_eq] at hx
  rw[dropE hk,nns,nn_eq] at hv
  rw[Qep,Qbt (i:=k) (by omega)]
  simp only[ltI,hk,decide_true,if_true,Qbr,getE hk,Qad,(ih l[k].L (by omega)).2,(ih l[k].Then (by omega)).2,(ih l[k].Else (by omega)).2]
  have ew:wr ((wr ((wr ((wr ((v:Int)+1))+(nns l[k].L:Int)))+(nns l[k].Then:Int)))+(nns l[k].Else:Int))=((v+nn l[k]:Nat):Int):=by
   rw[wr_in (n:=(v:Int)+1) (by omega) (by omega),wr_in (n:=(v:Int)+1+(nns l[k].L:Int)) (by omega) (by omega),wr_in (n:=(v:Int)+1+(nns l[k].L:Int)+(nns l[k].Then:Int)) (by omega) (by omega),wr_in (by omega) (by omega),nn_eq]
   omega
  rw[ew,ihk (v+nn l[k]) (by rw[nn_eq]; omega),dropE hk,nns]
  congr 2
  omega
end
theorem rDC:∀ n (l:List Qaa),n≤900000000→nns l≤n→Qgj l=some (dps l:Int)∧Qeo l=some (nns l:Int):=by
 intro n
 induction n with
 | zero =>
  intro l _ h
  have hl:l=[]:=List.eq_nil_of_length_eq_zero (by have:=Qg9 l; omega)
  subst hl
  rw[Qgj,Qeo,Qfq,Qep]
  simp[dps,nns]
 | succ n ih =>
  intro l hn h
  have h1:=rDeepL n (by omega) (fun l hl=>ih l (by omega) hl) l h 0 (by omega) 0 (by omega)
  have h2:=rCountL n (by omega) (fun l hl=>ih l (by omega) hl) l h 0 (by omega) 0 (by rw[List.drop_zero]; omega)
  rw[Qgj,Qeo,show(0:Int)=((0:Nat):Int) from rfl,h1,h2]
  simp
noncomputable def isP (l:List Qaa):Bool:=decide (dps l≤12)&&(decide (nns l≤1024)&&blockP l false)
theorem rIs (l:List Qaa) (h:nns l≤800000000) (ho:allL okNd l):Qyd l=some (isP l):=by
 have e1:decide ((dps l:Int)≤12)=decide (dps l≤12):=leN _ 12
 have e2:decide ((nns l:Int)≤1024)=decide (nns l≤1024):=leN _ 1024
 have hb:=rBlock 800000000 (by omega) (fun x hx=>rStmt 800000000 x (by omega) hx) l h ho false
 obtain⟨hd,hc⟩:=rDC 800000000 l (by omega) h
 rw[Qyd,hd,hc,hb,isP]
 simp only[Qad,e1,e2]
 cases decide (dps l≤12)<;>cases decide (nns l≤1024)<;>cases blockP l false<;>rfl
end Go.Proofs.YtagokkpnfceidaaDoor
end

section
namespace Go.Proofs.YtagokkpnfceidaaDoor
open Go.RowKit
set_option linter.unusedSimpArgs false
set_option linter.unusedVariables false
abbrev Tk0:Qab:=⟨0,[],0,0,0⟩
def hd (l:List Qab):Qab:=l.headD Tk0
def kd (l:List Qab):Int:=(hd l).Kind
@[simp] theorem Q7l:hd []=Tk0:=rfl
@[simp] theorem Q4g (t:Qab) (r:List Qab):hd (t::r)=t:=rfl
@[simp] theorem Q7d:kd []=0:=rfl
@[simp] theorem Q64 (t:Qab) (r:List Qab):kd (t::r)=t.Kind:=rfl
inductive Rs (α : Type) where
 | ok (x : α) (l:List Qab)
 | bad (l:List Qab)
def Rs.bind {α β : Type} (r:Rs α) (f : α → List Qab→Rs β):Rs β := match r with
 | .ok x l=>f x l
 | .bad l =>.bad l
def isW (w:List UInt8) (l:List Qab):Bool:=kd l==4&&(hd l).Text==w
def want (k:Int) (l:List Qab):Rs Qab:=if kd l=k then .ok (hd l) l.tail else .bad l
def wantW (w:List UInt8) (l:List Qab):Rs Unit:=if isW w l=true then .ok () l.tail else .bad l
def nameR (l:List Qab):Rs (List UInt8):=if kd l=4∧nameP (hd l).Text=true then .ok (hd l).Text l.tail else .bad l
def endW (w:List UInt8) (l:List Qab):Rs Unit:=(want 2 l).bind fun _ l1=>(wantW w l1).bind fun _ l2=>(want 3 l2).bind fun _ l3 =>.ok () l3
def ahead (w:List UInt8) (l:List Qab):Bool:=kd l==2&&isW w l.tail
abbrev wIf:List UInt8:=[105,102]
abbrev wElse:List UInt8:=[101,108,115,101]
abbrev wEnd:List UInt8:=[101,110,100]
abbrev wEach:List UInt8:=[101,97,99,104]
abbrev wIn:List UInt8:=[105,110]
abbrev wLet:List UInt8:=[108,101,116]
abbrev wUse:List UInt8:=[117,115,101]
abbrev wTrue:List UInt8:=[116,114,117,101]
abbrev wFalse:List UInt8:=[102,97,108,115,101]
abbrev wSecret:List UInt8:=[115,101,99,114,101,116]
def secretR (l:List Qab):Rs Qaa:=(want 8 l).bind fun _ l1 =>
 if kd l1=5∧wordP (hd l1).Text=true then(want 9 l1.tail).bind fun _ l2 =>.ok ⟨7,(hd l1).Text,[],0,[],[],[]⟩ l2 else .bad l1
def argsR (E:List Qab→Rs Qaa) (l:List Qab):Rs (List Qaa) :=
 if kd l=9 then .ok [] l.tail else(E l).bind fun x1 l1 =>
  if kd l1=10 then(E l1.tail).bind fun x2 l2 =>
   if kd l2=10 then(E l2.tail).bind fun x3 l3=>(want 9 l3).bind fun _ l4 =>.ok [x1,x2,x3] l4
   else(want 9 l2).bind fun _ l4 =>.ok [x1,x2] l4
  else(want 9 l1).bind fun _ l4 =>.ok [x1] l4
def firstR (E:List Qab→Rs Qaa) (l:List Qab):Rs Qaa :=
 if kd l=5 then .ok ⟨1,[],(hd l).Text,0,[],[],[]⟩ l.tail
 else if kd l=6 then .ok ⟨2,[],[],(hd l).N,[],[],[]⟩ l.tail
 else if isW wTrue l=true then .ok ⟨3,[],[],1,[],[],[]⟩ l.tail
 else if isW wFalse l=true then .ok ⟨3,[],[],0,[],[],[]⟩ l.tail
 else if isW wSecret l=true then secretR l.tail
 else(nameR l).bind fun s l1=>if kd l1=8 then(argsR E l1.tail).bind fun xs l2 =>.ok ⟨6,s,[],0,xs,[],[]⟩ l2 else .ok ⟨4,s,[],0,[],[],[]⟩ l1
def dotsR:Nat→Qaa→List Qab→Rs Qaa
 | 0,x,l =>.ok x l
 | n+1,x,l=>if kd l=7 then(want 4 l.tail).bind fun t l2=>dotsR n ⟨5,t.Text,[],0,[x],[],[]⟩ l2 else .ok x l
def exprR:Nat→List Qab→Rs Qaa
 | 0,l =>.bad l
 | f+1,l=>(firstR (exprR f) l).bind fun x l1=>dotsR l1.length x l1
def ex20 (l:List Qab):Rs Qaa:=exprR (l.length+1) l
def closedR (l:List Qab):Rs Qaa:=(ex20 l).bind fun x l1=>(want 3 l1).bind fun _ l2 =>.ok x l2
def addLit (out:List Qaa) (s:List UInt8):List Qaa:=match out.getLast? with
 | some x=>if x.Kind=8 then out.set (out.length-1) ⟨x.Kind,x.Name,x.Text++s,x.N,x.L,x.Then,x.Else⟩ else out++[⟨8,[],s,0,[],[],[]⟩]
 | none=>out++[⟨8,[],s,0,[],[],[]⟩]
def actR (B:Bool→Bool→List Qab→Rs (List Qaa)) (l:List Qab):Rs Qaa :=
 if isW wIf l=true then(closedR l.tail).bind fun x l1=>(B true true l1).bind fun y l2 =>
  if ahead wElse l2=true then(endW wElse l2).bind fun _ l3=>(B true false l3).bind fun z l4=>(endW wEnd l4).bind fun _ l5 =>.ok ⟨10,[],[],0,[x],y,z⟩ l5
  else(endW wEnd l2).bind fun _ l5 =>.ok ⟨10,[],[],0,[x],y,[]⟩ l5
 else if isW wEach l=true then(nameR l.tail).bind fun s l1=>(wantW wIn l1).bind fun _ l2=>(closedR l2).bind fun x l3=>(B true false l3).bind fun y l4=>(endW wEnd l4).bind fun _ l5 =>.ok ⟨11,s,[],0,[x],y,[]⟩ l5
 else if isW wLet l=true then(nameR l.tail).bind fun s l1=>(want 11 l1).bind fun _ l2=>(closedR l2).bind fun x l3=>(B true false l3).bind fun y l4=>(endW wEnd l4).bind fun _ l5 =>.ok ⟨12,s,[],0,[x],y,[]⟩ l5
 else if isW wUse l=true then(nameR l.tail).bind fun s l1=>(closedR l1).bind fun x l2 =>.ok ⟨13,s,[],0,[x],[],[]⟩ l2
 else(closedR l).bind fun x l2 =>.ok ⟨9,[],[],0,[x],[],[]⟩ l2
def loopR:Nat→Bool→Bool→List Qaa→List Qab→Rs (List Qaa)
 | 0,_,_,_,l =>.bad l
 | f+1,i,o,out,l=>if l=[] then .ok out l else
  if kd l=1 then loopR f i o (addLit out (hd l).Text) l.tail
  else if((i&&ahead wEnd l)||(o&&ahead wElse l))=true then .ok out l
  else if kd l=2 then
   (if kd l.tail=3 then loopR f i o out l.tail.tail else(actR (fun i o l=>loopR f i o [] l) l.tail).bind fun x l2=>loopR f i o (out++[x]) l2)
  else .bad l
def bl20 (i o:Bool) (l:List Qab):Rs (List Qaa):=loopR (l.length+1) i o [] l
end Go.Proofs.YtagokkpnfceidaaDoor
end

section
namespace Go.Proofs.YtagokkpnfceidaaDoor
open Go.RowKit
set_option linter.unusedSimpArgs false
set_option linter.unusedVariables false
def pos (L l:List Qab):Int:=((L.length-l.length:Nat):Int)
structure Toks (L:List Qab):Prop where
 len:L.length≤200000
 sum:(L.map (·.Text.length)).sum≤200000
theorem Q4h {t:Qab}:∀ {L:List Qab},t ∈ L→t.Text.length≤(L.map (·.Text.length)).sum
 | x::r,h=>by
  rw[List.map_cons,List.sum_cons]
  rcases List.mem_cons.1 h with rfl | h
  ·omega
  ·have:=Q4h h; omega
theorem Q52 {L l:List Qab} (h:l <:+ L):L.drop (L.length-l.length)=l:=by
 obtain⟨p,rfl⟩:=h
 simp
theorem Qct {L l:List Qab} (h:l <:+ L):l.tail <:+ L:=(List.tail_suffix l).trans h
theorem Q4i {L l:List Qab} (hL:Toks L) (h:l <:+ L):(hd l).Text.length≤200000:=by
 cases l with
 | nil=>simp[hd]
 | cons t r=>have:=Q4h (h.subset (List.mem_cons_self)); have:=hL.sum; simp only[Q4g]; omega
theorem Qo3 {L l:List Qab} (hL:Toks L) (h:l <:+ L) (hne:l≠[]):wr (pos L l+1)=pos L l.tail:=by
 have h1:=h.length_le
 have h2:=hL.len
 have h3:0<l.length:=List.length_pos_iff.2 hne
 unfold pos
 rw[Qbt (by omega),List.length_tail]
 congr 1; omega
theorem Q4j {L l:List Qab} (h:l <:+ L) (hne:l≠[]):(pos L l==(L.length:Int))=false∧idx L (pos L l)=some (hd l)∧decide (pos L l<(L.length:Int))=true:=by
 have h1:=h.length_le
 have h3:0<l.length:=List.length_pos_iff.2 hne
 refine⟨?_,?_,?_⟩
 ·unfold pos; simp; omega
 ·unfold pos
  rw[Qbr]
  have:=Q52 h
  have e:L[L.length-l.length]? = (L.drop (L.length-l.length)).head? := by simp[List.head?_drop]
  rw[e,this]
  cases l with
  | nil=>exact absurd rfl hne
  | cons t r=>rfl
 ·unfold pos; simp; omega
theorem Q0h (L:List Qab):pos L []=(L.length:Int):=by simp[pos]
theorem kd_ne {l:List Qab} {k:Int} (hk:k≠0) (h:kd l=k):l≠[]:=fun e=>by subst e; exact hk h.symm
theorem Qig {l:List Qab} {w:List UInt8} (h:isW w l=true):l≠[]:=fun e=>by subst e; simp[isW] at h
section
variable {L l:List Qab} (hL:Toks L) (h:l <:+ L)
include hL h
theorem pNext:Qa2 L (pos L l)=some (hd l):=by
 have _:=hL
 unfold Qa2
 by_cases hne:l=[]
 ·subst hne; simp[Q0h]
 ·obtain⟨h1,h2,-⟩:=Q4j h hne
  rw[h1,h2]; rfl
theorem pSign (k:Int) (hk:k≠0):Qbb k L (pos L l)=some (if kd l=k then(true,pos L l.tail) else(false,pos L l)):=by
 unfold Qbb
 rw[pNext hL h]
 by_cases hkd:kd l=k
 ·have:((hd l).Kind != k)=false:=by simpa [kd] using hkd
  simp only[Qad,this,if_pos hkd,Qo3 hL h (kd_ne hk hkd)]; rfl
 ·have:((hd l).Kind != k)=true:=by simpa [kd] using hkd
  simp only[Qad,this,if_neg hkd]; rfl
theorem pWant (k:Int) (hk:k≠0):Qam k L (pos L l)=some (if kd l=k then .inl (hd l,pos L l.tail) else .inr ()):=by
 unfold Qam Qas
 rw[pNext hL h]
 by_cases hkd:kd l=k
 ·have:((hd l).Kind==k)=true:=by simpa [kd] using hkd
  simp only[Qad,this,mustO,if_pos hkd,Qo3 hL h (kd_ne hk hkd)]; rfl
 ·have:((hd l).Kind==k)=false:=by simpa [kd] using hkd
  simp only[Qad,this,mustO,if_neg hkd]; rfl
theorem pWord (w:List UInt8):Qan w L (pos L l)=some (if isW w l=true then(true,pos L l.tail) else(false,pos L l)):=by
 unfold Qan
 rw[pNext hL h]
 by_cases hw:isW w l=true
 ·have h4:(hd l).Kind=4∧(hd l).Text=w:=by simpa [isW,kd] using hw
  simp[h4.1,h4.2,hw,Qo3 hL h (Qig hw)]
 ·rw[if_neg hw]
  have hw' : isW w l=false:=by simpa using hw
  by_cases h4:(hd l).Kind=4
  ·have:((hd l).Text==w)=false:=by simpa [isW,kd,h4] using hw'
   simp[h4,this]
  ·simp[h4]
theorem pName:Qby L (pos L l)=some (match nameR l with | .ok s r =>.inl (s,pos L r) | .bad _ =>.inr ()):=by
 unfold Qby Qas nameR
 have ht:=Q4i hL h
 rw[pNext hL h,Qad,tName _ (by omega),Qad,pWant hL h 4 (by decide)]
 by_cases hn:nameP (hd l).Text=true
 ·by_cases hk:kd l=4
  ·simp[hn,hk,mustO]
  ·simp[hn,hk,mustO]
 ·simp[hn,mustO]
end
def cP {α : Type} (L:List Qab):Rs α → (α × Int)⊕Int
 | .ok x l =>.inl (x,pos L l)
 | .bad l =>.inr (pos L l)
def Suf {α : Type} (l:List Qab):Rs α → Prop
 | .ok _ l' => l' <:+ l∧l'.length<l.length
 | .bad l' => l' <:+ l
theorem Qcu {l:List Qab} (h:l≠[]):l.tail.length<l.length:=by
 have:=List.length_pos_iff.2 h
 rw[List.length_tail]; omega
theorem Suf.mono {α : Type} {l l' : List Qab} {r:Rs α} (h:Suf l' r) (hs:l' <:+ l):Suf l r:=by
 have:=hs.length_le
 cases r with
 | ok x l2=>exact⟨h.1.trans hs,by have:=h.2; omega⟩
 | bad l2=>exact List.IsSuffix.trans h hs
theorem Suf.bind {α β : Type} {l:List Qab} {r:Rs α} {f : α → List Qab→Rs β} (h:Suf l r) (hf:∀ x l', r = .ok x l' → Suf l' (f x l')∨∃ y,f x l' = .ok y l'):Suf l (r.bind f):=by
 cases r with
 | ok x l' =>
  rcases hf x l' rfl with k | ⟨y,k⟩
  ·exact k.mono h.1
  ·show Suf l (f x l'); rw[k]; exact h
 | bad l' => exact h
theorem Qhl {k:Int} (hk:k≠0) (l:List Qab):Suf l (want k l):=by
 unfold want
 split
 ·rename_i h; exact⟨List.tail_suffix l,Qcu (kd_ne hk h)⟩
 ·exact List.suffix_refl l
theorem Qyk (w:List UInt8) (l:List Qab):Suf l (wantW w l):=by
 unfold wantW
 split
 ·rename_i h; exact⟨List.tail_suffix l,Qcu (Qig h)⟩
 ·exact List.suffix_refl l
theorem Qh0 (l:List Qab):Suf l (nameR l):=by
 unfold nameR
 split
 ·rename_i h; exact⟨List.tail_suffix l,Qcu (kd_ne (by decide) h.1)⟩
 ·exact List.suffix_refl l
theorem Q1m (w:List UInt8) (l:List Qab):Suf l (endW w l) :=
 Suf.bind (Qhl (by decide) l) fun _ l1 _ =>.inl (Suf.bind (Qyk w l1) fun _ l2 _ =>.inl (Suf.bind (Qhl (by decide) l2) fun _ l3 _ =>.inr ⟨_,rfl⟩))
theorem Qhm {α : Type} {l:List Qab} {f:Rs α} (h:Suf l.tail f):Suf l f:=h.mono (List.tail_suffix l)
theorem Q0i (l:List Qab):Suf l (secretR l):=Suf.bind (Qhl (by decide) l) fun _ l1 _ =>.inl (by
 split
 ·exact Qhm (Suf.bind (Qhl (by decide) _) fun _ _ _ =>.inr ⟨_,rfl⟩)
 ·exact List.suffix_refl l1)
theorem Q4k {E:List Qab→Rs Qaa} (hE:∀ l,Suf l (E l)) (l:List Qab):Suf l (argsR E l):=by
 unfold argsR
 split
 ·rename_i h; exact⟨List.tail_suffix l,Qcu (kd_ne (by decide) h)⟩
 ·refine Suf.bind (hE l) fun x1 l1 _ =>.inl ?_
  split
  ·refine Qhm (Suf.bind (hE _) fun x2 l2 _ =>.inl ?_)
   split
   ·exact Qhm (Suf.bind (hE _) fun x3 l3 _ =>.inl (Suf.bind (Qhl (by decide) _) fun _ _ _ =>.inr ⟨_,rfl⟩))
   ·exact Suf.bind (Qhl (by decide) _) fun _ _ _ =>.inr ⟨_,rfl⟩
  ·exact Suf.bind (Qhl (by decide) _) fun _ _ _ =>.inr ⟨_,rfl⟩
theorem Qud {E:List Qab→Rs Qaa} (hE:∀ l,Suf l (E l)) (l:List Qab):Suf l (firstR E l):=by
 unfold firstR
 split
 ·rename_i h; exact⟨List.tail_suffix l,Qcu (kd_ne (by decide) h)⟩
 split
 ·rename_i h; exact⟨List.tail_suffix l,Qcu (kd_ne (by decide) h)⟩
 split
 ·rename_i h; exact⟨List.tail_suffix l,Qcu (Qig h)⟩
 split
 ·rename_i h; exact⟨List.tail_suffix l,Qcu (Qig h)⟩
 split
 ·exact Qhm (Q0i _)
 ·refine Suf.bind (Qh0 l) fun s l1 _=>?_
  by_cases h:kd l1=8
  ·simp only[if_pos h]
   exact .inl (Qhm (Suf.bind (Q4k hE _) fun _ _ _ =>.inr ⟨_,rfl⟩))
  ·simp only[if_neg h]
   exact .inr ⟨_,rfl⟩
theorem Qyl:∀ (n:Nat) (x:Qaa) (l:List Qab),Suf l (dotsR n x l)∨∃ y,dotsR n x l = .ok y l
 | 0,x,l =>.inr ⟨x,rfl⟩
 | n+1,x,l=>by
  unfold dotsR
  split
  ·refine .inl (Qhm (Suf.bind (Qhl (by decide) _) fun t l2 _=>Qyl n _ l2))
  ·exact .inr ⟨x,rfl⟩
theorem Qmq:∀ (f:Nat) (l:List Qab),Suf l (exprR f l)
 | 0,l=>List.suffix_refl l
 | f+1,l=>Suf.bind (Qud (Qmq f) l) fun x l1 _=>Qyl _ x l1
theorem Qev (l:List Qab):Suf l (closedR l):=Suf.bind (Qmq _ l) fun x l1 _ =>.inl (Suf.bind (Qhl (by decide) _) fun _ _ _ =>.inr ⟨_,rfl⟩)
end Go.Proofs.YtagokkpnfceidaaDoor
end

section
namespace Go.Proofs.YtagokkpnfceidaaDoor
open Go.RowKit
set_option linter.unusedSimpArgs false
set_option linter.unusedVariables false
section
variable {L:List Qab} (hL:Toks L)
include hL
theorem Qmr {k:Int} {l:List Qab} (h:kd l=k):want k l = .ok (hd l) l.tail:=by have _:=hL; unfold want; rw[if_pos h]
theorem Qjo {k:Int} {l:List Qab} (h:¬ kd l=k):want k l = .bad l:=by have _:=hL; unfold want; rw[if_neg h]
theorem pSecret {l:List Qab} (h:l <:+ L):(Qam 8 L (pos L l)>>=fun o6 =>
      match o6 with
      | .inl x5 =>
       Qa2 L x5.2>>=fun x8 =>
       Qjn x8.Text>>=fun x9 =>
       Qas x9 L x5.2>>=fun o11 =>
       match o11 with
       | .inl x10 =>
        Qam 5 L x5.2>>=fun o14 =>
        match o14 with
        | .inl x13 =>
         Qam 9 L x13.2>>=fun o17 =>
         match o17 with
         | .inl x16 =>
          some (.inl ((Qaa.mk 7 x13.1.Text [] 0 [] [] []),x16.2))
         | .inr z18 =>
          some (.inr x13.2)
        | .inr z15 =>
         some (.inr x5.2)
       | .inr z12 =>
        some (.inr x5.2)
      | .inr z7 =>
       some (.inr (pos L l)):Option ((Qaa×Int)⊕Int))=some (cP L (secretR l)):=by
 rw[pWant hL h 8 (by decide)]
 by_cases h8:kd l=8
 ·have h1:=Qct h
  simp only[if_pos h8,Qad,secretR,Qmr hL h8,Rs.bind,pNext hL h1]
  rw[lWord _ (by have:=Q4i hL h1; omega)]
  by_cases hw:wordP (hd l.tail).Text=true
  ·simp only[Qad,hw,Qas,mustO,if_true]
   rw[pWant hL h1 5 (by decide)]
   by_cases h5:kd l.tail=5
   ·have h2:=Qct h1
    simp only[if_pos h5,Qad,h5,and_self,if_true]
    rw[pWant hL h2 9 (by decide)]
    by_cases h9:kd l.tail.tail=9
    ·simp[if_pos h9,Qmr hL h9,cP]
    ·simp[if_neg h9,Qjo hL h9,cP]
   ·simp[if_neg h5,h5,cP]
  ·have hw' : wordP (hd l.tail).Text=false:=by simpa using hw
   simp[hw', Qas,mustO,cP]
 ·simp[if_neg h8,secretR,Qjo hL h8,Rs.bind,cP]
def PE (L:List Qab) (n:Nat) (E:List Qab→Rs Qaa):Prop:=∀ l,l <:+ L→l.length<n→Qbz L (pos L l)=some (cP L (E l))
theorem pArgsStop (v:List Qaa) {l:List Qab} (h:l <:+ L) (hs:¬ v.length<3∨¬ kd l=10):Qbf L v (pos L l)=some (.inl (v,pos L l)):=by
 rw[Qbf]
 by_cases hv:v.length<3
 ·have h10:¬ kd l=10:=hs.resolve_left (fun k=>k hv)
  have e:decide ((v.length:Int)<3)=true:=by simp; omega
  simp[e,pSign hL h 10 (by decide),h10]
 ·have e:decide ((v.length:Int)<3)=false:=by simp; omega
  simp[e]
theorem pArgsStep (v:List Qaa) {n:Nat} {E:List Qab→Rs Qaa} (hE:PE L n E) {l:List Qab} (h:l <:+ L) (hn:l.length≤n) (hv:v.length<3) (h10:kd l=10) :
  Qbf L v (pos L l)=match E l.tail with | .ok x l2=>Qbf L (v++[x]) (pos L l2) | .bad l2=>some (.inr (pos L l2)):=by
 rw[Qbf]
 have e:decide ((v.length:Int)<3)=true:=by simp; omega
 have hne:=kd_ne (by decide) h10
 have:=Qcu hne
 simp only[e,if_true,pSign hL h 10 (by decide),if_pos h10,Qad,hE l.tail (Qct h) (by omega)]
 cases hx:E l.tail with
 | ok x l2=>simp only[cP,Qad,Qlu (show(v.length+[x].length)*120≤140737488355328 by simp; omega) (by simp; omega)]
 | bad l2=>simp[cP]
theorem pFin (xs:List Qaa) {l:List Qab} (h:l <:+ L):(Qam 9 L (pos L l)>>=fun o15 =>
    match o15 with
    | .inl x14=>some (.inl (xs,x14.2))
    | .inr z16=>some (.inr (pos L l)):Option ((List Qaa×Int)⊕Int))=some (cP L ((want 9 l).bind fun _ l4 =>.ok xs l4)):=by
 rw[pWant hL h 9 (by decide)]
 by_cases h9:kd l=9
 ·simp[if_pos h9,Qmr hL h9,cP,Rs.bind]
 ·simp[if_neg h9,Qjo hL h9,cP,Rs.bind]
theorem pArgs {n:Nat} {E:List Qab→Rs Qaa} (hE:PE L n E) (hS:∀ l,Suf l (E l)) {l:List Qab} (h:l <:+ L) (hn:l.length<n):Qdh L (pos L l)=some (cP L (argsR E l)):=by
 rw[Qdh,pSign hL h 9 (by decide)]
 by_cases h9:kd l=9
 ·simp[if_pos h9,argsR,cP]
 ·simp only[if_neg h9,Qad,argsR,Bool.false_eq_true,if_false,hE l h hn]
  have s1:=hS l
  cases hx:E l with
  | bad l2=>simp[cP,Rs.bind]
  | ok x1 l1 =>
   rw[hx] at s1
   have t1:l1 <:+ L:=s1.1.trans h
   simp only[cP,Qad,Rs.bind]
   by_cases h10:kd l1=10
   ·rw[pArgsStep hL [x1] hE t1 (by have:=s1.2; omega) (by simp) h10,if_pos h10]
    have s2:=hS l1.tail
    cases hx2:E l1.tail with
    | bad l2=>simp[cP,Rs.bind]
    | ok x2 l2 =>
     rw[hx2] at s2
     have t2:l2 <:+ L:=s2.1.trans (Qct t1)
     have n2:l2.length≤n:=by have:=s2.2; have:=Qcu (kd_ne (by decide) h10); have:=s1.2; omega
     simp only[Rs.bind]
     by_cases h102:kd l2=10
     ·rw[pArgsStep hL ([x1]++[x2]) hE t2 n2 (by simp) h102,if_pos h102]
      have s3:=hS l2.tail
      cases hx3:E l2.tail with
      | bad l3=>simp[cP,Rs.bind]
      | ok x3 l3 =>
       rw[hx3] at s3
       have t3:l3 <:+ L:=s3.1.trans (Qct t2)
       simp only[Rs.bind]
       rw[pArgsStop hL ([x1]++[x2]++[x3]) t3 (.inl (by simp)),Qad]
       exact pFin hL [x1,x2,x3] t3
     ·rw[if_neg h102]
      rw[pArgsStop hL ([x1]++[x2]) t2 (.inr h102),Qad]
      exact pFin hL [x1,x2] t2
   ·rw[pArgsStop hL [x1] t1 (.inr h10),if_neg h10,Qad]
    exact pFin hL [x1] t1
theorem pFirst {n:Nat} {E:List Qab→Rs Qaa} (hE:PE L n E) (hS:∀ l,Suf l (E l)) {l:List Qab} (h:l <:+ L) (hn:l.length≤n):Qei L (pos L l)=some (cP L (firstR E l)):=by
 rw[Qei,pNext hL h,Qad]
 by_cases h5:kd l=5
 ·have e:((hd l).Kind==5)=true:=by simpa [kd] using h5
  simp only[e,if_true,firstR,if_pos h5,cP,Qo3 hL h (kd_ne (by decide) h5)]
 have e5:((hd l).Kind==5)=false:=by simpa [kd] using h5
 by_cases h6:kd l=6
 ·have e:((hd l).Kind==6)=true:=by simpa [kd] using h6
  simp only[e5,e,if_true,Bool.false_eq_true,if_false,firstR,if_neg h5,if_pos h6,cP,Qo3 hL h (kd_ne (by decide) h6)]
 have e6:((hd l).Kind==6)=false:=by simpa [kd] using h6
 simp only[e5,e6,Bool.false_eq_true,if_false,firstR,if_neg h5,if_neg h6,pWord hL h,Qad]
 by_cases w1:isW wTrue l=true
 ·simp only[if_pos w1,if_true,cP]
 rw[if_neg w1,if_neg (show ¬ isW [116,114,117,101] l=true from w1)]
 simp only[Bool.false_eq_true,if_false,pWord hL h,Qad]
 by_cases w2:isW wFalse l=true
 ·simp only[if_pos w2,if_true,cP]
 rw[if_neg w2,if_neg (show ¬ isW [102,97,108,115,101] l=true from w2)]
 simp only[Bool.false_eq_true,if_false,pWord hL h,Qad]
 by_cases w3:isW wSecret l=true
 ·rw[if_pos w3,if_pos (show isW [115,101,99,114,101,116] l=true from w3)]
  simp only[if_true]
  exact pSecret hL (Qct h)
 rw[if_neg w3,if_neg (show ¬ isW [115,101,99,114,101,116] l=true from w3)]
 simp only[Bool.false_eq_true,if_false,pName hL h,Qad]
 have s1:=Qh0 l
 cases hx:nameR l with
 | bad l1 =>
  have:l1=l:=by unfold nameR at hx; split at hx<;>cases hx; rfl
  subst this
  simp[Rs.bind,cP]
 | ok s l1 =>
  rw[hx] at s1
  have t1:l1 <:+ L:=s1.1.trans h
  simp only[Rs.bind]
  rw[pSign hL t1 8 (by decide)]
  by_cases h8:kd l1=8
  ·have:=Qcu (kd_ne (by decide) h8)
   simp only[if_pos h8,Qad,if_true]
   rw[pArgs hL hE hS (Qct t1) (by have:=s1.2; omega)]
   cases hy:argsR E l1.tail with
   | ok xs l2=>simp[cP]
   | bad l2=>simp[cP]
  ·simp[if_neg h8,cP]
theorem pDots:∀ (n:Nat) (x:Qaa) (l:List Qab),l <:+ L→l.length≤n →
  (Qbd L (pos L l) x.Kind x.Name x.Text x.N x.L x.Then x.Else>>=fun o4 =>
  match o4 with
  | .inl y5 =>
   some (.inl ((Qaa.mk y5.2.1 y5.2.2.1 y5.2.2.2.1 y5.2.2.2.2.1 y5.2.2.2.2.2.1 y5.2.2.2.2.2.2.1 y5.2.2.2.2.2.2.2),y5.1))
  | .inr y6 =>
   some (.inr y6.1):Option ((Qaa×Int)⊕Int))=some (cP L (dotsR n x l)):=by
 intro n
 induction n with
 | zero =>
  intro x l h hn
  have:l=[]:=List.eq_nil_of_length_eq_zero (by omega)
  subst this
  rw[Qbd,pSign hL h 7 (by decide)]
  simp only[Q7d,show ¬ (0:Int)=7 by decide,if_false,Qad,cP,dotsR,Bool.false_eq_true]
  cases x; rfl
 | succ n ih =>
  intro x l h hn
  rw[Qbd,pSign hL h 7 (by decide)]
  by_cases h7:kd l=7
  ·have h1:=Qct h
   have:=Qcu (kd_ne (by decide) h7)
   simp only[if_pos h7,Qad,if_true,dotsR]
   rw[pWant hL h1 4 (by decide)]
   by_cases h4:kd l.tail=4
   ·have:=Qcu (kd_ne (by decide) h4)
    simp only[if_pos h4,Qad,Qmr hL h4,Rs.bind]
    have:=ih ⟨5,(hd l.tail).Text,[],0,[x],[],[]⟩ l.tail.tail (Qct h1) (by omega)
    cases x
    exact this
   ·simp[if_neg h4,Qjo hL h4,Rs.bind,cP]
  ·simp only[if_neg h7,Qad,cP,dotsR,Bool.false_eq_true,if_false]
   cases x; rfl
theorem pExpr:∀ (f:Nat),PE L f (exprR f)
 | 0=>fun l h hn=>absurd hn (by omega)
 | f+1=>fun l h hn=>by
  rw[Qbz,pFirst hL (pExpr f) (Qmq f) h (by omega),Qad,exprR]
  have s1:=Qud (Qmq f) l
  cases hx:firstR (exprR f) l with
  | bad l1=>simp[cP,Rs.bind]
  | ok x l1 =>
   rw[hx] at s1
   simp only[cP,Rs.bind]
   exact pDots hL l1.length x l1 (s1.1.trans h) (Nat.le_refl _)
theorem pEx {l:List Qab} (h:l <:+ L):Qbz L (pos L l)=some (cP L (ex20 l)):=pExpr hL (l.length+1) l h (by omega)
theorem pClosed {l:List Qab} (h:l <:+ L):Qa9 L (pos L l)=some (match closedR l with | .ok x l' =>.inl ([x],pos L l') | .bad l' =>.inr (pos L l')):=by
 rw[Qa9,pEx hL h,Qad]
 have s1:=Qmq (l.length+1) l
 unfold closedR
 cases hx:ex20 l with
 | bad l1=>simp[cP,Rs.bind]
 | ok x l1 =>
  unfold ex20 at hx
  rw[hx] at s1
  simp only[cP,Rs.bind]
  rw[pWant hL (s1.1.trans h) 3 (by decide)]
  by_cases h3:kd l1=3
  ·simp[if_pos h3,Qmr hL h3]
  ·simp[if_neg h3,Qjo hL h3]
end
end Go.Proofs.YtagokkpnfceidaaDoor
end

section
namespace Go.Proofs.YtagokkpnfceidaaDoor
open Go.RowKit
set_option linter.unusedSimpArgs false
set_option linter.unusedVariables false
def tsum (l:List Qab):Nat:=(l.map (·.Text.length)).sum
theorem Qym (l:List Qab):(hd l).Text.length+tsum l.tail=tsum l:=by cases l<;>simp[tsum,hd]
theorem Qwg {l L:List Qab} (h:l <:+ L):tsum l≤tsum L:=by
 obtain⟨p,rfl⟩:=h
 simp[tsum]
def lastT (out:List Qaa):Nat:=match out.getLast? with
 | some x=>if x.Kind=8 then x.Text.length else 0
 | none=>0
structure BD (out:List Qaa) (l:List Qab):Prop where
 len:out.length+l.length≤400000
 txt:lastT out+tsum l≤400000
theorem Q2u (out:List Qaa) (s:List UInt8):(addLit out s).length≤out.length+1:=by
 unfold addLit
 split
 ·split<;>simp
 ·simp
theorem Q0j (out:List Qaa) (s:List UInt8):lastT (addLit out s)≤lastT out+s.length:=by
 unfold addLit
 cases hx:out.getLast? with
 | none=>simp[lastT]
 | some x =>
  have hne:out≠[]:=fun e=>by subst e; simp at hx
  simp only
  split
  ·rename_i h8
   have hl:lastT out=x.Text.length:=by simp[lastT,hx,h8]
   have:(out.set (out.length-1) ⟨x.Kind,x.Name,x.Text++s,x.N,x.L,x.Then,x.Else⟩).getLast? = some ⟨x.Kind,x.Name,x.Text++s,x.N,x.L,x.Then,x.Else⟩:=by
    have h0:0<out.length:=List.length_pos_iff.2 hne
    rw[List.getLast?_eq_getElem?]
    simp[List.getElem?_set]
    omega
   rw[lastT,this]
   simp[h8,hl]
  ·simp[lastT]
theorem BD.lit {out:List Qaa} {l:List Qab} (h:BD out l) (hne:l≠[]):BD (addLit out (hd l).Text) l.tail:=by
 have h1:=Q2u out (hd l).Text
 have h2:=Q0j out (hd l).Text
 have h3:=Qym l
 have h4:=Qcu hne
 exact⟨by have:=h.len; omega,by have:=h.txt; omega⟩
theorem BD.app {out:List Qaa} {l l' : List Qab} (h:BD out l) {x:Qaa} (hx:x.Kind≠8) (hs:l' <:+ l) (hl:l'.length<l.length):BD (out++[x]) l' := by
 have h1:=Qwg hs
 refine⟨by have:=h.len; simp; omega,?_⟩
 have:lastT (out++[x])=0:=by simp[lastT,hx]
 have:=h.txt
 omega
theorem BD.suf {out:List Qaa} {l l' : List Qab} (h:BD out l) (hs:l' <:+ l):BD out l' := by
 have h1:=Qwg hs
 have h2:=hs.length_le
 exact⟨by have:=h.len; omega,by have:=h.txt; omega⟩
theorem BD.nil {L l:List Qab} (hL:Toks L) (h:l <:+ L):BD [] l:=by
 have h1:=Qwg h
 have h2:=h.length_le
 have h3:=hL.len
 have h4:=hL.sum
 refine⟨by simp; omega,?_⟩
 have:tsum L≤200000:=h4
 simp only[lastT,List.getLast?_nil]
 omega
theorem litO {R:Type} (v:List Qaa) (s:List UInt8) (K:List Qaa→Option R) (h1:v.length≤400000) (h2:lastT v+s.length≤400000) :
  (( if(decide ((wr ((v.length:Int)-1)) ≥ 0)) then
     idx v (wr ((v.length:Int)-1))>>=fun x11 =>
     some (x11.Kind==8)
    else
     some false:Option (Bool))>>=fun o10 =>
   if o10 then
    idx v (wr ((v.length:Int)-1))>>=fun x12 =>
    need (x12.Text.length+s.length≤9223372036854775807)>>=fun _ =>
    idx v (wr ((v.length:Int)-1))>>=fun x13 =>
    K (v.set ((wr ((v.length:Int)-1)).toNat) (Qaa.mk x13.Kind x13.Name (x12.Text++s) x13.N x13.L x13.Then x13.Else))
   else
    appL 120 v ([(Qaa.mk 8 [] s 0 [] [] [])])>>=fun x14 =>
    K x14)=K (addLit v s):=by
 have ea:appL 120 v ([(Qaa.mk 8 [] s 0 [] [] [])])=some (v++[(Qaa.mk 8 [] s 0 [] [] [])]):=Qlu (by simp; omega) (by simp; omega)
 unfold addLit
 cases hx:v.getLast? with
 | none =>
  have:v=[]:=by simpa using hx
  subst this
  have e:decide ((wr ((([]:List Qaa).length:Int)-1)) ≥ 0)=false:=by decide
  simp only[e,Bool.false_eq_true,if_false,Qad,ea]
 | some x =>
  have hne:v≠[]:=fun e=>by subst e; simp at hx
  have h0:0<v.length:=List.length_pos_iff.2 hne
  have ew:wr ((v.length:Int)-1)=((v.length-1:Nat):Int):=by rw[wr_in (by omega) (by omega)]; omega
  have ei:idx v (wr ((v.length:Int)-1))=some x:=by
   rw[ew,Qbr,← List.getLast?_eq_getElem?,hx]
  have e:decide ((wr ((v.length:Int)-1)) ≥ 0)=true:=by rw[ew]; simp
  simp only[e,if_true,ei,Qad]
  by_cases h8:x.Kind=8
  ·have hl:lastT v=x.Text.length:=by simp[lastT,hx,h8]
   have e8:(x.Kind==8)=true:=by simpa using h8
   simp only[e8,if_true,if_pos h8,Qad,Qay (show x.Text.length+s.length≤9223372036854775807 by omega),ew,Int.toNat_natCast]
  ·have e8:(x.Kind==8)=false:=by simpa using h8
   simp only[e8,Bool.false_eq_true,if_false,if_neg h8,ea,Qad]
theorem Q4l {B:Bool→Bool→List Qab→Rs (List Qaa)} {l:List Qab} {x:Qaa} {l' : List Qab} (h:actR B l = .ok x l'):x.Kind≠8:=by
 have hb:∀ {α β : Type} {r:Rs α} {f : α → List Qab→Rs β} {y : β} {l' : List Qab},r.bind f = .ok y l' → ∃ a l1,r = .ok a l1∧f a l1 = .ok y l' := fun {α β r f y l'} h=>by
  cases r with
  | ok a l1=>exact⟨a,l1,rfl,h⟩
  | bad l1=>cases h
 unfold actR at h
 split at h
 ·obtain⟨a,l1,-,h⟩:=hb h
  obtain⟨b,l2,-,h⟩:=hb h
  split at h
  ·obtain⟨c,l3,-,h⟩:=hb h
   obtain⟨d,l4,-,h⟩:=hb h
   obtain⟨e,l5,-,h⟩:=hb h
   cases h; simp
  ·obtain⟨e,l5,-,h⟩:=hb h
   cases h; simp
 split at h
 ·obtain⟨a,l1,-,h⟩:=hb h
  obtain⟨b,l2,-,h⟩:=hb h
  obtain⟨c,l3,-,h⟩:=hb h
  obtain⟨d,l4,-,h⟩:=hb h
  obtain⟨e,l5,-,h⟩:=hb h
  cases h; simp
 split at h
 ·obtain⟨a,l1,-,h⟩:=hb h
  obtain⟨b,l2,-,h⟩:=hb h
  obtain⟨c,l3,-,h⟩:=hb h
  obtain⟨d,l4,-,h⟩:=hb h
  obtain⟨e,l5,-,h⟩:=hb h
  cases h; simp
 split at h
 ·obtain⟨a,l1,-,h⟩:=hb h
  obtain⟨b,l2,-,h⟩:=hb h
  cases h; simp
 ·obtain⟨a,l1,-,h⟩:=hb h
  cases h; simp
def Suf0 {α : Type} (l:List Qab):Rs α → Prop
 | .ok _ l' => l' <:+ l
 | .bad l' => l' <:+ l
theorem Suf.suf0 {α : Type} {l:List Qab} {r:Rs α} (h:Suf l r):Suf0 l r:=by
 cases r with
 | ok x l' => exact h.1
 | bad l' => exact h
theorem Suf0.mono {α : Type} {l l' : List Qab} {r:Rs α} (h:Suf0 l' r) (hs:l' <:+ l):Suf0 l r:=by
 cases r with
 | ok x l2=>exact List.IsSuffix.trans h hs
 | bad l2=>exact List.IsSuffix.trans h hs
theorem Suf.bind0 {α β : Type} {l:List Qab} {r:Rs α} {f : α → List Qab→Rs β} (h:Suf l r) (hf:∀ x l', Suf0 l' (f x l')):Suf l (r.bind f):=by
 cases r with
 | ok x l' =>
  have:=hf x l'
  show Suf l (f x l')
  cases hx:f x l' with
  | ok y l2=>rw[hx] at this; exact⟨List.IsSuffix.trans this h.1,by have:=List.IsSuffix.length_le this; have:=h.2; omega⟩
  | bad l2=>rw[hx] at this; exact List.IsSuffix.trans this h.1
 | bad l' => exact h
theorem Suf0.bind {α β : Type} {l:List Qab} {r:Rs α} {f : α → List Qab→Rs β} (h:Suf0 l r) (hf:∀ x l', Suf0 l' (f x l')):Suf0 l (r.bind f):=by
 cases r with
 | ok x l' => exact(hf x l').mono h
 | bad l' => exact h
theorem Suf0.ret {α : Type} (x : α) (l:List Qab):Suf0 l (.ok x l):=List.suffix_refl l
theorem Q1n {B:Bool→Bool→List Qab→Rs (List Qaa)} (hB:∀ i o l,Suf0 l (B i o l)) (l:List Qab):Suf l (actR B l):=by
 have e0:=fun w l=>(Q1m w l).suf0
 unfold actR
 split
 ·refine Qhm (Suf.bind0 (Qev _) fun x l1=>Suf0.bind (hB _ _ _) fun y l2=>?_)
  split
  ·exact Suf0.bind (e0 _ _) fun _ l3=>Suf0.bind (hB _ _ _) fun _ l4=>Suf0.bind (e0 _ _) fun _ _ =>.ret _ _
  ·exact Suf0.bind (e0 _ _) fun _ _ =>.ret _ _
 split
 ·exact Qhm (Suf.bind0 (Qh0 _) fun _ _=>Suf0.bind (Qyk _ _).suf0 fun _ _=>Suf0.bind (Qev _).suf0 fun _ _=>Suf0.bind (hB _ _ _) fun _ _=>Suf0.bind (e0 _ _) fun _ _ =>.ret _ _)
 split
 ·exact Qhm (Suf.bind0 (Qh0 _) fun _ _=>Suf0.bind (Qhl (by decide) _).suf0 fun _ _=>Suf0.bind (Qev _).suf0 fun _ _=>Suf0.bind (hB _ _ _) fun _ _=>Suf0.bind (e0 _ _) fun _ _ =>.ret _ _)
 split
 ·exact Qhm (Suf.bind0 (Qh0 _) fun _ _=>Suf0.bind (Qev _).suf0 fun _ _ =>.ret _ _)
 ·exact Suf.bind0 (Qev _) fun _ _ =>.ret _ _
theorem Qja:∀ (f:Nat) (i o:Bool) (out:List Qaa) (l:List Qab),Suf0 l (loopR f i o out l)
 | 0,_,_,_,l=>List.suffix_refl l
 | f+1,i,o,out,l=>by
  unfold loopR
  split
  ·exact .ret _ _
  split
  ·exact(Qja f _ _ _ _).mono (List.tail_suffix l)
  split
  ·exact .ret _ _
  split
  ·split
   ·exact(Qja f _ _ _ _).mono ((List.tail_suffix _).trans (List.tail_suffix l))
   ·exact Suf0.bind ((Q1n (fun i o l=>Qja f i o [] l) _).suf0.mono (List.tail_suffix l)) fun _ _=>Qja f _ _ _ _
  ·exact List.suffix_refl l
def Stops (i o:Bool):Rs (List Qaa)→Prop
 | .ok _ l=>l=[]∨(i&&ahead wEnd l)=true∨(o&&ahead wElse l)=true
 | .bad _=>True
theorem Qkm:∀ (f:Nat) (i o:Bool) (out:List Qaa) (l:List Qab),Stops i o (loopR f i o out l)
 | 0,_,_,_,l=>trivial
 | f+1,i,o,out,l=>by
  unfold loopR
  split
  ·rename_i h; exact .inl h
  split
  ·exact Qkm f _ _ _ _
  split
  ·rename_i h
   simp only[Bool.or_eq_true] at h
   exact .inr h
  split
  ·split
   ·exact Qkm f _ _ _ _
   ·cases actR (fun i o l=>loopR f i o [] l) l.tail with
    | ok x l2=>exact Qkm f _ _ _ _
    | bad l2=>trivial
  ·trivial
theorem Qms {w:List UInt8} {l:List Qab} (h:ahead w l=true):kd l=2∧isW w l.tail=true:=by
 simp only[ahead,Bool.and_eq_true,beq_iff_eq] at h
 exact h
theorem Q4m {w v:List UInt8} {l:List Qab} (h:isW w l=true) (hv:isW v l=true):w=v:=by
 simp only[isW,Bool.and_eq_true,beq_iff_eq] at h hv
 exact h.2.symm.trans hv.2
theorem Que {w:List UInt8} {l:List Qab} (h:ahead w l=true):endW w l=(want 3 l.tail.tail).bind fun _ l3 =>.ok () l3:=by
 obtain⟨h1,h2⟩:=Qms h
 simp only[endW,want,if_pos h1,Rs.bind,wantW,if_pos h2]
theorem Q53 (w:List UInt8):endW w [] = .bad []:=by simp[endW,want,Rs.bind]
def cBlk (i:Bool) (L:List Qab):Rs (List Qaa)→((List Qaa)×Int×Int)⊕Int
 | .bad l' =>.inr (pos L l')
 | .ok out l' => if l' = [] then(if i=true then .inr (pos L []) else .inl (out,2,pos L [])) else match want 3 l'.tail.tail with
  | .ok _ l2 =>.inl (out,(if(i&&ahead wEnd l')=true then 0 else 1),pos L l2)
  | .bad l2 =>.inr (pos L l2)
theorem Qyn {L:List Qab} {o:Bool} {y:List Qaa} {l2:List Qab} (h:Stops true o (.ok y l2)):cBlk true L (.ok y l2) =
  if ahead wElse l2=true then(match endW wElse l2 with | .ok _ l3 =>.inl (y,1,pos L l3) | .bad l3 =>.inr (pos L l3)) else(match endW wEnd l2 with | .ok _ l3 =>.inl (y,0,pos L l3) | .bad l3 =>.inr (pos L l3)):=by
 simp only[cBlk]
 by_cases hn:l2=[]
 ·subst hn
  have:ahead wElse []=false:=rfl
  simp[this,Q53]
 ·rw[if_neg hn]
  by_cases he:ahead wElse l2=true
  ·have hnd:ahead wEnd l2=false:=by
    cases hh:ahead wEnd l2 with
    | false=>rfl
    | true=>exact absurd (Q4m (Qms he).2 (Qms hh).2) (by decide)
   rw[if_pos he,Que he]
   simp only[hnd,Bool.and_false,Bool.false_eq_true,if_false]
   cases want 3 l2.tail.tail<;>rfl
  ·have hd:ahead wEnd l2=true:=by
    rcases h with h | h | h
    ·exact absurd h hn
    ·simpa using h
    ·simp only[Bool.and_eq_true] at h; exact absurd h.2 he
   rw[if_neg he,Que hd]
   simp only[hd,Bool.and_true,if_true]
   cases want 3 l2.tail.tail<;>rfl
theorem Q1o {L:List Qab} {y:List Qaa} {l2:List Qab} (h:Stops true false (.ok y l2)):cBlk true L (.ok y l2)=match endW wEnd l2 with | .ok _ l3 =>.inl (y,0,pos L l3) | .bad l3 =>.inr (pos L l3):=by
 rw[Qyn h]
 have:¬ ahead wElse l2=true:=fun he=>by
  rcases h with h | h | h
  ·subst h; simp[ahead] at he
  ·simp only[Bool.and_eq_true] at h
   exact absurd (Q4m (Qms he).2 (Qms h.2).2) (by decide)
  ·simp at h
 rw[if_neg this]
def cB (i:Bool) (L:List Qab):Rs (List Qaa)→((List Qaa)×Int)⊕((List Qaa)×Int×Int)⊕Int
 | .bad l' =>.inr (.inr (pos L l'))
 | .ok out l' => if l' = [] then .inl (out,pos L []) else match want 3 l'.tail.tail with
  | .ok _ l2 =>.inr (.inl (out,(if(i&&ahead wEnd l')=true then 0 else 1),pos L l2))
  | .bad l2 =>.inr (.inr (pos L l2))
section
variable {L:List Qab} (hL:Toks L)
include hL
def PB (L:List Qab) (n:Nat) (B:Bool→Bool→List Qab→Rs (List Qaa)):Prop:=∀ i o l,l <:+ L→l.length<n→Qaw i o L (pos L l)=some (cBlk i L (B i o l))
theorem pStmt {n:Nat} {B:Bool→Bool→List Qab→Rs (List Qaa)} (hB:PB L n B) (hS:∀ i o l,Suf0 l (B i o l)) (hT:∀ i o l,Stops i o (B i o l)) {l:List Qab} (h:l <:+ L) (hn:l.length≤n):Qe0 L (pos L l)=some (cP L (actR B l)):=by
 rw[Qe0,pWord hL h,Qad]
 unfold actR
 have hblk:∀ (k:Int) (s:List UInt8) (x:Qaa) (l3:List Qab),l3 <:+ L→l3.length<n→(Qaw true false L (pos L l3)>>=fun o23 =>
      match o23 with
      | .inl x22 =>
       some (.inl ((Qaa.mk k s [] 0 [x] x22.1 []),x22.2.2))
      | .inr z24 =>
       some (.inr z24):Option ((Qaa×Int)⊕Int))=some (cP L ((B true false l3).bind fun y l4=>(endW wEnd l4).bind fun _ l5 =>.ok ⟨k,s,[],0,[x],y,[]⟩ l5)):=fun k s x l3 t3 n3=>by
  rw[hB true false l3 t3 n3,Qad]
  have st:=hT true false l3
  cases hb:B true false l3 with
  | bad l4=>simp[cBlk,Rs.bind,cP]
  | ok y l4 =>
   rw[hb] at st
   rw[Q1o st]
   simp only[Rs.bind]
   cases endW wEnd l4 with
   | ok u l5=>simp[cP]
   | bad l5=>simp[cP]
 by_cases w1:isW wIf l=true
 ·have t1:=Qct h
  have n1:=Qcu (Qig w1)
  simp only[if_pos w1,if_true,pClosed hL t1,Qad]
  have s1:=Qev l.tail
  cases hc:closedR l.tail with
  | bad l1=>simp[Rs.bind,cP]
  | ok x l1 =>
   rw[hc] at s1
   have t2:l1 <:+ L:=s1.1.trans t1
   have n2:l1.length<n:=by have:=s1.2; omega
   simp only[Rs.bind,hB true true l1 t2 n2,Qad]
   have st:=hT true true l1
   have s2:=hS true true l1
   cases hb:B true true l1 with
   | bad l2=>simp[cBlk,cP]
   | ok y l2 =>
    rw[hb] at st s2
    rw[Qyn st]
    simp only
    have t3:l2 <:+ L:=List.IsSuffix.trans s2 t2
    by_cases he:ahead wElse l2=true
    ·rw[if_pos he,if_pos he]
     have s3:=Q1m wElse l2
     cases hz:endW wElse l2 with
     | bad l3=>simp[cP]
     | ok u l3 =>
      rw[hz] at s3
      have t4:l3 <:+ L:=s3.1.trans t3
      have n4:l3.length<n:=by have:=s3.2; have:=List.IsSuffix.length_le s2; omega
      simp only[beq_self_eq_true,if_true,hB true false l3 t4 n4,Qad]
      have st2:=hT true false l3
      cases hb2:B true false l3 with
      | bad l4=>simp[cBlk,cP]
      | ok z l4 =>
       rw[hb2] at st2
       rw[Q1o st2]
       simp only
       cases endW wEnd l4 with
       | ok u l5=>simp[cP]
       | bad l5=>simp[cP]
    ·rw[if_neg he,if_neg he]
     cases hz:endW wEnd l2 with
     | bad l3=>simp[cP]
     | ok u l3 =>
      have e01:((0:Int)==1)=false:=rfl
      simp only[e01,Bool.false_eq_true,if_false,cP]
 simp only[if_neg w1,Bool.false_eq_true,if_false,pWord hL h,Qad]
 by_cases w2:isW wEach l=true
 ·have t1:=Qct h
  have n1:=Qcu (Qig w2)
  simp only[if_pos w2,if_true,pName hL t1,Qad]
  have s1:=Qh0 l.tail
  cases hc:nameR l.tail with
  | bad l1 =>
   have:l1=l.tail:=by unfold nameR at hc; split at hc<;>cases hc; rfl
   subst this
   simp[Rs.bind,cP]
  | ok s l1 =>
   rw[hc] at s1
   have t2:l1 <:+ L:=s1.1.trans t1
   simp only[Rs.bind,pWord hL t2,Qad,Qas,mustO,wantW]
   by_cases wi:isW wIn l1=true
   ·have t3:=Qct t2
    have n3:=Qcu (Qig wi)
    simp only[if_pos wi,if_true,pClosed hL t3,Qad]
    have s3:=Qev l1.tail
    cases hc2:closedR l1.tail with
    | bad l3=>simp[cP]
    | ok x l3 =>
     rw[hc2] at s3
     simp only
     exact hblk 11 s x l3 (s3.1.trans t3) (by have:=s3.2; have:=s1.2; omega)
   ·simp[if_neg wi,cP]
 simp only[if_neg w2,Bool.false_eq_true,if_false,pWord hL h,Qad]
 by_cases w3:isW wLet l=true
 ·have t1:=Qct h
  have n1:=Qcu (Qig w3)
  simp only[if_pos w3,if_true,pName hL t1,Qad]
  have s1:=Qh0 l.tail
  cases hc:nameR l.tail with
  | bad l1 =>
   have:l1=l.tail:=by unfold nameR at hc; split at hc<;>cases hc; rfl
   subst this
   simp[Rs.bind,cP]
  | ok s l1 =>
   rw[hc] at s1
   have t2:l1 <:+ L:=s1.1.trans t1
   simp only[Rs.bind,pWant hL t2 11 (by decide),Qad]
   by_cases wi:kd l1=11
   ·have t3:=Qct t2
    have n3:=Qcu (kd_ne (by decide) wi)
    simp only[if_pos wi,Qmr hL wi,pClosed hL t3,Qad]
    have s3:=Qev l1.tail
    cases hc2:closedR l1.tail with
    | bad l3=>simp[cP]
    | ok x l3 =>
     rw[hc2] at s3
     simp only
     exact hblk 12 s x l3 (s3.1.trans t3) (by have:=s3.2; have:=s1.2; omega)
   ·simp[if_neg wi,Qjo hL wi,cP]
 simp only[if_neg w3,Bool.false_eq_true,if_false,pWord hL h,Qad]
 by_cases w4:isW wUse l=true
 ·have t1:=Qct h
  simp only[if_pos w4,if_true,pName hL t1,Qad]
  have s1:=Qh0 l.tail
  cases hc:nameR l.tail with
  | bad l1 =>
   have:l1=l.tail:=by unfold nameR at hc; split at hc<;>cases hc; rfl
   subst this
   simp[Rs.bind,cP]
  | ok s l1 =>
   rw[hc] at s1
   have t2:l1 <:+ L:=s1.1.trans t1
   simp only[Rs.bind,pClosed hL t2,Qad]
   cases closedR l1 with
   | bad l3=>simp[cP]
   | ok x l3=>simp[cP]
 simp only[if_neg w4,Bool.false_eq_true,if_false,pClosed hL h,Qad]
 cases closedR l with
 | bad l3=>simp[cP,Rs.bind]
 | ok x l3=>simp[cP,Rs.bind]
theorem p1Step {f:Nat} (hB:PB L f (fun i o l=>loopR f i o [] l)) (ih:∀ (i o:Bool) (out:List Qaa) (l:List Qab),l <:+ L→l.length<f→BD out l→Qap i o L out (pos L l)=some (cB i L (loopR f i o out l)))
  (i o:Bool) (out:List Qaa) (l:List Qab) (h:l <:+ L) (hn:l.length<f+1) (hd0:BD out l):Qap i o L out (pos L l)=some (cB i L (loopR (f+1) i o out l)):=by
 rw[Qap,loopR]
 by_cases hne:l=[]
 ·subst hne
  have e:decide (pos L []<(L.length:Int))=false:=by rw[Q0h]; simp
  simp[e,cB]
 have e:decide (pos L l<(L.length:Int))=true:=(Q4j h hne).2.2
 have t1:=Qct h
 have n1:=Qcu hne
 simp only[e,if_true,pNext hL h,Qad,if_neg hne,pSign hL h 1 (by decide)]
 by_cases k1:kd l=1
 ·simp only[if_pos k1,if_true]
  refine(litO out (hd l).Text (fun v=>Qap i o L v (pos L l.tail)) (by have:=hd0.len; omega) (by have:=hd0.txt; have:=Qym l; omega)).trans ?_
  exact ih i o _ l.tail t1 (by omega) (hd0.lit hne)
 simp only[if_neg k1,Bool.false_eq_true,if_false,pWant hL h 2 (by decide),Qad]
 by_cases k2:kd l=2
 ·have ha:∀ w,ahead w l=isW w l.tail:=fun w=>by simp[ahead,k2]
  simp only[if_pos k2,pSign hL t1 3 (by decide),Qad,ha]
  by_cases k3:kd l.tail=3
  ·have hw:∀ w,isW w l.tail=false:=fun w=>by simp[isW,k3]
   have n2:=Qcu (kd_ne (by decide) k3)
   simp only[if_pos k3,if_true,hw,Bool.and_false,Bool.or_self,Bool.false_eq_true,if_false]
   exact ih i o out l.tail.tail (Qct t1) (by omega) (hd0.suf ((List.tail_suffix _).trans (List.tail_suffix l)))
  ·simp only[if_neg k3,Bool.false_eq_true,if_false]
   have t2:=Qct t1
   by_cases c1:(i&&isW wEnd l.tail)=true
   ·simp only[Bool.and_eq_true] at c1
    obtain⟨ci,cw⟩:=c1
    subst ci
    have cw' : isW [101,110,100] l.tail=true:=cw
    simp only[if_true,pWord hL t1,cw', Qad,pWant hL t2 3 (by decide),Bool.true_and,cw,Bool.true_or]
    simp only[cB,if_neg hne,ha,Bool.true_and,cw,if_true]
    by_cases k4:kd l.tail.tail=3
    ·simp only[if_pos k4,Qmr hL k4]
    ·simp only[if_neg k4,Qjo hL k4]
   have e19:(( if i then
       Qan [101,110,100] L (pos L l.tail)>>=fun x20 =>
       some (x20.1,x20.2)
      else
       some (false,(pos L l.tail)):Option ((Bool×Int))))=some (false,pos L l.tail):=by
    cases i with
    | false=>rfl
    | true =>
     have cw:¬ isW [101,110,100] l.tail=true:=by simpa using c1
     simp only[if_true,pWord hL t1,Qad,if_neg cw]
   simp only[e19,Qad,Bool.false_eq_true,if_false]
   have c1' : (i&&isW wEnd l.tail)=false:=by simpa using c1
   rw[c1', Bool.false_or]
   by_cases c2:(o&&isW wElse l.tail)=true
   ·simp only[Bool.and_eq_true] at c2
    obtain⟨co,cw⟩:=c2
    subst co
    have cw' : isW [101,108,115,101] l.tail=true:=cw
    simp only[if_true,pWord hL t1,cw', Qad,pWant hL t2 3 (by decide),Bool.true_and,cw]
    simp only[cB,if_neg hne,ha,c1', Bool.false_eq_true,if_false]
    by_cases k4:kd l.tail.tail=3
    ·simp only[if_pos k4,Qmr hL k4]
    ·simp only[if_neg k4,Qjo hL k4]
   have e24:(( if o then
       Qan [101,108,115,101] L (pos L l.tail)>>=fun x25 =>
       some (x25.1,x25.2)
      else
       some (false,(pos L l.tail)):Option ((Bool×Int))))=some (false,pos L l.tail):=by
    cases o with
    | false=>rfl
    | true =>
     have cw:¬ isW [101,108,115,101] l.tail=true:=by simpa using c2
     simp only[if_true,pWord hL t1,Qad,if_neg cw]
   simp only[e24,Qad,Bool.false_eq_true,if_false,if_neg c2]
   rw[pStmt hL hB (fun i o l=>Qja f i o [] l) (fun i o l=>Qkm f i o [] l) t1 (by omega),Qad]
   have s1:=Q1n (fun i o l=>Qja f i o [] l) l.tail
   cases hx:actR (fun i o l=>loopR f i o [] l) l.tail with
   | bad l2=>simp only[cP,Rs.bind,cB]
   | ok x l2 =>
    rw[hx] at s1
    have s2:l2 <:+ l:=s1.1.trans (List.tail_suffix l)
    simp only[cP,Rs.bind,Qlu (show(out.length+[x].length)*120≤140737488355328 by have:=hd0.len; simp; omega) (by have:=hd0.len; simp; omega),Qad]
    exact ih i o (out++[x]) l2 (s2.trans h) (by have:=s1.2; omega) (hd0.app (Q4l hx) s2 (by have:=s1.2; omega))
 ·have ha:∀ w,ahead w l=false:=fun w=>by simp[ahead,k2]
  simp only[if_neg k2,ha,Bool.and_false,Bool.or_self,Bool.false_eq_true,if_false,cB]
theorem pBlock1 {f:Nat} (hl:∀ (i o:Bool) (out:List Qaa) (l:List Qab),l <:+ L→l.length<f→BD out l→Qap i o L out (pos L l)=some (cB i L (loopR f i o out l))):PB L f (fun i o l=>loopR f i o [] l):=fun i o l h hn=>by
 show Qaw i o L (pos L l)=some (cBlk i L (loopR f i o [] l))
 rw[Qaw,Qdw,hl i o [] l h hn (.nil hL h),Qad]
 cases hx:loopR f i o [] l with
 | bad l' => simp only[cB,Qad,cBlk]
 | ok out l' =>
  simp only[cB,cBlk]
  by_cases hne:l' = []
  ·subst hne
   simp only[if_true]
   cases i with
   | false=>simp[Qas,mustO]
   | true=>simp[Qas,mustO]
  ·simp only[if_neg hne]
   cases want 3 l'.tail.tail with
   | ok u l2=>simp only[Qad]
   | bad l2=>simp only[Qad]
theorem pLoop:∀ (f:Nat) (i o:Bool) (out:List Qaa) (l:List Qab),l <:+ L→l.length<f→BD out l→Qap i o L out (pos L l)=some (cB i L (loopR f i o out l))
 | 0=>fun i o out l h hn _=>absurd hn (by omega)
 | f+1=>fun i o out l h hn hd=>p1Step hL (pBlock1 hL (pLoop f)) (pLoop f) i o out l h hn hd
theorem pBlk (i o:Bool) {l:List Qab} (h:l <:+ L):Qaw i o L (pos L l)=some (cBlk i L (bl20 i o l)) :=
 pBlock1 hL (pLoop hL (l.length+1)) i o l h (by omega)
end
end Go.Proofs.YtagokkpnfceidaaDoor
end

section
namespace Go.Proofs.YtagokkpnfceidaaDoor
open Go.RowKit
def contB (c:UInt8):Bool:=decide (128≤c.toNat)&&decide (c.toNat<192)
def runeB (n:Nat):Bool:=decide (n≤1114111) && !(decide (55296≤n)&&decide (n≤57343))
def nextC (c:UInt8) (r:List UInt8):Nat×Nat :=
  if c.toNat<128 then(c.toNat,1)
  else if 192≤c.toNat∧c.toNat<224 then
   match r with
   | c1::_=>if contB c1=true∧128≤(c.toNat-192)*64+(c1.toNat-128) then((c.toNat-192)*64+(c1.toNat-128),2) else(65533,1)
   | _=>(65533,1)
  else if 224≤c.toNat∧c.toNat<240 then
   match r with
   | c1::c2::_=>if contB c1=true∧contB c2=true∧2048≤((c.toNat-224)*64+(c1.toNat-128))*64+(c2.toNat-128)∧runeB (((c.toNat-224)*64+(c1.toNat-128))*64+(c2.toNat-128))=true then(((c.toNat-224)*64+(c1.toNat-128))*64+(c2.toNat-128),3) else(65533,1)
   | _=>(65533,1)
  else if 240≤c.toNat∧c.toNat<248 then
   match r with
   | c1::c2::c3::_=>if contB c1=true∧contB c2=true∧contB c3=true∧65536≤(((c.toNat-240)*64+(c1.toNat-128))*64+(c2.toNat-128))*64+(c3.toNat-128)∧runeB ((((c.toNat-240)*64+(c1.toNat-128))*64+(c2.toNat-128))*64+(c3.toNat-128))=true then((((c.toNat-240)*64+(c1.toNat-128))*64+(c2.toNat-128))*64+(c3.toNat-128),4) else(65533,1)
   | _=>(65533,1)
  else(65533,1)
def nextP:List UInt8→Nat×Nat
 | []=>(0,0)
 | c::r=>nextC c r
theorem Qsh {n:Int} (h1 : -2147483648≤n) (h2:n≤2147483647):IntKind.i32.wrap n=n:=by
 simp[IntKind.wrap,IntKind.bits,IntKind.signed]
 omega
theorem u8_in {n:Int} (h1:0≤n) (h2:n≤255):IntKind.u8.wrap n=n:=by
 simp[IntKind.wrap,IntKind.bits,IntKind.signed]
 omega
theorem and63:∀ c:Fin 256,bits .and .u8 ((c.1:Nat):Int) 63=((c.1 % 64:Nat):Int):=by decide +kernel
theorem and192:∀ c:Fin 256,(bits .and .u8 ((c.1:Nat):Int) 192 != 128) = !(decide (128≤c.1)&&decide (c.1<192)):=by decide +kernel
theorem and31:∀ c:Fin 256,bits .and .u8 ((c.1:Nat):Int) 31=((c.1 % 32:Nat):Int):=by decide +kernel
theorem and15:∀ c:Fin 256,bits .and .u8 ((c.1:Nat):Int) 15=((c.1 % 16:Nat):Int):=by decide +kernel
theorem and7:∀ c:Fin 256,bits .and .u8 ((c.1:Nat):Int) 7=((c.1 % 8:Nat):Int):=by decide +kernel
theorem or64 (a b:Nat) (ha:a<1000000) (hb:b<64):bits .or .i32 (IntKind.i32.wrap ((a:Int)*2 ^ (min (6:Int).toNat (IntKind.i32.bits)))) (IntKind.i32.wrap (b:Int))=((a*64+b:Nat):Int):=by
 have e1:IntKind.i32.wrap ((a:Int)*2 ^ (min (6:Int).toNat (IntKind.i32.bits)))=((a*64:Nat):Int):=by
  have:(min (6:Int).toNat (IntKind.i32.bits))=6:=rfl
  rw[this,Qsh (by omega) (by omega)]; omega
 rw[e1,Qsh (by omega) (by omega)]
 have e2:(2:Nat) ^ 6*a+b=2 ^ 6*a ||| b:=Nat.two_pow_add_eq_or_of_lt (by omega) a
 have e3:a*64 ||| b=a*64+b:=by
  have:(2:Nat) ^ 6*a=a*64:=by omega
  rw[this] at e2; omega
 show IntKind.i32.wrap ((BitVec.ofInt 32 ((a*64:Nat):Int) ||| BitVec.ofInt 32 (b:Int)).toNat:Int)=_
 rw[BitVec.toNat_or,BitVec.ofInt_natCast,BitVec.ofInt_natCast,BitVec.toNat_ofNat,BitVec.toNat_ofNat,Nat.mod_eq_of_lt (by omega),Nat.mod_eq_of_lt (by omega),e3,Qsh (by omega) (by omega)]
theorem b63 (c:UInt8):bits .and .u8 (c.toNat:Int) 63=((c.toNat % 64:Nat):Int):=and63 ⟨c.toNat,c.toNat_lt⟩
theorem b192 (c:UInt8):(bits .and .u8 (c.toNat:Int) 192 != 128) = !contB c:=and192 ⟨c.toNat,c.toNat_lt⟩
theorem b31 (c:UInt8):bits .and .u8 (c.toNat:Int) 31=((c.toNat % 32:Nat):Int):=and31 ⟨c.toNat,c.toNat_lt⟩
theorem b15 (c:UInt8):bits .and .u8 (c.toNat:Int) 15=((c.toNat % 16:Nat):Int):=and15 ⟨c.toNat,c.toNat_lt⟩
theorem b7 (c:UInt8):bits .and .u8 (c.toNat:Int) 7=((c.toNat % 8:Nat):Int):=and7 ⟨c.toNat,c.toNat_lt⟩
theorem Q54 {c:UInt8} (h:contB c=true):c.toNat % 64=c.toNat-128:=by
 unfold contB at h
 simp at h
 omega
def tailP:Nat→List UInt8→Nat→Option Nat
 | 0,_,v=>some v
 | _+1,[],_=>none
 | m+1,c::r,v=>if contB c=true then tailP m r (v*64+(c.toNat-128)) else none
set_option maxRecDepth 20000 in
theorem tTailL (l:List UInt8) (m:Nat) (hm:m≤l.length) (hm3:m≤3):∀ (d k v:Nat),k+d=m→((k=0→v<64)∧(k≤1→v<4096)∧(k≤2→v<262144)) →
  Qer l m v k=some (match tailP d (l.drop k) v with | some n =>.inl (n:Int) | none =>.inr ()):=by
 intro d
 induction d with
 | zero =>
  intro k v hk _
  rw[Qer,ltI,decide_eq_false (by omega:¬ k<m)]
  rfl
 | succ d ih =>
  intro k v hk hv
  have hkl:k<l.length:=by omega
  have:decide ((k:Int)<(m:Int))=true:=decide_eq_true (by omega)
  rw[Qer]
  simp only[this,if_true,Qbr,getE hkl,Qad,b192,b63]
  rw[or64 v _ (by omega) (Nat.mod_lt _ (by omega)),Qbt (by omega),dropE hkl]
  unfold tailP
  cases hc:contB l[k] with
  | false=>rfl
  | true =>
   rw[Q54 hc]
   have hlt:l[k].toNat-128<64:=by unfold contB at hc; simp at hc; omega
   have hv2:(k+1=0→v*64+(l[k].toNat-128)<64)∧(k+1≤1→v*64+(l[k].toNat-128)<4096)∧(k+1≤2→v*64+(l[k].toNat-128)<262144):=by omega
   simp only[Bool.not_true,Bool.false_eq_true,if_false,if_true]
   exact ih (k+1) _ (by omega) hv2
theorem tTail (l:List UInt8) (m v:Nat) (hm3:m≤3) (hv:v<64):Qna l v m=some (match (if l.length<m then none else tailP m l v) with | some n=>((n:Int),true) | none=>(0,false)):=by
 rw[Qna,ltI]
 by_cases h:l.length<m
 ·rw[decide_eq_true h,if_pos h]; rfl
 ·rw[decide_eq_false h,if_neg h]
  have:=tTailL l m (by omega) hm3 m 0 v (by omega) (by omega)
  rw[List.drop_zero] at this
  rw[show(0:Int)=((0:Nat):Int) from rfl,this]
  cases tailP m l v<;>rfl
theorem tIsR (n:Nat):Qua (n:Int)=some (runeB n):=by
 have a:decide ((n:Int) ≥ 0)=true:=decide_eq_true (by omega)
 have b:decide ((n:Int)≤1114111)=decide (n≤1114111):=by
  by_cases h:n≤1114111
  ·rw[decide_eq_true h,decide_eq_true (by omega)]
  ·rw[decide_eq_false h,decide_eq_false (by omega)]
 rw[Qua,a,b,runeB]
 by_cases h1:n<55296
 ·rw[decide_eq_true (show(n:Int)<55296 by omega),decide_eq_true (show n≤1114111 by omega),decide_eq_false (show ¬ 55296≤n by omega)]; rfl
 ·rw[decide_eq_false (show ¬ (n:Int)<55296 by omega),decide_eq_true (show 55296≤n by omega)]
  by_cases h2:n≤57343
  ·rw[decide_eq_false (show ¬ (n:Int)>57343 by omega),decide_eq_true h2,decide_eq_true (show n≤1114111 by omega)]; rfl
  ·rw[decide_eq_true (show(n:Int)>57343 by omega),decide_eq_false h2]
   cases decide (n≤1114111)<;>rfl
theorem rIsR (n:Nat):Qk4 (n:Int)=some (runeB n):=by
 have a:decide ((n:Int) ≥ 0)=true:=decide_eq_true (by omega)
 have b:decide ((n:Int)≤1114111)=decide (n≤1114111):=by
  by_cases h:n≤1114111
  ·rw[decide_eq_true h,decide_eq_true (by omega)]
  ·rw[decide_eq_false h,decide_eq_false (by omega)]
 have c:decide ((n:Int) ≥ 55296)=decide (55296≤n):=by
  by_cases h:55296≤n
  ·rw[decide_eq_true h,decide_eq_true (by omega)]
  ·rw[decide_eq_false h,decide_eq_false (by omega)]
 have d:decide ((n:Int)≤57343)=decide (n≤57343):=by
  by_cases h:n≤57343
  ·rw[decide_eq_true h,decide_eq_true (by omega)]
  ·rw[decide_eq_false h,decide_eq_false (by omega)]
 rw[Qk4,a,b,c,d,runeB]
 cases decide (n≤1114111)<;>cases decide (55296≤n)<;>cases decide (n≤57343)<;>rfl
theorem ltC (c:UInt8) (k:Nat):decide ((c.toNat:Int)<(k:Int))=decide (c.toNat<k):=ltI _ _
theorem geC (c:UInt8) (k:Nat):decide ((c.toNat:Int) ≥ (k:Int))=decide (k≤c.toNat):=by
 by_cases h:k≤c.toNat
 ·rw[decide_eq_true h,decide_eq_true (by omega)]
 ·rw[decide_eq_false h,decide_eq_false (by omega)]
def endP (o:Option Nat) (least m:Nat):Nat×Nat:=match o with
 | some n=>if least≤n∧runeB n=true then(n,m+1) else(65533,1)
 | none=>(65533,1)
set_option maxRecDepth 20000 in
theorem tNext (s:List UInt8) (k:Nat) (hk:k<s.length) (hs:s.length<9223372036854775807):Qoz s k=some (((nextP (s.drop k)).1:Int),((nextP (s.drop k)).2:Int)):=by
 have d1:decide ((k:Int)<0)=false:=decide_eq_false (by omega)
 have d2:decide ((k:Int) ≥ (s.length:Int))=false:=decide_eq_false (by omega)
 have hc:=s[k].toNat_lt
 have hr:cutL s (wr ((k:Int)+1)) (s.length:Int)=some (s.drop (k+1)):=by
  rw[Qbt (by omega),Qjq (by omega) (by omega) (by omega)]
  simp
 rw[Qoz,d1,d2,hr,dropE hk]
 have l128:=ltC s[k] 128
 have g192:=geC s[k] 192
 have l224:=ltC s[k] 224
 have g224:=geC s[k] 224
 have l240:=ltC s[k] 240
 have g240:=geC s[k] 240
 have l248:=ltC s[k] 248
 have b1:∀ a b:Bool,(if a=true then some b else some false:Option Bool)=some (a&&b):=fun a b=>by cases a<;>rfl
 simp only[Bool.false_eq_true,if_false,Qad,Qbr,getE hk]
 rw[show(128:Int)=((128:Nat):Int) from rfl,show(192:Int)=((192:Nat):Int) from rfl,show(224:Int)=((224:Nat):Int) from rfl,show(240:Int)=((240:Nat):Int) from rfl,show(248:Int)=((248:Nat):Int) from rfl,l128,g192,l224,g224,l240,g240,l248]
 simp only[b1,Qad]
 rw[nextP]
 unfold nextC
 have fin:∀ (v least m:Nat),m≤3→v<64→(Qna (s.drop (k+1)) (v:Int) (m:Int)>>=fun x10 =>
   (if(!x10.2)=true then some true else if decide (x10.1<(least:Int))=true then some true else Qua x10.1>>=fun x12=>some (!x12):Option Bool)>>=fun o11 =>
   if o11=true then some ((65533:Int),(1:Int)) else some (x10.1,wr ((m:Int)+1))) =
   some (((endP (if(s.drop (k+1)).length<m then none else tailP m (s.drop (k+1)) v) least m).1:Int),((endP (if(s.drop (k+1)).length<m then none else tailP m (s.drop (k+1)) v) least m).2:Int)):=fun v least m hm hv=>by
  rw[tTail _ m v hm hv]
  cases (if(s.drop (k+1)).length<m then none else tailP m (s.drop (k+1)) v) with
  | none=>rfl
  | some n =>
   simp only[Qad,Bool.not_true,Bool.false_eq_true,if_false,ltI,tIsR,endP]
   by_cases h1:n<least
   ·rw[decide_eq_true h1,if_neg (fun h=>absurd h.1 (by omega):¬ (least≤n∧runeB n=true))]; rfl
   ·rw[decide_eq_false h1]
    cases hrn:runeB n with
    | true=>rw[if_pos (⟨by omega,rfl⟩:least≤n∧true=true),Qbt (by omega)]; rfl
    | false=>rw[if_neg (fun h=>by cases h.2:¬ (least≤n∧false=true))]; rfl
 by_cases h1:s[k].toNat<128
 ·rw[decide_eq_true h1,if_pos h1]
  simp only[if_true,Qad]
  rw[Qsh (by omega) (by omega)]; rfl
 rw[decide_eq_false h1,if_neg h1]
 simp only[Bool.false_eq_true,if_false]
 have cc:∀ c:UInt8,contB c=true→c.toNat-128<64:=fun c h=>by unfold contB at h; simp at h; omega
 by_cases h2:192≤s[k].toNat∧s[k].toNat<224
 ·rw[decide_eq_true h2.1,decide_eq_true h2.2,if_pos h2,b31]
  simp only[Bool.and_true,if_true,Qad]
  rw[Qsh (by omega) (by omega)]
  have f:=fin (s[k].toNat % 32) 128 1 (by omega) (by omega)
  rw[show((1:Nat):Int)=1 from rfl] at f
  rw[f]
  have e:s[k].toNat % 32=s[k].toNat-192:=by omega
  rw[e]
  cases s.drop (k+1) with
  | nil=>rfl
  | cons c1 r1 =>
   simp only[List.length_cons,if_neg (by omega:¬ r1.length+1<1),tailP]
   cases h:contB c1 with
   | false=>rfl
   | true =>
    have:=cc c1 h
    have hr:runeB ((s[k].toNat-192)*64+(c1.toNat-128))=true:=by unfold runeB; rw[decide_eq_true (by omega),decide_eq_false (by omega)]; rfl
    simp only[if_true,endP,hr,and_true,true_and]
 rw[if_neg h2]
 have d2:(decide (192≤s[k].toNat)&&decide (s[k].toNat<224))=false:=by
  rw[Bool.and_eq_false_iff]
  by_cases h:192≤s[k].toNat
  ·exact .inr (decide_eq_false (by omega))
  ·exact .inl (decide_eq_false h)
 rw[d2]
 simp only[Bool.false_eq_true,if_false]
 by_cases h3:224≤s[k].toNat∧s[k].toNat<240
 ·rw[decide_eq_true h3.1,decide_eq_true h3.2,if_pos h3,b15]
  simp only[Bool.and_true,if_true,Qad]
  rw[Qsh (by omega) (by omega)]
  have f:=fin (s[k].toNat % 16) 2048 2 (by omega) (by omega)
  rw[show((2:Nat):Int)=2 from rfl,show((2048:Nat):Int)=2048 from rfl] at f
  rw[f]
  have e:s[k].toNat % 16=s[k].toNat-224:=by omega
  rw[e]
  match s.drop (k+1) with
  | []=>rfl
  | [c1]=>rfl
  | c1::c2::r1 =>
   simp only[List.length_cons,if_neg (by omega:¬ r1.length+1+1<2),tailP]
   cases h:contB c1 with
   | false=>rfl
   | true =>
    cases h' : contB c2 with
    | false=>simp[endP]
    | true=>simp only[if_true,endP,true_and]
 rw[if_neg h3]
 have d3:(decide (224≤s[k].toNat)&&decide (s[k].toNat<240))=false:=by
  rw[Bool.and_eq_false_iff]
  by_cases h:224≤s[k].toNat
  ·exact .inr (decide_eq_false (by omega))
  ·exact .inl (decide_eq_false h)
 rw[d3]
 simp only[Bool.false_eq_true,if_false]
 by_cases h4:240≤s[k].toNat∧s[k].toNat<248
 ·rw[decide_eq_true h4.1,decide_eq_true h4.2,if_pos h4,b7]
  simp only[Bool.and_true,if_true,Qad]
  rw[Qsh (by omega) (by omega)]
  have f:=fin (s[k].toNat % 8) 65536 3 (by omega) (by omega)
  rw[show((3:Nat):Int)=3 from rfl,show((65536:Nat):Int)=65536 from rfl] at f
  rw[f]
  have e:s[k].toNat % 8=s[k].toNat-240:=by omega
  rw[e]
  match s.drop (k+1) with
  | []=>rfl
  | [c1]=>rfl
  | [c1,c2]=>rfl
  | c1::c2::c3::r1 =>
   simp only[List.length_cons,if_neg (by omega:¬ r1.length+1+1+1<3),tailP]
   cases h:contB c1 with
   | false=>rfl
   | true =>
    cases h' : contB c2 with
    | false=>simp[endP]
    | true =>
     cases h'' : contB c3 with
     | false=>simp[endP]
     | true=>simp only[if_true,endP,true_and]
 rw[if_neg h4]
 have d4:(decide (240≤s[k].toNat)&&decide (s[k].toNat<248))=false:=by
  rw[Bool.and_eq_false_iff]
  by_cases h:240≤s[k].toNat
  ·exact .inr (decide_eq_false (by omega))
  ·exact .inl (decide_eq_false h)
 rw[d4]
 rfl
theorem Qpv (l:List UInt8) (h:l≠[]):1≤(nextP l).2∧(nextP l).2≤l.length:=by
 cases l with
 | nil=>exact absurd rfl h
 | cons c r =>
  rw[nextP]
  unfold nextC
  split
  ·simp
  ·split
   ·split
    ·split<;>simp
    ·simp
   ·split
    ·split
     ·split<;>simp
     ·simp
    ·split
     ·split
      ·split<;>simp
      ·simp
     ·simp
end Go.Proofs.YtagokkpnfceidaaDoor
end

section
namespace Go.Proofs.YtagokkpnfceidaaDoor
open Go.RowKit
def bytesN (n:Nat):List Nat :=
 if n<128 then [n] else if n<2048 then [192+n / 64,128+n % 64] else if n<65536 then [224+n / 4096,128+n / 64 % 64,128+n % 64] else [240+n / 262144,128+n / 4096 % 64,128+n / 64 % 64,128+n % 64]
theorem Q55 (l:List Nat) (h:∀ x ∈ l,x<256) (m:List UInt8):(l.map UInt8.ofNat==m)=decide (l=m.map UInt8.toNat):=by
 have key:l.map UInt8.ofNat=m↔l=m.map UInt8.toNat:=by
  constructor
  ·intro e
   subst e
   rw[List.map_map]
   conv=>lhs; rw[← List.map_id l]
   refine List.map_congr_left fun x hx=>?_
   have:=h x hx
   show x=(UInt8.ofNat x).toNat
   rw[UInt8.toNat_ofNat', Nat.mod_eq_of_lt this]
  ·intro e
   subst e
   rw[List.map_map]
   conv=>rhs; rw[← List.map_id m]
   exact List.map_congr_left fun x _=>by simp
 by_cases he:l.map UInt8.ofNat=m
 ·rw[decide_eq_true (key.1 he),beq_iff_eq]; exact he
 ·rw[decide_eq_false (fun k=>he (key.2 k)),beq_eq_false_iff_ne]; exact he
theorem Q1p (l:List Nat) (h:∀ x ∈ l,x<256):b2s (l.map fun x:Nat=>(x:Int))=some (l.map UInt8.ofNat):=by
 unfold b2s
 rw[if_pos]
 ·rw[List.map_map]; rfl
 ·rw[List.all_eq_true]
  intro n hn
  obtain⟨x,hx,rfl⟩:=List.mem_map.1 hn
  have:=h x hx
  simp only[decide_eq_true_eq]
  omega
theorem td (n k:Nat):((n:Int).tdiv (k:Int))=((n / k:Nat):Int):=by rw[Int.tdiv_eq_ediv_of_nonneg (by omega)]; rfl
theorem tm (n k:Nat):((n:Int).tmod (k:Int))=((n % k:Nat):Int):=by rw[Int.tmod_eq_emod_of_nonneg (by omega)]; rfl
theorem wrN (n:Nat) (h:n<9000000000000):wr (n:Int)=(n:Int):=wr_in (by omega) (by omega)
theorem u8N (n:Nat) (h:n<256):IntKind.u8.wrap (n:Int)=(n:Int):=u8_in (by omega) (by omega)
set_option maxRecDepth 20000 in
theorem rBytes (n:Nat) (h:runeB n=true):Qkf (n:Int)=some ((bytesN n).map UInt8.ofNat):=by
 have hn:n≤1114111:=by unfold runeB at h; rw[Bool.and_eq_true] at h; exact of_decide_eq_true h.1
 have a1:decide ((n:Int)<128)=decide (n<128):=ltI n 128
 have a2:decide ((n:Int)<2048)=decide (n<2048):=ltI n 2048
 have a3:decide ((n:Int)<65536)=decide (n<65536):=ltI n 65536
 have d64:(n:Int).tdiv 64=((n / 64:Nat):Int):=td n 64
 have m64:(n:Int).tmod 64=((n % 64:Nat):Int):=tm n 64
 have d4096:(n:Int).tdiv 4096=((n / 4096:Nat):Int):=td n 4096
 have d262:(n:Int).tdiv 262144=((n / 262144:Nat):Int):=td n 262144
 have w1:∀ a b:Nat,a+b<256→IntKind.u8.wrap (wr ((a:Int)+(b:Int)))=((a+b:Nat):Int):=fun a b h=>by
  rw[wr_in (by omega) (by omega),u8_in (by omega) (by omega)]; rfl
 rw[Qkf,rIsR,h]
 simp only[Qad,Bool.not_true,Bool.false_eq_true,if_false,a1,a2,a3,d64,m64,d4096,d262]
 rw[wrN (n / 64) (by omega),wrN (n / 4096) (by omega),wrN (n / 262144) (by omega)]
 have t64:(((n / 64:Nat):Int)).tmod 64=((n / 64 % 64:Nat):Int):=tm (n / 64) 64
 have t4096:(((n / 4096:Nat):Int)).tmod 64=((n / 4096 % 64:Nat):Int):=tm (n / 4096) 64
 rw[t64,t4096]
 unfold bytesN
 by_cases h1:n<128
 ·rw[decide_eq_true h1,if_pos h1,u8N n (by omega)]
  simp only[if_true]
  have:=Q1p [n] (by simp; omega)
  simp only[List.map_cons,List.map_nil] at this
  rw[this]; rfl
 rw[decide_eq_false h1,if_neg h1]
 by_cases h2:n<2048
 ·rw[decide_eq_true h2,if_pos h2]
  have e1:=w1 192 (n / 64) (by omega)
  have e2:=w1 128 (n % 64) (by omega)
  have:=Q1p [192+n / 64,128+n % 64] (by simp; omega)
  simp only[List.map_cons,List.map_nil] at this
  simp only[Bool.false_eq_true,if_false,if_true]
  rw[show(192:Int)=((192:Nat):Int) from rfl,show(128:Int)=((128:Nat):Int) from rfl,e1,e2,this]; rfl
 rw[decide_eq_false h2,if_neg h2]
 by_cases h3:n<65536
 ·rw[decide_eq_true h3,if_pos h3]
  have e1:=w1 224 (n / 4096) (by omega)
  have e2:=w1 128 (n / 64 % 64) (by omega)
  have e3:=w1 128 (n % 64) (by omega)
  have:=Q1p [224+n / 4096,128+n / 64 % 64,128+n % 64] (by simp; omega)
  simp only[List.map_cons,List.map_nil] at this
  simp only[Bool.false_eq_true,if_false,if_true]
  rw[show(224:Int)=((224:Nat):Int) from rfl,show(128:Int)=((128:Nat):Int) from rfl,e1,e2,e3,this]; rfl
 rw[decide_eq_false h3,if_neg h3]
 have e0:=w1 240 (n / 262144) (by omega)
 have e1:=w1 128 (n / 4096 % 64) (by omega)
 have e2:=w1 128 (n / 64 % 64) (by omega)
 have e3:=w1 128 (n % 64) (by omega)
 have:=Q1p [240+n / 262144,128+n / 4096 % 64,128+n / 64 % 64,128+n % 64] (by simp; omega)
 simp only[List.map_cons,List.map_nil] at this
 simp only[Bool.false_eq_true,if_false]
 rw[show(240:Int)=((240:Nat):Int) from rfl,show(128:Int)=((128:Nat):Int) from rfl,e0,e1,e2,e3,this]; rfl
theorem Q4n (n:Nat) (h:n≤1114111):∀ x ∈ bytesN n,x<256:=by
 unfold bytesN
 split
 ·simp; omega
 ·split
  ·simp; omega
  ·split<;>simp<;>omega
theorem rTest (s:List UInt8) (k m:Nat) (hm:k+m≤s.length) (hs:s.length<9000000000000) (n:Int) :
  ( if(decide (n ≥ 0))=true then
    Qk4 n>>=fun x11 =>
    if x11=true then
     Qkf n>>=fun x12 =>
     cutL s k (wr ((k:Int)+m))>>=fun x13 =>
     some (x12==x13)
    else
     some false
   else
    some false:Option Bool)=some (decide (0≤n)&&(runeB n.toNat&&decide (bytesN n.toNat=((s.take (k+m)).drop k).map UInt8.toNat))):=by
 have e:wr ((k:Int)+m)=((k+m:Nat):Int):=by rw[wr_in (by omega) (by omega)]; rfl
 by_cases h:0≤n
 ·obtain⟨v,rfl⟩:∃ v:Nat,n=v:=⟨n.toNat,by omega⟩
  rw[decide_eq_true (show(v:Int) ≥ 0 by omega),rIsR,e,Qjq (by omega) (by omega) (by omega)]
  simp only[if_true,Qad,Int.toNat_natCast,Bool.true_and]
  cases hr:runeB v with
  | false=>rfl
  | true =>
   have hv:v≤1114111:=by unfold runeB at hr; rw[Bool.and_eq_true] at hr; exact of_decide_eq_true hr.1
   rw[rBytes v hr]
   simp only[if_true,Qad,Q55 _ (Q4n v hv),Bool.true_and]
 ·rw[decide_eq_false (show ¬ n ≥ 0 from h)]; rfl
theorem wr64 (a b:Int) (ha : -3000000≤a) (ha2:a≤3000000) (hb:0≤b) (hb2:b≤255):wr ((wr ((wr (64*a))+(wr b)))-128)=64*a+b-128:=by
 rw[wr_in (n:=64*a) (by omega) (by omega),wr_in (n:=b) (by omega) (by omega),wr_in (n:=64*a+b) (by omega) (by omega),wr_in (by omega) (by omega)]
def addN (a:Int) (c:UInt8):Int:=64*a+c.toNat-128
theorem rL2 (s:List UInt8) (k:Nat) (v6:List Int) (m:Nat) (hm:k+m≤s.length) (hm4:m≤4) (hs:s.length<9000000000000):∀ d (i:Nat) (v:Int),i+d=m→1≤i→(i=1 → -300≤v∧v≤300)→(i=2 → -30000≤v∧v≤30000)→(i=3 → -3000000≤v∧v≤3000000) →
  Qem s k v6 m v i=some (((s.drop (k+i)).take d).foldl addN v):=by
 intro d
 induction d with
 | zero =>
  intro i v hi _ _ _ _
  rw[Qem,ltI,decide_eq_false (by omega:¬ i<m)]
  simp
 | succ d ih =>
  intro i v hi hi1 h1 h2 h3
  have hk:k+i<s.length:=by omega
  have e1:wr ((k:Int)+i)=((k+i:Nat):Int):=by rw[wr_in (by omega) (by omega)]; rfl
  have hc:=s[k+i].toNat_lt
  have hb : -3000000≤v∧v≤3000000:=by omega
  rw[Qem,ltI,decide_eq_true (by omega:i<m),e1,Qbt (by omega)]
  simp only[if_true,Qbr,getE hk,Qad]
  rw[wr64 v _ hb.1 hb.2 (by omega) (by omega),dropE hk,List.take_succ_cons,List.foldl_cons]
  exact ih (i+1) (addN v s[k+i]) (by omega) (by omega) (by omega) (by unfold addN; omega) (by unfold addN; omega)
def leadL:List Int:=[0,0,192,224,240]
def numN (c:UInt8) (r:List UInt8) (m:Nat):Int:=(r.take (m-1)).foldl addN ((c.toNat:Int)-(leadL[m]?.getD 0))
def tstB (c:UInt8) (r:List UInt8) (m:Nat):Bool:=decide (0≤numN c r m)&&(runeB (numN c r m).toNat&&decide (bytesN (numN c r m).toNat=((c::r).take m).map UInt8.toNat))
theorem rL1 (s:List UInt8) (k:Nat) (hk:k<s.length) (hs:s.length<9000000000000) (m:Nat) (h1:1≤m) (h4:m≤4) :
  Qcm s k leadL m=if k+m≤s.length then(if tstB s[k] (s.drop (k+1)) m=true then some (.inr (numN s[k] (s.drop (k+1)) m,(m:Int))) else Qcm s k leadL ((m+1:Nat):Int)) else some (.inl ()):=by
 have e0:wr ((s.length:Int)-k)=((s.length-k:Nat):Int):=by rw[wr_in (by omega) (by omega)]; omega
 have a4:decide ((m:Int)≤4)=true:=decide_eq_true (by omega)
 have hc:=s[k].toNat_lt
 rw[Qcm,e0,a4]
 by_cases hm:k+m≤s.length
 ·have a5:decide ((m:Int)≤((s.length-k:Nat):Int))=true:=decide_eq_true (by omega)
  obtain⟨ld,hld,hl0,hl1⟩:∃ ld:Int,leadL[m]? = some ld∧0≤ld∧ld≤240:=by
   match m,h1,h4 with
   | 1,_,_=>exact⟨0,rfl,by omega,by omega⟩
   | 2,_,_=>exact⟨192,rfl,by omega,by omega⟩
   | 3,_,_=>exact⟨224,rfl,by omega,by omega⟩
   | 4,_,_=>exact⟨240,rfl,by omega,by omega⟩
  have ew:wr ((wr (s[k].toNat:Int))-ld)=(s[k].toNat:Int)-ld:=by rw[wr_in (n:=(s[k].toNat:Int)) (by omega) (by omega),wr_in (by omega) (by omega)]
  have h2:=rL2 s k leadL m hm h4 hs (m-1) 1 ((s[k].toNat:Int)-ld) (by omega) (by omega) (by omega) (by omega) (by omega)
  have en:numN s[k] (s.drop (k+1)) m=((s.drop (k+1)).take (m-1)).foldl addN ((s[k].toNat:Int)-ld):=by rw[numN,hld]; rfl
  rw[← en,show((1:Nat):Int)=1 from rfl] at h2
  have ht:=rTest s k m hm hs (numN s[k] (s.drop (k+1)) m)
  have et:((s.take (k+m)).drop k)=((s[k]::s.drop (k+1)).take m):=by rw[← dropE hk,List.drop_take]; congr 1; omega
  rw[et] at ht
  rw[a5,if_pos hm,Qbt (by omega)]
  simp only[if_true,Qad,Qbr,getE hk,hld,ew,h2]
  rw[ht]
  rfl
 ·have a5:decide ((m:Int)≤((s.length-k:Nat):Int))=false:=decide_eq_false (by omega)
  rw[a5,if_neg hm]
  rfl
theorem tst1 (c:UInt8) (r:List UInt8):tstB c r 1=decide (c.toNat<128)∧numN c r 1=(c.toNat:Int):=by
 have hc:=c.toNat_lt
 have en:numN c r 1=(c.toNat:Int):=by simp[numN,leadL]
 refine⟨?_,en⟩
 have hr:runeB c.toNat=true:=by unfold runeB; rw[decide_eq_true (by omega),decide_eq_false (by omega)]; rfl
 rw[tstB,en,decide_eq_true (by omega),Int.toNat_natCast,hr]
 simp only[Bool.true_and,List.take_succ_cons,List.take_zero,List.map_cons,List.map_nil]
 unfold bytesN
 by_cases h:c.toNat<128
 ·rw[decide_eq_true h,if_pos h]; simp
 ·rw[decide_eq_false h,if_neg h,if_pos (by omega)]
  simp
theorem tst2 (c c1:UInt8) (r:List UInt8):tstB c (c1::r) 2=decide ((192≤c.toNat∧c.toNat<224)∧contB c1=true∧128≤(c.toNat-192)*64+(c1.toNat-128))∧numN c (c1::r) 2=64*((c.toNat:Int)-192)+c1.toNat-128:=by
 have hc:=c.toNat_lt
 have hc1:=c1.toNat_lt
 have en:numN c (c1::r) 2=64*((c.toNat:Int)-192)+c1.toNat-128:=by simp[numN,leadL,addN]
 refine⟨?_,en⟩
 rw[tstB,en]
 simp only[List.take_succ_cons,List.take_zero,List.map_cons,List.map_nil]
 have hcont:contB c1=true↔(128≤c1.toNat∧c1.toNat<192):=by unfold contB; simp
 by_cases hn:0≤64*((c.toNat:Int)-192)+c1.toNat-128
 ·obtain⟨n,hn2⟩:∃ n:Nat,64*((c.toNat:Int)-192)+c1.toNat-128=n:=⟨(64*((c.toNat:Int)-192)+c1.toNat-128).toNat,by omega⟩
  rw[hn2,Int.toNat_natCast,decide_eq_true (by omega),Bool.true_and]
  have hlt:n<5000:=by omega
  have hr:runeB n=true:=by unfold runeB; rw[decide_eq_true (by omega),decide_eq_false (by omega)]; rfl
  rw[hr,Bool.true_and]
  congr 1
  apply propext
  rw[hcont]
  unfold bytesN
  by_cases h1:n<128
  ·rw[if_pos h1]
   constructor
   ·intro h; simp at h
   ·intro h; omega
  ·rw[if_neg h1]
   by_cases h2:n<2048
   ·rw[if_pos h2]
    simp only[List.cons.injEq,and_true]
    omega
   ·rw[if_neg h2,if_pos (by omega)]
    constructor
    ·intro h; simp at h
    ·intro h; omega
 ·rw[decide_eq_false hn,Bool.false_and,decide_eq_false]
  rw[hcont]; omega
theorem tst3 (c c1 c2:UInt8) (r:List UInt8):tstB c (c1::c2::r) 3=decide ((224≤c.toNat∧c.toNat<240)∧contB c1=true∧contB c2=true∧2048≤((c.toNat-224)*64+(c1.toNat-128))*64+(c2.toNat-128)∧runeB (((c.toNat-224)*64+(c1.toNat-128))*64+(c2.toNat-128))=true) ∧
  numN c (c1::c2::r) 3=64*(64*((c.toNat:Int)-224)+c1.toNat-128)+c2.toNat-128:=by
 have hc:=c.toNat_lt
 have hc1:=c1.toNat_lt
 have hc2:=c2.toNat_lt
 have en:numN c (c1::c2::r) 3=64*(64*((c.toNat:Int)-224)+c1.toNat-128)+c2.toNat-128:=by simp[numN,leadL,addN]
 refine⟨?_,en⟩
 rw[tstB,en]
 simp only[List.take_succ_cons,List.take_zero,List.map_cons,List.map_nil]
 have hcont:contB c1=true↔(128≤c1.toNat∧c1.toNat<192):=by unfold contB; simp
 have hcont2:contB c2=true↔(128≤c2.toNat∧c2.toNat<192):=by unfold contB; simp
 by_cases hn:0≤64*(64*((c.toNat:Int)-224)+c1.toNat-128)+c2.toNat-128
 ·obtain⟨n,hn2⟩:∃ n:Nat,64*(64*((c.toNat:Int)-224)+c1.toNat-128)+c2.toNat-128=n:=⟨(64*(64*((c.toNat:Int)-224)+c1.toNat-128)+c2.toNat-128).toNat,by omega⟩
  rw[hn2,Int.toNat_natCast,decide_eq_true (by omega),Bool.true_and]
  have hlt:n<200000:=by omega
  have key:bytesN n=[c.toNat,c1.toNat,c2.toNat]↔((224≤c.toNat∧c.toNat<240)∧(128≤c1.toNat∧c1.toNat<192)∧(128≤c2.toNat∧c2.toNat<192)∧2048≤n):=by
   unfold bytesN
   by_cases h1:n<128
   ·rw[if_pos h1]
    exact⟨fun h=>by simp at h,fun h=>by omega⟩
   rw[if_neg h1]
   by_cases h2:n<2048
   ·rw[if_pos h2]
    exact⟨fun h=>by simp at h,fun h=>by omega⟩
   rw[if_neg h2]
   by_cases h3:n<65536
   ·rw[if_pos h3]
    simp only[List.cons.injEq,and_true]
    omega
   ·rw[if_neg h3]
    exact⟨fun h=>by simp at h,fun h=>by omega⟩
  rw[Bool.eq_iff_iff]
  simp only[Bool.and_eq_true,decide_eq_true_eq]
  rw[key,hcont,hcont2]
  constructor
  ·rintro ⟨hr,a,b,c', d⟩
   have e:((c.toNat-224)*64+(c1.toNat-128))*64+(c2.toNat-128)=n:=by omega
   exact⟨a,b,c', by omega,by rw[e]; exact hr⟩
  ·rintro ⟨a,b,c', d,hr⟩
   have e:((c.toNat-224)*64+(c1.toNat-128))*64+(c2.toNat-128)=n:=by omega
   rw[e] at hr d
   exact⟨hr,a,b,c', d⟩
 ·rw[decide_eq_false hn,Bool.false_and,decide_eq_false]
  rw[hcont,hcont2]; omega
theorem tst4 (c c1 c2 c3:UInt8) (r:List UInt8):tstB c (c1::c2::c3::r) 4=decide ((240≤c.toNat∧c.toNat<248)∧contB c1=true∧contB c2=true∧contB c3=true∧65536≤(((c.toNat-240)*64+(c1.toNat-128))*64+(c2.toNat-128))*64+(c3.toNat-128)∧runeB ((((c.toNat-240)*64+(c1.toNat-128))*64+(c2.toNat-128))*64+(c3.toNat-128))=true) ∧
  numN c (c1::c2::c3::r) 4=64*(64*(64*((c.toNat:Int)-240)+c1.toNat-128)+c2.toNat-128)+c3.toNat-128:=by
 have hc:=c.toNat_lt
 have hc1:=c1.toNat_lt
 have hc2:=c2.toNat_lt
 have hc3:=c3.toNat_lt
 have en:numN c (c1::c2::c3::r) 4=64*(64*(64*((c.toNat:Int)-240)+c1.toNat-128)+c2.toNat-128)+c3.toNat-128:=by simp[numN,leadL,addN]
 refine⟨?_,en⟩
 rw[tstB,en]
 simp only[List.take_succ_cons,List.take_zero,List.map_cons,List.map_nil]
 have hcont:contB c1=true↔(128≤c1.toNat∧c1.toNat<192):=by unfold contB; simp
 have hcont2:contB c2=true↔(128≤c2.toNat∧c2.toNat<192):=by unfold contB; simp
 have hcont3:contB c3=true↔(128≤c3.toNat∧c3.toNat<192):=by unfold contB; simp
 by_cases hn:0≤64*(64*(64*((c.toNat:Int)-240)+c1.toNat-128)+c2.toNat-128)+c3.toNat-128
 ·obtain⟨n,hn2⟩:∃ n:Nat,64*(64*(64*((c.toNat:Int)-240)+c1.toNat-128)+c2.toNat-128)+c3.toNat-128=n:=⟨(64*(64*(64*((c.toNat:Int)-240)+c1.toNat-128)+c2.toNat-128)+c3.toNat-128).toNat,by omega⟩
  rw[hn2,Int.toNat_natCast,decide_eq_true (by omega),Bool.true_and]
  have key:runeB n=true→(bytesN n=[c.toNat,c1.toNat,c2.toNat,c3.toNat]↔((240≤c.toNat∧c.toNat<248)∧(128≤c1.toNat∧c1.toNat<192)∧(128≤c2.toNat∧c2.toNat<192)∧(128≤c3.toNat∧c3.toNat<192)∧65536≤n)):=fun hr=>by
   have hlt:n≤1114111:=by unfold runeB at hr; rw[Bool.and_eq_true] at hr; exact of_decide_eq_true hr.1
   unfold bytesN
   by_cases h1:n<128
   ·rw[if_pos h1]
    exact⟨fun h=>by simp at h,fun h=>by omega⟩
   rw[if_neg h1]
   by_cases h2:n<2048
   ·rw[if_pos h2]
    exact⟨fun h=>by simp at h,fun h=>by omega⟩
   rw[if_neg h2]
   by_cases h3:n<65536
   ·rw[if_pos h3]
    exact⟨fun h=>by simp at h,fun h=>by omega⟩
   ·rw[if_neg h3]
    simp only[List.cons.injEq,and_true]
    omega
  rw[Bool.eq_iff_iff]
  simp only[Bool.and_eq_true,decide_eq_true_eq]
  rw[hcont,hcont2,hcont3]
  constructor
  ·rintro ⟨hr,hb⟩
   obtain⟨a,b,c', d', d⟩:=(key hr).1 hb
   have e:(((c.toNat-240)*64+(c1.toNat-128))*64+(c2.toNat-128))*64+(c3.toNat-128)=n:=by omega
   exact⟨a,b,c', d', by omega,by rw[e]; exact hr⟩
  ·rintro ⟨a,b,c', d', d,hr⟩
   have e:(((c.toNat-240)*64+(c1.toNat-128))*64+(c2.toNat-128))*64+(c3.toNat-128)=n:=by omega
   rw[e] at hr d
   exact⟨hr,(key hr).2 ⟨a,b,c', d', d⟩⟩
 ·rw[decide_eq_false hn,Bool.false_and,decide_eq_false]
  rw[hcont,hcont2,hcont3]; omega
theorem rNext (s:List UInt8) (k:Nat) (hk:k<s.length) (hs:s.length<9000000000000):Qow s k=some (((nextP (s.drop k)).1:Int),((nextP (s.drop k)).2:Int)):=by
 have d1:decide ((k:Int)<0)=false:=decide_eq_false (by omega)
 have d2:decide ((k:Int) ≥ (s.length:Int))=false:=decide_eq_false (by omega)
 have hc:=s[k].toNat_lt
 have l1:=rL1 s k hk hs 1 (by omega) (by omega)
 have l2:=rL1 s k hk hs 2 (by omega) (by omega)
 have l3:=rL1 s k hk hs 3 (by omega) (by omega)
 have l4:=rL1 s k hk hs 4 (by omega) (by omega)
 have l5:Qcm s k leadL ((4+1:Nat):Int)=some (.inl ()):=by
  rw[Qcm,show decide (((4+1:Nat):Int)≤4)=false from rfl]
  simp only[Bool.false_eq_true,if_false,Qad]
 have hdl:(s.drop (k+1)).length=s.length-(k+1):=List.length_drop
 rw[Qow,d1,d2,dropE hk,nextP]
 show(Qcm s k leadL ((1:Nat):Int)>>=_)=_
 rw[l1,if_pos (by omega),(tst1 _ _).1,(tst1 _ _).2,l2]
 unfold nextC
 by_cases h1:s[k].toNat<128
 ·rw[decide_eq_true h1,if_pos rfl,if_pos h1]; rfl
 rw[decide_eq_false h1,if_neg (by decide),if_neg h1]
 generalize hr:s.drop (k+1)=r at *
 match r with
 | [] =>
  simp at hdl
  rw[if_neg (by omega)]
  simp
 | [c1] =>
  simp at hdl
  have hc1:=c1.toNat_lt
  rw[if_pos (by omega),(tst2 _ _ _).1,(tst2 _ _ _).2,l3,if_neg (by omega:¬ k+3≤s.length)]
  dsimp only
  by_cases h2:192≤s[k].toNat∧s[k].toNat<224
  ·rw[if_pos h2]
   by_cases h3:contB c1=true∧128≤(s[k].toNat-192)*64+(c1.toNat-128)
   ·have h4:128≤c1.toNat:=by have:=h3.1; unfold contB at this; simp at this; exact this.1
    rw[decide_eq_true ⟨h2,h3⟩,if_pos rfl,if_pos h3]
    simp only[Qad]
    congr 2
    omega
   ·rw[decide_eq_false (fun h=>h3 h.2),if_neg (by decide),if_neg h3]; rfl
  ·rw[decide_eq_false (fun h=>h2 h.1),if_neg (by decide),if_neg h2]
   simp
 | [c1,c2] =>
  simp at hdl
  have hc1:=c1.toNat_lt
  have hc2:=c2.toNat_lt
  rw[if_pos (by omega),(tst2 _ _ _).1,(tst2 _ _ _).2,l3,if_pos (by omega:k+3≤s.length),(tst3 _ _ _ _).1,(tst3 _ _ _ _).2,l4,if_neg (by omega:¬ k+4≤s.length)]
  dsimp only
  by_cases h2:192≤s[k].toNat∧s[k].toNat<224
  ·rw[if_pos h2]
   by_cases h3:contB c1=true∧128≤(s[k].toNat-192)*64+(c1.toNat-128)
   ·have h4:128≤c1.toNat:=by have:=h3.1; unfold contB at this; simp at this; exact this.1
    rw[decide_eq_true ⟨h2,h3⟩,if_pos rfl,if_pos h3]
    simp only[Qad]
    congr 2
    omega
   ·rw[decide_eq_false (fun h=>h3 h.2),if_neg (by decide),if_neg h3,decide_eq_false (fun h=>by have:=h.1; omega),if_neg (by decide)]; rfl
  ·rw[decide_eq_false (fun h=>h2 h.1),if_neg (by decide),if_neg h2]
   by_cases h5:224≤s[k].toNat∧s[k].toNat<240
   ·rw[if_pos h5]
    by_cases h6:contB c1=true∧contB c2=true∧2048≤((s[k].toNat-224)*64+(c1.toNat-128))*64+(c2.toNat-128)∧runeB (((s[k].toNat-224)*64+(c1.toNat-128))*64+(c2.toNat-128))=true
    ·have h4:128≤c1.toNat:=by have:=h6.1; unfold contB at this; simp at this; exact this.1
     have h4' : 128≤c2.toNat:=by have:=h6.2.1; unfold contB at this; simp at this; exact this.1
     rw[decide_eq_true ⟨h5,h6⟩,if_pos rfl,if_pos h6]
     simp only[Qad]
     congr 2
     omega
    ·rw[decide_eq_false (fun h=>h6 h.2),if_neg (by decide),if_neg h6]; rfl
   ·rw[decide_eq_false (fun h=>h5 h.1),if_neg (by decide),if_neg h5]
    simp
 | c1::c2::c3::r =>
  simp at hdl
  have hc1:=c1.toNat_lt
  have hc2:=c2.toNat_lt
  have hc3:=c3.toNat_lt
  rw[if_pos (by omega),(tst2 _ _ _).1,(tst2 _ _ _).2,l3,if_pos (by omega:k+3≤s.length),(tst3 _ _ _ _).1,(tst3 _ _ _ _).2,l4,if_pos (by omega:k+4≤s.length),(tst4 _ _ _ _ _).1,(tst4 _ _ _ _ _).2,l5]
  dsimp only
  by_cases h2:192≤s[k].toNat∧s[k].toNat<224
  ·rw[if_pos h2]
   by_cases h3:contB c1=true∧128≤(s[k].toNat-192)*64+(c1.toNat-128)
   ·have h4:128≤c1.toNat:=by have:=h3.1; unfold contB at this; simp at this; exact this.1
    rw[decide_eq_true ⟨h2,h3⟩,if_pos rfl,if_pos h3]
    simp only[Qad]
    congr 2
    omega
   ·rw[decide_eq_false (fun h=>h3 h.2),if_neg (by decide),if_neg h3,decide_eq_false (fun h=>by have:=h.1; omega),if_neg (by decide),decide_eq_false (fun h=>by have:=h.1; omega),if_neg (by decide)]; rfl
  ·rw[decide_eq_false (fun h=>h2 h.1),if_neg (by decide),if_neg h2]
   by_cases h5:224≤s[k].toNat∧s[k].toNat<240
   ·rw[if_pos h5]
    by_cases h6:contB c1=true∧contB c2=true∧2048≤((s[k].toNat-224)*64+(c1.toNat-128))*64+(c2.toNat-128)∧runeB (((s[k].toNat-224)*64+(c1.toNat-128))*64+(c2.toNat-128))=true
    ·have h4:128≤c1.toNat:=by have:=h6.1; unfold contB at this; simp at this; exact this.1
     have h4' : 128≤c2.toNat:=by have:=h6.2.1; unfold contB at this; simp at this; exact this.1
     rw[decide_eq_true ⟨h5,h6⟩,if_pos rfl,if_pos h6]
     simp only[Qad]
     congr 2
     omega
    ·rw[decide_eq_false (fun h=>h6 h.2),if_neg (by decide),if_neg h6,decide_eq_false (fun h=>by have:=h.1; omega),if_neg (by decide)]; rfl
   ·rw[decide_eq_false (fun h=>h5 h.1),if_neg (by decide),if_neg h5]
    by_cases h7:240≤s[k].toNat∧s[k].toNat<248
    ·rw[if_pos h7]
     by_cases h8:contB c1=true∧contB c2=true∧contB c3=true∧65536≤(((s[k].toNat-240)*64+(c1.toNat-128))*64+(c2.toNat-128))*64+(c3.toNat-128)∧runeB ((((s[k].toNat-240)*64+(c1.toNat-128))*64+(c2.toNat-128))*64+(c3.toNat-128))=true
     ·have h4:128≤c1.toNat:=by have:=h8.1; unfold contB at this; simp at this; exact this.1
      have h4' : 128≤c2.toNat:=by have:=h8.2.1; unfold contB at this; simp at this; exact this.1
      have h4'' : 128≤c3.toNat:=by have:=h8.2.2.1; unfold contB at this; simp at this; exact this.1
      rw[decide_eq_true ⟨h7,h8⟩,if_pos rfl,if_pos h8]
      simp only[Qad]
      congr 2
      omega
     ·rw[decide_eq_false (fun h=>h8 h.2),if_neg (by decide),if_neg h8]; rfl
    ·rw[decide_eq_false (fun h=>h7 h.1),if_neg (by decide),if_neg h7]
     rfl
end Go.Proofs.YtagokkpnfceidaaDoor
end
