/- Part 12 of 12. -/
import Derived.Test.YtfgegilhjlnohaaGreatMgInferWide11
import Derived.ProofKit
import Derived.HandedShaped

noncomputable section
namespace Go.Proofs.YtfgegilhjlnohaaGreat
open Go.RowKit
set_option linter.unusedSimpArgs false
set_option linter.unusedVariables false
def Qzs(k:Int)(nm:Nm)(q:Int)(bs:List Qak):List Qak:=if k==11 then bs++[⟨nm,(Q07 q).1,false⟩] else if k==12 then bs++[⟨nm,q,false⟩] else bs
def hdK(a:List Qaa)(bs:List Qak)(z:List Nm):Int×Bool:=match a with | []=>(0,false) | y::_=>kdN y bs z
def badK(k:Int)(q:Int×Bool):Bool := !q.2||(k==9 && !decide (1<=q.1/\q.1<=3)||(k==10&&q.1 != 3||k==11 && !(Q07 q.1).2))
mutual
def stT(U:Nm->Int->Option Nm)(z:List Nm)(w:Nm):Qaa->List Qak->Option Nm
 | ⟨k,nm,_,_,a,t,e⟩,bs=>if k==8 then none else if badK k (hdK a bs z) then some w else
  (blT U z w t (Qzs k nm (hdK a bs z).1 bs)).or ((blT U z w e bs).or (if k==13 then U nm (hdK a bs z).1 else none))
def blT(U:Nm->Int->Option Nm)(z:List Nm)(w:Nm):List Qaa->List Qak->Option Nm
 | [],_=>none
 | x::r,bs=>(stT U z w x bs).or (blT U z w r bs)
end
theorem Q76(U:Nm->Int->Option Nm)(z:List Nm)(w:Nm)(x:Qaa)(bs:List Qak):stT U z w x bs=if x.Kind==8 then none else if badK x.Kind (hdK x.L bs z) then some w else
  (blT U z w x.Then (Qzs x.Kind x.Name (hdK x.L bs z).1 bs)).or ((blT U z w x.Else bs).or (if x.Kind==13 then U x.Name (hdK x.L bs z).1 else none)):=by cases x; rw[stT]
theorem Qabu{U V:Nm->Int->Option Nm}(z:List Nm)(w:Nm):∀ n (l:List Qaa) (bs:List Qak),nns l<=n->(∀ u ∈ usL l,∀ b,U u b=V u b)->blT U z w l bs=blT V z w l bs:=by
 intro n
 induction n with
 | zero =>
  intro l bs h _;cases l with
  | nil=>rw[blT,blT]
  | cons x r=>rw[nns] at h; have:=Qkv x; omega
 | succ n ih =>
  intro l
  induction l with
  | nil=>intro bs _ _; rw[blT,blT]
  | cons x r ihr =>
   intro bs h hU;rw[nns] at h;have e:=Qi3 x;have h1:∀ u ∈ usL x.Then,∀ b,U u b=V u b:=λu hu=>hU u (by rw[usL,Qj0]; simp[hu])
   have h2:∀ u ∈ usL x.Else,∀ b,U u b=V u b:=λu hu=>hU u (by rw[usL,Qj0]; simp[hu])
   have h3:∀ b,(if x.Kind==13 then U x.Name b else none)=(if x.Kind==13 then V x.Name b else none):=λb=>by
    split
    .rename_i hk;exact hU x.Name (by rw[usL,Qj0,if_pos hk]; simp) b
    .rfl
   rw[blT,blT,Q76,Q76,ih x.Then _ (by omega) h1,ih x.Else _ (by omega) h2,h3,ihr bs (by omega) λu hu=>hU u (by rw[usL]; simp[hu])]
def itK(k:Int):List Qak:=[⟨[103,114,111,117,112],6,false⟩,⟨[105,116],k,false⟩]
def vF(l:List Qad)(z:List Nm):Nat->Nm->Int->Option Nm
 | 0,_,_=>none
 | n+1,s,k=>blT (vF l z n) z s (Qhl l s).1 (itK k)
def uT(l:List Qad)(z:List Nm)(s:Nm)(k:Int):Option Nm:=vF l z ((reaP l s).length+1) s k
theorem Qaf1{l:List Qad}(hf:fine l)(z:List Nm):∀ n m s k,(reaP l s).length<n->(reaP l s).length<m->vF l z n s k=vF l z m s k
 | 0,_,_,_,h,_=>absurd h (Nat.not_lt_zero _)
 | _+1,0,_,_,_,h=>absurd h (Nat.not_lt_zero _)
 | n+1,m+1,s,k,h1,h2=>by
  rw[vF,vF];refine Qabu z s _ _ _ (Nat.le_refl _) λu hu b' => ?_
  have:=Qrc hf.closed hf.noring (Qve hu);exact Qaf1 hf z n m u b' (by omega) (by omega)
theorem Qaf2{l:List Qad}(hf:fine l)(z:List Nm)(s:Nm)(k:Int):uT l z s k=blT (uT l z) z s (Qhl l s).1 (itK k):=by
 rw[uT,vF];refine Qabu z s _ _ _ (Nat.le_refl _) λu hu b' => ?_
 have:=Qrc hf.closed hf.noring (Qve hu);exact Qaf1 hf z _ _ u b' (by omega) (by omega)
theorem Q77(k:Int)(nm:Nm)(q:Int)(bs:List Qak):(Qzs k nm q bs).length<=bs.length+1:=by
 unfold Qzs;split
 .simp
 .split<;>simp
theorem rBad(k:Int)(q:Int×Bool):(if(!q.2) then some true else if(k==9) then Quh q.1>>=λx9=>if(!x9) then some true else if(k==10) then if(q.1 != 3) then some true else if(k==11) then some (!(Q07 q.1).2) else some false else if(k==11) then some (!(Q07 q.1).2) else some false
  else if(k==10) then if(q.1 != 3) then some true else if(k==11) then some (!(Q07 q.1).2) else some false else if(k==11) then some (!(Q07 q.1).2) else some false:Option Bool)=some (badK k q):=by
 rw[Qamb,badK];generalize (k==9)=a;generalize (k==10)=b;generalize (k==11)=c;generalize (Q07 q.1).2=d;generalize (q.1 != 3)=e;generalize decide (1<=q.1/\q.1<=3)=f;generalize q.2=g;cases a<;>cases b<;>cases c<;>cases d<;>cases e<;>cases f<;>cases g<;>rfl
theorem Qahv(x:Qaa)(q:Int)(bs:List Qak)(hb:bs.length<=1000){R:Type}(K:List Qak->Option R) :
  (appL 32 [] bs>>=λx10=>(if(x.Kind==11) then appL 32 x10 [(Qak.mk x.Name (Q07 q).1 false)]>>=λx12=>some x12 else some x10:Option (List Qak))>>=λo11=>(if(x.Kind==12) then appL 32 o11 [(Qak.mk x.Name q false)]>>=λx14=>some x14 else some o11:Option (List Qak))>>=K)=K (Qzs x.Kind x.Name q bs):=by
 rw[Qfg (by simp; omega) (by simp; omega),Qac,List.nil_append];unfold Qzs;by_cases h11:(x.Kind==11)=true
 .have h12:¬ (x.Kind==12)=true:=by rw[beq_iff_eq] at h11 ⊢; omega
  rw[if_pos h11,if_pos h11,Qfg (by simp; omega) (by simp; omega),Qac,Qac,if_neg h12,Qac]
 .rw[if_neg h11,if_neg h11,Qac];by_cases h12:(x.Kind==12)=true
  .rw[if_pos h12,if_pos h12,Qfg (by simp; omega) (by simp; omega),Qac,Qac]
  .rw[if_neg h12,if_neg h12,Qac]
def Qaka:Option Nm->Nm×Bool
 | none=>([],true)
 | some s=>(s,false)
def sumT:Option Nm->Unit⊕Nm
 | none =>.inl ()
 | some s =>.inr s
def Qaf3(l:List Qad)(z:List Nm)(u:Nm):Prop:=∀ k,Qj7 l u (Qhl l u).1 (itK k) z=some (Qaka (uT l z u k))
theorem Qaf4{l:List Qad}(ho:okTs l)(z:List Nm)(hz:z.length<=1000)(w:Nm):∀ n (nl:List Qaa) (bs:List Qak),nns nl<=n->n<=100->bs.length+n<=900->goL nl->(∀ u ∈ usL nl,Qaf3 l z u)->Qj7 l w nl bs z=some (Qaka (blT (uT l z) z w nl bs)):=by
 intro n;have hlen:=ho.len
 induction n with
 | zero =>
  intro nl bs h _ _ _ _;cases nl with
  | nil=>rw[Qj7,Qem,blT]; rfl
  | cons x r=>rw[nns] at h; have:=Qkv x; omega
 | succ n ih =>
  intro nl bs h hn hb hg hU;have hll:=Qfj nl;have key:∀ k,k<=nl.length->Qem l w nl bs z k=some (sumT (blT (uT l z) z w (nl.drop k) bs)):=by
   refine upto ?_ λk hk ih2=>?_
   .have:decide (((nl.length:Nat):Int)<(nl.length:Int))=false:=decide_eq_false (by omega);rw[Qem,this,if_neg (by simp),List.drop_length,blT]; rfl
   .have hm:=List.getElem_mem hk;have hnn:=Qfk hm;have e:=Qi3 nl[k];have hgk:=(Qafx _).1 (Q9v hm hg);rw[Qem,ltI,decide_eq_true hk,if_pos rfl,Qax,getE hk,Qac,Qce hk,blT,Qa0 (show k<9223372036854775807 by omega),Q76,ih2];by_cases h8:(nl[k].Kind==8)=true
    .rw[if_pos h8,if_pos h8]; rfl
    .rw[if_neg h8,if_neg h8];have hl1:=hgk.1 (by simpa using h8);obtain⟨y,hy⟩:∃ y,nl[k].L=[y]:=List.length_eq_one_iff.1 hl1;have hny:nn y<=100:=by
      have:nn y<=nns nl[k].L:=Qfk (by rw[hy]; simp);omega
     have hi0:idx nl[k].L 0=some y:=by rw[hy]; rfl
     have hhd:hdK nl[k].L bs z=kdN y bs z:=by rw[hy]; rfl
     rw[hi0,Qac,rKd bs z (by omega) hz 100 y (by omega) hny,Qac,hhd];generalize hs:kdN y bs z=q;rw[Qame,Qac,rBad nl[k].Kind q,Qac];rcases Bool.eq_false_or_eq_true (badK nl[k].Kind q) with hq | hq
     .rw[if_pos hq,if_pos hq]; rfl
     .have hq' : ¬ badK nl[k].Kind q=true:=by rw[hq]; simp
      rw[if_neg hq', if_neg hq'];have hT:=λm (hm2:m.length<=bs.length+1)=>ih nl[k].Then m (by omega) (by omega) (by omega) hgk.2.2.1 λu hu=>hU u (by
       exact Qs5 hm u (by rw[Qj0]; simp[hu]))
      have hE:=ih nl[k].Else bs (by omega) (by omega) (by omega) hgk.2.2.2 λu hu=>hU u (by
       exact Qs5 hm u (by rw[Qj0]; simp[hu]))
      have hUse:(nl[k].Kind==13)=true->Qaf3 l z nl[k].Name:=λh13=>hU _ (by
       exact Qs5 hm _ (by rw[Qj0,if_pos h13]; simp))
      rw[Qahv nl[k] q.1 bs (by omega),hT _ (Q77 _ _ _ _),Qac,hE];cases blT (uT l z) z w nl[k].Then (Qzs nl[k].Kind nl[k].Name q.1 bs) with
      | some s=>rfl
      | none =>
       show(some (Qaka (blT (uT l z) z w nl[k].Else bs))>>=λx16=>_)=_;rw[Qac];cases blT (uT l z) z w nl[k].Else bs with
       | some s=>rfl
       | none =>
        by_cases h13:(nl[k].Kind==13)=true
        .have hu:=hUse h13 q.1;unfold itK at hu;rw[if_pos h13,if_pos h13,Qac0 l _ (by omega),Qac,hu];cases uT l z nl[k].Name q.1 with
         | some s=>rfl
         | none=>rfl
        .rw[if_neg h13,if_neg h13]; rfl
  have h0:=key 0 (by omega);rw[show((0:Nat):Int)=0 from rfl,List.drop_zero] at h0;rw[Qj7,h0,Qac];cases blT (uT l z) z w nl bs<;>rfl
theorem Qami{l:List Qad}(ho:okTs l)(hf:fine l)(z:List Nm)(hz:z.length<=1000):∀ n s,(reaP l s).length<=n->Qaf3 l z s:=by
 intro n
 induction n with
 | zero =>
  intro s hn b;rw[Qaf2 hf];refine Qaf4 ho z hz s 100 _ _ (Quc ho s) (by omega) (by simp[itK]) (Qzj hf s) λu hu=>?_
  have:=Qrc hf.closed hf.noring (Qve hu);omega
 | succ n ih =>
  intro s hn b;rw[Qaf2 hf];refine Qaf4 ho z hz s 100 _ _ (Quc ho s) (by omega) (by simp[itK]) (Qzj hf s) λu hu=>?_
  have:=Qrc hf.closed hf.noring (Qve hu);exact ih u (by omega)
def grpK:List Qak:=[⟨[103,114,111,117,112],6,false⟩]
def Q4w(l:List Qad)(z:List Nm)(s:Nm):Option Nm:=blT (uT l z) z s (Qhl l s).1 grpK
def chkT (l:List Qad) (s:Nm) (z:List Nm):Nm×Int :=
 if(Qhz l).2 != 0 then Qhz l else if !(fndT l s).isSome then([],4) else match Q4w l z s with | some w=>(w,201) | none=>([],0)
theorem Qamy{l:List Qad}(ho:okTs l)(s:Nm)(z:List Nm)(hz:z.length<=1000):Q73 l s z=some (chkT l s z):=by
 have hlen:=ho.len;rw[Q73,Qal4 l ho,Qac,chkT];by_cases hc:(Qhz l).2=0
 .have hb:((Qhz l).2 != 0)=false:=by simpa using hc
  obtain⟨hf,-⟩:=Qvb hc;rw[hb,if_neg (by simp),if_neg (by simp),Qac0 l s (by omega),Qac,Q2c];rcases Bool.eq_false_or_eq_true (fndT l s).isSome with hs | hs
  .have hr:=Qaf4 ho z hz s 100 _ grpK (Quc ho s) (by omega) (by simp[grpK]) (Qzj hf s) λu _=>Qami ho hf z hz _ u (Nat.le_refl _)
   unfold grpK at hr;rw[hs,if_neg (by simp),if_neg (by simp),hr,Qac];have e:Q4w l z s=blT (uT l z) z s (Qhl l s).1 [⟨[103,114,111,117,112],6,false⟩]:=rfl;rw[e];cases blT (uT l z) z s (Qhl l s).1 [⟨[103,114,111,117,112],6,false⟩]<;>rfl
  .rw[hs,if_pos (by simp),if_pos (by simp)]
 .have hb:((Qhz l).2 != 0)=true:=by simpa using hc
  rw[hb,if_pos rfl,if_pos rfl]
abbrev peK(a b:Qal):Bool:=(a.name_==b.name_&&(a.it_==b.it_&&true))
theorem Qzt(a b:Qal):peK a b=true↔a=b:=by
 cases a; cases b; simp[peK]
instance Qan1:DecidableEq Qal:=λa b=>decidable_of_iff (peK a b=true) (Qzt a b)
abbrev Dk:=List (Qal×Int)
theorem Qahw(k:Qal)(p:Qal×Int)(r:Dk):mget peK k (p::r)=if k=p.1 then some p.2 else mget peK k r:=by
 rw[mget];by_cases h:k=p.1
 .rw[if_pos ((Qzt _ _).2 h),if_pos h]
 .rw[if_neg (λe=>h ((Qzt _ _).1 e)),if_neg h]
theorem Qany(x:Qal)(v:Int)(p:Qal×Int)(r:Dk):mset peK x v (p::r)=if x=p.1 then(x,v)::r else p::mset peK x v r:=by
 rw[mset];by_cases h:x=p.1
 .rw[if_pos ((Qzt _ _).2 h),if_pos h]
 .rw[if_neg (λe=>h ((Qzt _ _).1 e)),if_neg h]
theorem Qamj(k x:Qal)(v:Int):∀ m:Dk,mget peK k (mset peK x v m)=if k=x then some v else mget peK k m
 | []=>by
  have e:mset peK x v []=[(x,v)]:=by rw[mset]
  rw[e,Qahw]
 | p::r=>by
  have ih:=Qamj k x v r;rw[Qany,Qahw k p r];by_cases hx:x=p.1
  .rw[if_pos hx,Qahw];by_cases h:k=x
   .rw[if_pos h,if_pos h]
   .have h2:¬ k=p.1:=λe=>h (e.trans hx.symm)
    rw[if_neg h,if_neg h,if_neg h2]
  .rw[if_neg hx,Qahw,ih];by_cases h:k=p.1
   .have h2:¬ k=x:=λe=>hx (e.symm.trans h)
    rw[if_pos h,if_neg h2,if_pos h]
   .rw[if_neg h,if_neg h]
def Qahx(l:List Qad)(z:List Nm)(D:Dk):Prop:=∀ p:Qal,(mget peK p D).getD 0>0->uT l z p.name_ p.it_=none
def Qakb(l:List Qad)(z:List Nm):Option Nm->Dk⊕(Nm×Dk)->Prop
 | none,.inl D=>Qahx l z D
 | some s,.inr q=>q.1=s
 | _,_=>False
def Qabv(l:List Qad)(z:List Nm)(u:Nm):Prop:=∀ (k:Int) (D:Dk),Qahx l z D->∃ r,Qgg ⟨u,k⟩ l z D=some r/\Qakb l z (uT l z u k) r
theorem Qakc (x : Qaa) (q : Int × Bool) (bs : List Qak) (hb : bs.length ≤ 1000) :
    ( if (x.Kind == 9) then
          if q.2 then
            Qhj q.1 >>= fun x9 =>
            some (x9, bs)
          else
            some (false, bs)
        else
          if (x.Kind == 10) then
            if q.2 then
              some ((q.1 == 3), bs)
            else
              some (false, bs)
          else
            if (x.Kind == 11) then
              Qj8 q.1 >>= fun x10 =>
              ( if q.2 then
                  some x10.2
                else
                  some false : Option (Bool)) >>= fun o11 =>
              appL 32 bs [(Qak.mk x.Name x10.1 false)] >>= fun x12 =>
              some (o11, x12)
            else
              if (x.Kind == 12) then
                appL 32 bs [(Qak.mk x.Name q.1 false)] >>= fun x13 =>
                some (q.2, x13)
              else
                some (q.2, bs) : Option ((Bool × (List Qak)))) = some (!badK x.Kind q, Qzs x.Kind x.Name q.1 bs) := by
  have ha : ∀ b, appL 32 bs [(Qak.mk x.Name b false)] = some (bs ++ [⟨x.Name, b, false⟩]) := fun b => Qfg (by simp; omega) (by simp; omega)
  rw [Qaij, Qanx, Qame, ha, Qac, Qac, ha, Qac, badK, Qzs]
  by_cases h9 : x.Kind = 9
  · have e9 : (x.Kind == 9) = true := by rw [h9]; rfl
    have e10 : (x.Kind == 10) = false := by rw [h9]; rfl
    have e11 : (x.Kind == 11) = false := by rw [h9]; rfl
    have e12 : (x.Kind == 12) = false := by rw [h9]; rfl
    simp only [e9, e10, e11, e12, if_true, Bool.false_eq_true, if_false, Bool.true_and, Bool.false_and, Bool.or_false]
    cases q.2 <;> simp
  · have e9 : (x.Kind == 9) = false := by simpa using h9
    simp only [e9, Bool.false_eq_true, if_false, Bool.false_and, Bool.false_or]
    by_cases h10 : x.Kind = 10
    · have e10 : (x.Kind == 10) = true := by rw [h10]; rfl
      have e11 : (x.Kind == 11) = false := by rw [h10]; rfl
      have e12 : (x.Kind == 12) = false := by rw [h10]; rfl
      simp only [e10, e11, e12, if_true, Bool.false_eq_true, if_false, Bool.true_and, Bool.false_and, Bool.or_false]
      cases q.2 <;> simp [bne]
    · have e10 : (x.Kind == 10) = false := by simpa using h10
      simp only [e10, Bool.false_eq_true, if_false, Bool.false_and, Bool.false_or]
      by_cases h11 : x.Kind = 11
      · have e11 : (x.Kind == 11) = true := by rw [h11]; rfl
        simp only [e11, if_true, Bool.true_and]
        cases q.2 <;> simp
      · have e11 : (x.Kind == 11) = false := by simpa using h11
        simp only [e11, Bool.false_eq_true, if_false, Bool.false_and, Bool.or_false]
        by_cases h12 : (x.Kind == 12) = true
        · rw [if_pos h12, if_pos h12]; simp
        · rw [if_neg h12, if_neg h12]; simp
theorem Qaim{l:List Qad}(_ho:okTs l)(z:List Nm)(hz:z.length<=1000)(w:Nm):∀ n (nl:List Qaa) (bs:List Qak),nns nl<=n->n<=100->bs.length+n<=900->goL nl->(∀ u ∈ usL nl,Qabv l z u) ->
  ∀ D:Dk,Qahx l z D->∃ r,Qa8 w nl bs l z D=some r/\Qakb l z (blT (uT l z) z w nl bs) r:=by
 intro n
 induction n with
 | zero =>
  intro nl bs h _ _ _ _ D hD;cases nl with
  | nil =>
   refine⟨.inl D,?_,?_⟩
   .rw[Qa8,Qba]; rfl
   .rw[blT]; exact hD
  | cons x r=>rw[nns] at h; have:=Qkv x; omega
 | succ n ih =>
  intro nl bs h hn hb hg hU;have hll:=Qfj nl;have key:∀ k,k<=nl.length->∀ D:Dk,Qahx l z D->∃ r,Qba w nl bs l z k D=some r/\Qakb l z (blT (uT l z) z w (nl.drop k) bs) r:=by
   refine upto ?_ λk hk ih2=>?_
   .intro D hD;have:decide (((nl.length:Nat):Int)<(nl.length:Int))=false:=decide_eq_false (by omega);refine⟨.inl D,?_,?_⟩
    .rw[Qba,this,if_neg (by simp)]
    .rw[List.drop_length,blT]; exact hD
   .intro D hD;have hm:=List.getElem_mem hk;have hnn:=Qfk hm;have e:=Qi3 nl[k];have hgk:=(Qafx _).1 (Q9v hm hg);rw[Qba,ltI,decide_eq_true hk,if_pos rfl,Qax,getE hk,Qac,Qce hk,blT,Qa0 (show k<9223372036854775807 by omega),Q76];by_cases h8:(nl[k].Kind==8)=true
    .rw[if_pos h8,if_pos h8]; exact ih2 D hD
    .rw[if_neg h8,if_neg h8];have hl1:=hgk.1 (by simpa using h8);obtain⟨y,hy⟩:∃ y,nl[k].L=[y]:=List.length_eq_one_iff.1 hl1;have hny:nn y<=100:=by
      have:nn y<=nns nl[k].L:=Qfk (by rw[hy]; simp);omega
     have hi0:idx nl[k].L 0=some y:=by rw[hy]; rfl
     have hhd:hdK nl[k].L bs z=kdN y bs z:=by rw[hy]; rfl
     rw[hi0,Qac,cKd bs z (by omega) hz 100 y (by omega) hny,Qac,hhd,Qb7,Qfg (by simp; omega) (by simp; omega),Qac,List.nil_append];generalize hs:kdN y bs z=q;have hst:=Qakc nl[k] q bs (by omega);rw[hst,Qac];rcases Bool.eq_false_or_eq_true (badK nl[k].Kind q) with hq | hq
     .simp only[hq,Bool.not_true,Bool.not_false,if_true];exact⟨_,rfl,rfl⟩
     .simp only[hq,Bool.not_true,Bool.not_false,Bool.false_eq_true,if_false];by_cases h13:(nl[k].Kind==13)=true
      .have hK:nl[k].Kind=13:=by simpa using h13
       obtain⟨hT0,hE0⟩:=hgk.2.1 (.inl hK);obtain⟨r,u1,u2⟩:=hU nl[k].Name (Qs5 hm _ (by rw[Qj0,if_pos h13]; simp)) q.1 D hD;rw[if_pos h13,u1,Qac,if_pos h13,hT0,hE0,blT,blT,Option.none_or,Option.none_or];revert u2;cases uT l z nl[k].Name q.1 with
       | none =>
        intro u2
        match r,u2 with
        | .inl D', u2=>exact ih2 D' u2
       | some s =>
        intro u2
        match r,u2 with
        | .inr p,u2=>exact⟨_,rfl,u2⟩
      .rw[if_neg h13,if_neg h13,Option.or_none];obtain⟨r1,p1,p2⟩:=ih nl[k].Then (Qzs nl[k].Kind nl[k].Name q.1 bs) (by omega) (by omega) (by have:=Q77 nl[k].Kind nl[k].Name q.1 bs; omega) hgk.2.2.1 (λu hu=>hU u (Qs5 hm u (by rw[Qj0]; simp[hu]))) D hD;rw[p1,Qac];revert p2;cases blT (uT l z) z w nl[k].Then (Qzs nl[k].Kind nl[k].Name q.1 bs) with
       | some s =>
        intro p2
        match r1,p2 with
        | .inr p,p2=>exact⟨_,rfl,p2⟩
       | none =>
        intro p2
        match r1,p2 with
        | .inl D1,p2 =>
         obtain⟨r2,q1,q2⟩:=ih nl[k].Else bs (by omega) (by omega) (by omega) hgk.2.2.2 (λu hu=>hU u (Qs5 hm u (by rw[Qj0]; simp[hu]))) D1 p2;show ∃ r,(Qa8 w nl[k].Else bs l z D1>>=λo21=>_)=some r/\_;rw[q1,Qac,Option.none_or];revert q2;cases blT (uT l z) z w nl[k].Else bs with
         | some s =>
          intro q2
          match r2,q2 with
          | .inr p,q2=>exact⟨_,rfl,q2⟩
         | none =>
          intro q2
          match r2,q2 with
          | .inl D2,q2=>exact ih2 D2 q2
  intro D hD;obtain⟨r,h1,h2⟩:=key 0 (by omega) D hD;rw[show((0:Nat):Int)=0 from rfl] at h1;rw[List.drop_zero] at h2;rw[Qa8,h1,Qac]
  match r,h2 with
  | .inl D', h2=>exact⟨_,rfl,h2⟩
  | .inr p,h2=>exact⟨.inr (p.1,p.2),rfl,h2⟩
theorem Qaf5{l:List Qad}(ho:okTs l)(hf:fine l)(z:List Nm)(hz:z.length<=1000)(s:Nm)(hU:∀ u ∈ usL (Qhl l s).1,Qabv l z u):Qabv l z s:=by
 intro k D hD;have hlen:=ho.len;rw[Qgg];by_cases hd:(mget peK ⟨s,k⟩ D).getD 0>0
 .rw[if_pos (decide_eq_true hd)];have:=hD ⟨s,k⟩ hd;exact⟨_,rfl,by rw[this]; exact hD⟩
 .rw[if_neg (λe=>hd (of_decide_eq_true e)),Qajs l s (by omega),Qac];obtain⟨r,h1,h2⟩:=Qaim ho z hz s 100 (Qhl l s).1 (itK k) (Quc ho s) (by omega) (by simp[itK]) (Qzj hf s) hU D hD;rw[<-Qaf2 hf] at h2;unfold itK at h1;rw[h1,Qac];revert h2;cases hu:uT l z s k with
  | some w =>
   intro h2
   match r,h2 with
   | .inr p,h2=>exact⟨_,rfl,h2⟩
  | none =>
   intro h2
   match r,h2 with
   | .inl D', h2 =>
    refine⟨_,rfl,λp hp=>?_⟩;have hg:=Qamj p ⟨s,k⟩ 1 D';by_cases e:p=⟨s,k⟩
    .rw[e]; exact hu
    .rw[if_neg e] at hg;exact h2 p (by rw[<-hg]; exact hp)
theorem Qamk{l:List Qad}(ho:okTs l)(hf:fine l)(z:List Nm)(hz:z.length<=1000):∀ n s,(reaP l s).length<=n->Qabv l z s:=by
 intro n
 induction n with
 | zero =>
  intro s hn;refine Qaf5 ho hf z hz s λu hu=>?_
  have:=Qrc hf.closed hf.noring (Qve hu);omega
 | succ n ih =>
  intro s hn;refine Qaf5 ho hf z hz s λu hu=>?_
  have:=Qrc hf.closed hf.noring (Qve hu);exact ih u (by omega)
theorem Qum{l:List Qad}(ho:okTs l)(s:Nm)(z:List Nm)(hz:z.length<=1000):Qf0 l s z=some (chkT l s z):=by
 have hlen:=ho.len;rw[Qf0,Qal3 l ho,Qac,chkT];by_cases hc:(Qhz l).2=0
 .have hb:((Qhz l).2 != 0)=false:=by simpa using hc
  obtain⟨hf,-⟩:=Qvb hc;rw[hb,if_neg (by simp),if_neg (by simp),Qajs l s (by omega),Qac,Q2c];rcases Bool.eq_false_or_eq_true (fndT l s).isSome with hs | hs
  .obtain⟨r,h1,h2⟩:=Qaim ho z hz s 100 (Qhl l s).1 grpK (Quc ho s) (by omega) (by simp[grpK]) (Qzj hf s) (λu _=>Qamk ho hf z hz _ u (Nat.le_refl _)) [] (λp hp=>by rw[mget] at hp; exact absurd hp (by decide));have e:blT (uT l z) z s (Qhl l s).1 grpK=Q4w l z s:=rfl;rw[e] at h2;unfold grpK at h1;rw[hs,if_neg (by simp),if_neg (by simp),h1,Qac];revert h2;cases Q4w l z s with
   | some w =>
    intro h2
    match r,h2 with
    | .inr p,h2=>show some (p.1,(201:Int))=some (w,201); rw[show p.1=w from h2]
   | none =>
    intro h2
    match r,h2 with
    | .inl D', h2=>rfl
  .rw[hs,if_pos (by simp),if_pos (by simp)]
 .have hb:((Qhz l).2 != 0)=true:=by simpa using hc
  rw[hb,if_pos rfl,if_pos rfl]
abbrev Dn:=List (Qa9×Int)
def good(l:List Qad)(p:Qa9)(t:Int):Prop:=(uS l p.name_ p.it_).Bad=false/\((uS l p.name_ p.it_).Tells=true->0<t)
structure NW (l:List Qad) (f:Qfv) (c:Nat) (D E:Dn) (t t' : Int):Prop where
 keys:((D++E).map (·.1)).Nodup
 new:∀ p ∈ E,p.1.name_ ∈ nms l/\p.2=1/\good l p.1 t'
 told:0<t' ↔ 0<t\/f.Tells=true
 pos:0<=t'
 most:t' <= t+c+100*(E.length:Int)
def Post(l:List Qad)(f:Qfv)(c:Nat)(w:Nm)(D:Dn)(t:Int)(r:Nm×Bool×Dn×Int):Prop :=
 (f.Bad=true->r.2.1=true/\r.1=f.Where)/\(f.Bad=false->r.2.1=false/\r.1=w/\∃ E,r.2.2.1=D++E/\NW l f c D E t r.2.2.2)
structure leO {α : Type} (a b:Option α):Prop where
 h:∀ r,a=some r->b=some r
theorem leO.refl{α : Type}(a:Option α):leO a a:=⟨λ_ h=>h⟩
theorem leO.no{α : Type}(a:Option α):leO none a:=⟨λ_ h=>(nomatch h)⟩
theorem leO.bind{α β : Type}{a b:Option α}{f g : α -> Option β}(h:leO a b)(k:∀ x,leO (f x) (g x)):leO (a>>=f) (b>>=g):=⟨λr hr=>by
 obtain⟨x,h1,h2⟩:=Option.bind_eq_some_iff.1 hr;rw[h.h x h1];exact(k x).h r h2⟩
theorem leO.ite{α : Type}{c:Prop}[Decidable c]{a b a' b' : Option α}(h:leO a a')(k:leO b b'):leO (if c then a else b) (if c then a' else b'):=by
 split
 .exact h
 .exact k
def Qh6:Nat->(List UInt8)->Int->(List Int)->Int->Int->Int->Option (Int)
 | 0,_,_,_,_,_,_=>none
 | n+1,p0,p1,v6,v7,v8,v9 =>
  if(decide (v9<v7)) then
   idx p0 (wr (p1+v9))>>=λx9 =>
   Qh6 n p0 p1 v6 v7 (wr ((wr ((wr (64*v8))+(wr (x9.toNat:Int))))-128)) (wr (v9+1))
  else
   some v8
theorem Q08:∀ n:Nat,(∀ (p0:(List UInt8)) (p1:Int) (v6:(List Int)) (v7:Int) (v8:Int) (v9:Int),leO (Qh6 n p0 p1 v6 v7 v8 v9) (Qd6 p0 p1 v6 v7 v8 v9)):=by
 intro n
 induction n with
 | zero=>exact λ_ _ _ _ _ _=>leO.no _
 | succ n ih =>
  intro p0 p1 v6 v7 v8 v9;rw[Qd6,Qh6]
  repeat' first | (with_reducible exact leO.refl _) | apply ih | apply leO.bind | apply leO.ite | intro _ | split
theorem Q09(n:Nat):∀ (p0:(List UInt8)) (p1:Int) (v6:(List Int)) (v7:Int) (v8:Int) (v9:Int),leO (Qh6 n p0 p1 v6 v7 v8 v9) (Qd6 p0 p1 v6 v7 v8 v9):=(Q08 n)
def Qh7:Nat->(List UInt8)->Int->(List Int)->Int->Option (Unit⊕(Int×Int))
 | 0,_,_,_,_=>none
 | n+1,p0,p1,v6,v7 =>
  ( if(decide (v7<=4)) then
    some (decide (v7<=(wr ((p0.length:Int)-p1))))
   else
    some false:Option (Bool))>>=λo5 =>
  if o5 then
   idx p0 p1>>=λx6 =>
   idx v6 v7>>=λx7 =>
   (Qh6 n p0 p1 v6 v7 (wr ((wr (x6.toNat:Int))-x7)) 1)>>=λo8 =>
   ( if(decide (o8 >= 0)) then
     Qmb o8>>=λx11 =>
     if x11 then
      Qlo o8>>=λx12 =>
      cutL p0 p1 (wr (p1+v7))>>=λx13 =>
      some (x12==x13)
     else
      some false
    else
     some false:Option (Bool))>>=λo10 =>
   if o10 then
    some (.inr (o8,v7))
   else
    Qh7 n p0 p1 v6 (wr (v7+1))
  else
   some (.inl ())
theorem Q1a:∀ n:Nat,(∀ (p0:(List UInt8)) (p1:Int) (v6:(List Int)) (v7:Int),leO (Qh7 n p0 p1 v6 v7) (Qcw p0 p1 v6 v7)):=by
 intro n
 induction n with
 | zero=>exact λ_ _ _ _=>leO.no _
 | succ n ih =>
  intro p0 p1 v6 v7;rw[Qcw,Qh7]
  repeat' first | (with_reducible exact leO.refl _) | apply ih | apply Q09 | apply leO.bind | apply leO.ite | intro _ | split
theorem Q1b(n:Nat):∀ (p0:(List UInt8)) (p1:Int) (v6:(List Int)) (v7:Int),leO (Qh7 n p0 p1 v6 v7) (Qcw p0 p1 v6 v7):=(Q1a n)
def Qrh:Nat->(List UInt8)->Int->Option (Int×Int)
 | 0,_,_=>none
 | n+1,p0,p1 =>
  ( if(decide (p1<0)) then
    some true
   else
    some (decide (p1 >= (p0.length:Int))):Option (Bool))>>=λo1 =>
  if o1 then
   some (0,0)
  else
   (Qh7 n p0 p1 [0,0,192,224,240] 1)>>=λo2 =>
   match o2 with
   | .inl y3 =>
    some (65533,1)
   | .inr y4 =>
    some (y4.1,y4.2)
theorem Q96:∀ n:Nat,(∀ (p0:(List UInt8)) (p1:Int),leO (Qrh n p0 p1) (Qk0 p0 p1)):=by
 intro n
 induction n with
 | zero=>exact λ_ _=>leO.no _
 | succ n ih =>
  intro p0 p1;rw[Qk0,Qrh]
  repeat' first | (with_reducible exact leO.refl _) | apply Q1b | apply leO.bind | apply leO.ite | intro _ | split
theorem Q97(n:Nat):∀ (p0:(List UInt8)) (p1:Int),leO (Qrh n p0 p1) (Qk0 p0 p1):=(Q96 n)
def Qf1:Nat->(List UInt8)->Int->Option (Int)
 | 0,_,_=>none
 | n+1,p0,v1 =>
  ( if(decide (v1<(p0.length:Int))) then
    idx p0 v1>>=λx3 =>
    Qua (x3.toNat:Int)>>=λx4 =>
    some x4
   else
    some false:Option (Bool))>>=λo2 =>
  if o2 then
   Qf1 n p0 (wr (v1+1))
  else
   some v1
theorem Qwn:∀ n:Nat,(∀ (p0:(List UInt8)) (v1:Int),leO (Qf1 n p0 v1) (Qey p0 v1)):=by
 intro n
 induction n with
 | zero=>exact λ_ _=>leO.no _
 | succ n ih =>
  intro p0 v1;rw[Qey,Qf1]
  repeat' first | (with_reducible exact leO.refl _) | apply ih | apply leO.bind | apply leO.ite | intro _ | split
theorem Qwo(n:Nat):∀ (p0:(List UInt8)) (v1:Int),leO (Qf1 n p0 v1) (Qey p0 v1):=(Qwn n)
def Qj9:Nat->(List UInt8)->Int->Option (Int)
 | 0,_,_=>none
 | n+1,p0,p1 =>
  (Qf1 n p0 p1)>>=λo1 =>
  some o1
theorem Q4x:∀ n:Nat,(∀ (p0:(List UInt8)) (p1:Int),leO (Qj9 n p0 p1) (Qi6 p0 p1)):=by
 intro n
 induction n with
 | zero=>exact λ_ _=>leO.no _
 | succ n ih =>
  intro p0 p1;rw[Qi6,Qj9]
  repeat' first | (with_reducible exact leO.refl _) | apply Qwo | apply leO.bind | apply leO.ite | intro _ | split
theorem Qun(n:Nat):∀ (p0:(List UInt8)) (p1:Int),leO (Qj9 n p0 p1) (Qi6 p0 p1):=(Q4x n)
def Qh8:Nat->(List UInt8)->Int->Option (Unit⊕Unit)
 | 0,_,_=>none
 | n+1,p0,v3 =>
  if(decide (v3<(p0.length:Int))) then
   ( idx p0 v3>>=λx8 =>
    Qe9 (x8.toNat:Int)>>=λx9 =>
    if(!x9) then
     idx p0 v3>>=λx10 =>
     Qe8 (x10.toNat:Int)>>=λx11 =>
     if(!x11) then
      idx p0 v3>>=λx12 =>
      some ((x12.toNat:Int) != 95)
     else
      some false
    else
     some false:Option (Bool))>>=λo7 =>
   if o7 then
    some (.inr ())
   else
    Qh8 n p0 (wr (v3+1))
  else
   some (.inl ())
theorem Q1c:∀ n:Nat,(∀ (p0:(List UInt8)) (v3:Int),leO (Qh8 n p0 v3) (Qd7 p0 v3)):=by
 intro n
 induction n with
 | zero=>exact λ_ _=>leO.no _
 | succ n ih =>
  intro p0 v3;rw[Qd7,Qh8]
  repeat' first | (with_reducible exact leO.refl _) | apply ih | apply leO.bind | apply leO.ite | intro _ | split
theorem Q1d(n:Nat):∀ (p0:(List UInt8)) (v3:Int),leO (Qh8 n p0 v3) (Qd7 p0 v3):=(Q1c n)
def Qlb:Nat->(List UInt8)->Option (Bool)
 | 0,_=>none
 | n+1,p0 =>
  ( if(decide ((p0.length:Int)<1)) then
    some true
   else
    if(decide ((p0.length:Int)>32)) then
     some true
    else
     idx p0 0>>=λx2 =>
     Qe9 (x2.toNat:Int)>>=λx3 =>
     some (!x3):Option (Bool))>>=λo1 =>
  if o1 then
   some false
  else
   (Qh8 n p0 0)>>=λo4 =>
   match o4 with
   | .inl y5 =>
    some true
   | .inr y6 =>
    some false
theorem Q98:∀ n:Nat,(∀ (p0:(List UInt8)),leO (Qlb n p0) (Qgu p0)):=by
 intro n
 induction n with
 | zero=>exact λ_=>leO.no _
 | succ n ih =>
  intro p0;rw[Qgu,Qlb]
  repeat' first | (with_reducible exact leO.refl _) | apply Q1d | apply leO.bind | apply leO.ite | intro _ | split
theorem Qs6(n:Nat):∀ (p0:(List UInt8)),leO (Qlb n p0) (Qgu p0):=(Q98 n)
def Qka:Nat->(List UInt8)->Int->UInt8->Int->Option (Unit⊕(Int×Int))
 | 0,_,_,_,_=>none
 | n+1,p0,p1,x1,v9 =>
  if(decide (v9<([46,40,41,44,61].length:Int))) then
   idx ([46,40,41,44,61]:List UInt8) v9>>=λx6 =>
   if((x6.toNat:Int)==(x1.toNat:Int)) then
    idx ([7,8,9,10,11]:List Int) v9>>=λx7 =>
    some (.inr (x7,x7))
   else
    Qka n p0 p1 x1 (wr (v9+1))
  else
   some (.inl ())
theorem Q4y:∀ n:Nat,(∀ (p0:(List UInt8)) (p1:Int) (x1:UInt8) (v9:Int),leO (Qka n p0 p1 x1 v9) (Qi7 p0 p1 x1 v9)):=by
 intro n
 induction n with
 | zero=>exact λ_ _ _ _=>leO.no _
 | succ n ih =>
  intro p0 p1 x1 v9;rw[Qi7,Qka]
  repeat' first | (with_reducible exact leO.refl _) | apply ih | apply leO.bind | apply leO.ite | intro _ | split
theorem Q4z(n:Nat):∀ (p0:(List UInt8)) (p1:Int) (x1:UInt8) (v9:Int),leO (Qka n p0 p1 x1 v9) (Qi7 p0 p1 x1 v9):=(Q4y n)
def Qkb:Nat->(List UInt8)->Int->Int->Option (Int)
 | 0,_,_,_=>none
 | n+1,p0,p1,v12 =>
  ( if(decide (v12<(p0.length:Int))) then
    idx p0 v12>>=λx12 =>
    Qe9 (x12.toNat:Int)>>=λx13 =>
    if x13 then
     some true
    else
     idx p0 v12>>=λx14 =>
     Qe8 (x14.toNat:Int)>>=λx15 =>
     if x15 then
      some true
     else
      idx p0 v12>>=λx16 =>
      some ((x16.toNat:Int)==95)
   else
    some false:Option (Bool))>>=λo11 =>
  if o11 then
   Qkb n p0 p1 (wr (v12+1))
  else
   some v12
theorem Q40:∀ n:Nat,(∀ (p0:(List UInt8)) (p1:Int) (v12:Int),leO (Qkb n p0 p1 v12) (Qi8 p0 p1 v12)):=by
 intro n
 induction n with
 | zero=>exact λ_ _ _=>leO.no _
 | succ n ih =>
  intro p0 p1 v12;rw[Qi8,Qkb]
  repeat' first | (with_reducible exact leO.refl _) | apply ih | apply leO.bind | apply leO.ite | intro _ | split
theorem Q41(n:Nat):∀ (p0:(List UInt8)) (p1:Int) (v12:Int),leO (Qkb n p0 p1 v12) (Qi8 p0 p1 v12):=(Q40 n)
def Qkc:Nat->(List UInt8)->Int->Int->Option (Int)
 | 0,_,_,_=>none
 | n+1,p0,p1,v12 =>
  ( if(decide (v12<(p0.length:Int))) then
    idx p0 v12>>=λx24 =>
    Qe8 (x24.toNat:Int)>>=λx25 =>
    some x25
   else
    some false:Option (Bool))>>=λo23 =>
  if o23 then
   Qkc n p0 p1 (wr (v12+1))
  else
   some v12
theorem Q42:∀ n:Nat,(∀ (p0:(List UInt8)) (p1:Int) (v12:Int),leO (Qkc n p0 p1 v12) (Qi9 p0 p1 v12)):=by
 intro n
 induction n with
 | zero=>exact λ_ _ _=>leO.no _
 | succ n ih =>
  intro p0 p1 v12;rw[Qi9,Qkc]
  repeat' first | (with_reducible exact leO.refl _) | apply ih | apply leO.bind | apply leO.ite | intro _ | split
theorem Q43(n:Nat):∀ (p0:(List UInt8)) (p1:Int) (v12:Int),leO (Qkc n p0 p1 v12) (Qi9 p0 p1 v12):=(Q42 n)
def Qc5:Nat->(List UInt8)->Int->(List UInt8)->Option (Unit⊕((List UInt8)×Int))
 | 0,_,_,_=>none
 | n+1,p0,v1,v6 =>
  if(decide (v1<(p0.length:Int))) then
   idx p0 v1>>=λx4 =>
   if((x4.toNat:Int)==34) then
    some (.inr (v6,(wr (v1+1))))
   else
    idx p0 v1>>=λx5 =>
    if((x5.toNat:Int)==92) then
     if((wr (v1+1))==(p0.length:Int)) then
      some (.inr ([],(-1)))
     else
      ( idx p0 (wr (v1+1))>>=λx7 =>
       some (x7.toNat:Int):Option (Int))>>=λo6 =>
      if(o6==110) then
       need (v6.length+[10].length<=9223372036854775807)>>=λ_ =>
       Qc5 n p0 (wr (v1+2)) (v6++[10])
      else
       if(o6==116) then
        need (v6.length+[9].length<=9223372036854775807)>>=λ_ =>
        Qc5 n p0 (wr (v1+2)) (v6++[9])
       else
        ( if(o6==34) then
          some true
         else
          some (o6==92):Option (Bool))>>=λo8 =>
        if o8 then
         cutL p0 (wr (v1+1)) (wr (v1+2))>>=λx9 =>
         need (v6.length+x9.length<=9223372036854775807)>>=λ_ =>
         Qc5 n p0 (wr (v1+2)) (v6++x9)
        else
         some (.inr ([],(-1)))
    else
     Qrh n p0 v1>>=λx10 =>
     ( if(x10.1==10) then
       some true
      else
       if(x10.1==13) then
        some true
       else
        if(x10.1==65533) then
         some (x10.2==1)
        else
         some false:Option (Bool))>>=λo11 =>
     if o11 then
      some (.inr ([],(-1)))
     else
      cutL p0 v1 (wr (v1+x10.2))>>=λx12 =>
      need (v6.length+x12.length<=9223372036854775807)>>=λ_ =>
      Qc5 n p0 (wr (v1+x10.2)) (v6++x12)
  else
   some (.inl ())
theorem Qwp:∀ n:Nat,(∀ (p0:(List UInt8)) (v1:Int) (v6:(List UInt8)),leO (Qc5 n p0 v1 v6) (Qc0 p0 v1 v6)):=by
 intro n
 induction n with
 | zero=>exact λ_ _ _=>leO.no _
 | succ n ih =>
  intro p0 v1 v6;rw[Qc0,Qc5]
  repeat' first | (with_reducible exact leO.refl _) | apply ih | apply Q97 | apply leO.bind | apply leO.ite | intro _ | split
theorem Qwq(n:Nat):∀ (p0:(List UInt8)) (v1:Int) (v6:(List UInt8)),leO (Qc5 n p0 v1 v6) (Qc0 p0 v1 v6):=(Qwp n)
def Qmo:Nat->(List UInt8)->Int->Option ((List UInt8)×Int)
 | 0,_,_=>none
 | n+1,p0,p1 =>
  (Qc5 n p0 (wr (p1+1)) [])>>=λo1 =>
  match o1 with
  | .inl y2 =>
   some ([],(-1))
  | .inr y3 =>
   some (y3.1,y3.2)
theorem Q44:∀ n:Nat,(∀ (p0:(List UInt8)) (p1:Int),leO (Qmo n p0 p1) (Qk8 p0 p1)):=by
 intro n
 induction n with
 | zero=>exact λ_ _=>leO.no _
 | succ n ih =>
  intro p0 p1;rw[Qk8,Qmo]
  repeat' first | (with_reducible exact leO.refl _) | apply Qwq | apply leO.bind | apply leO.ite | intro _ | split
theorem Q45(n:Nat):∀ (p0:(List UInt8)) (p1:Int),leO (Qmo n p0 p1) (Qk8 p0 p1):=(Q44 n)
def Quo:Nat->(List UInt8)->Int->Option (Qag×Bool)
 | 0,_,_=>none
 | n+1,p0,p1 =>
  idx p0 p1>>=λx1 =>
  Qei p0 [125,125] p1>>=λx2 =>
  if x2 then
   some ((Qag.mk 3 [] 0 p1 (wr (p1+2))),true)
  else
   (Qka n p0 p1 x1 0)>>=λo3 =>
   match o3 with
   | .inl y4 =>
    if((x1.toNat:Int)==34) then
     Qmo n p0 p1>>=λx8 =>
     some ((Qag.mk 5 x8.1 0 p1 x8.2),(decide (x8.2>0)))
    else
     Qe9 (x1.toNat:Int)>>=λx9 =>
     if x9 then
      (Qkb n p0 p1 (wr (p1+1)))>>=λo10 =>
      cutL p0 p1 o10>>=λx17 =>
      cutL p0 p1 o10>>=λx18 =>
      Qlb n x18>>=λx19 =>
      some ((Qag.mk 4 x17 0 p1 o10),x19)
     else
      ( if((x1.toNat:Int)==45) then
        some true
       else
        Qe8 (x1.toNat:Int)>>=λx21 =>
        some x21:Option (Bool))>>=λo20 =>
      if o20 then
       (Qkc n p0 p1 (wr (p1+1)))>>=λo22 =>
       cutL p0 p1 o22>>=λx26 =>
       Qrf x26>>=λx27 =>
       some ((Qag.mk 6 [] x27.1 p1 o22),x27.2)
      else
       some ((Qag.mk 0 [] 0 p1 (wr (p1+1))),false)
   | .inr y5 =>
    some ((Qag.mk y5.1 [] 0 p1 (wr (p1+1))),true)
theorem Qadb:∀ n:Nat,(∀ (p0:(List UInt8)) (p1:Int),leO (Quo n p0 p1) (Qvd p0 p1)):=by
 intro n
 induction n with
 | zero=>exact λ_ _=>leO.no _
 | succ n ih =>
  intro p0 p1;rw[Qvd,Quo]
  repeat' first | (with_reducible exact leO.refl _) | apply Qs6 | apply Q4z | apply Q41 | apply Q43 | apply Q45 | apply leO.bind | apply leO.ite | intro _ | split
theorem Qadc(n:Nat):∀ (p0:(List UInt8)) (p1:Int),leO (Quo n p0 p1) (Qvd p0 p1):=(Qadb n)
def Qf2:Nat->(List UInt8)->(List Qag)->Int->Option (((List Qag)×Int)⊕Int)
 | 0,_,_,_=>none
 | n+1,p0,v5_,v6_ =>
  Qj9 n p0 v6_>>=λx16 =>
  if(x16==(p0.length:Int)) then
   some (.inr x16)
  else
   Quo n p0 x16>>=λx17 =>
   if(!x17.2) then
    some (.inr x16)
   else
    appL 48 v5_ [x17.1]>>=λx18 =>
    if(x17.1.Kind==3) then
     some (.inl (x18,x17.1.To))
    else
     Qf2 n p0 x18 x17.1.To
theorem Qwr:∀ n:Nat,(∀ (p0:(List UInt8)) (v5_:(List Qag)) (v6_:Int),leO (Qf2 n p0 v5_ v6_) (Qez p0 v5_ v6_)):=by
 intro n
 induction n with
 | zero=>exact λ_ _ _=>leO.no _
 | succ n ih =>
  intro p0 v5_ v6_;rw[Qez,Qf2]
  repeat' first | (with_reducible exact leO.refl _) | apply ih | apply Qun | apply Qadc | apply leO.bind | apply leO.ite | intro _ | split
theorem Qws(n:Nat):∀ (p0:(List UInt8)) (v5_:(List Qag)) (v6_:Int),leO (Qf2 n p0 v5_ v6_) (Qez p0 v5_ v6_):=(Qwr n)
def Qh9:Nat->(List UInt8)->(List UInt8)->Int->Option (Int)
 | 0,_,_,_=>none
 | n+1,p0,p1,v2 =>
  ( if(decide (v2<(p0.length:Int))) then
    Qei p0 p1 v2>>=λx3 =>
    some (!x3)
   else
    some false:Option (Bool))>>=λo2 =>
  if o2 then
   Qh9 n p0 p1 (wr (v2+1))
  else
   some v2
theorem Q1e:∀ n:Nat,(∀ (p0:(List UInt8)) (p1:(List UInt8)) (v2:Int),leO (Qh9 n p0 p1 v2) (Qg4 p0 p1 v2)):=by
 intro n
 induction n with
 | zero=>exact λ_ _ _=>leO.no _
 | succ n ih =>
  intro p0 p1 v2;rw[Qg4,Qh9]
  repeat' first | (with_reducible exact leO.refl _) | apply ih | apply leO.bind | apply leO.ite | intro _ | split
theorem Q1f(n:Nat):∀ (p0:(List UInt8)) (p1:(List UInt8)) (v2:Int),leO (Qh9 n p0 p1 v2) (Qg4 p0 p1 v2):=(Q1e n)
def Qn0:Nat->(List UInt8)->(List UInt8)->Int->Option (Int)
 | 0,_,_,_=>none
 | n+1,p0,p1,p2 =>
  (Qh9 n p0 p1 p2)>>=λo1 =>
  some o1
theorem Q99:∀ n:Nat,(∀ (p0:(List UInt8)) (p1:(List UInt8)) (p2:Int),leO (Qn0 n p0 p1 p2) (Qos p0 p1 p2)):=by
 intro n
 induction n with
 | zero=>exact λ_ _ _=>leO.no _
 | succ n ih =>
  intro p0 p1 p2;rw[Qos,Qn0]
  repeat' first | (with_reducible exact leO.refl _) | apply Q1f | apply leO.bind | apply leO.ite | intro _ | split
theorem Qaaa(n:Nat):∀ (p0:(List UInt8)) (p1:(List UInt8)) (p2:Int),leO (Qn0 n p0 p1 p2) (Qos p0 p1 p2):=(Q99 n)
def Qf3:Nat->(List UInt8)->(List Qag)->Int->Option ((List Qag)⊕((List Qag)×Int×Int))
 | 0,_,_,_=>none
 | n+1,p0,v5,v6 =>
  if(decide (v6<(p0.length:Int))) then
   Qn0 n p0 [123,123] v6>>=λx4 =>
   ( if(decide (x4>v6)) then
     cutL p0 v6 x4>>=λx6 =>
     appL 48 v5 [(Qag.mk 1 x6 0 v6 x4)]>>=λx7 =>
     some x7
    else
     some v5:Option ((List Qag)))>>=λo5 =>
   if(x4==(p0.length:Int)) then
    some (.inr (o5,0,0))
   else
    appL 48 o5 ([(Qag.mk 2 [] 0 x4 (wr (x4+2)))])>>=λx8 =>
    Qj9 n p0 (wr (x4+2))>>=λx9 =>
    ( Qei p0 [35] x9>>=λx11 =>
     if x11 then
      Qn0 n p0 [125,125] x9>>=λx12 =>
      some x12
     else
      some x9:Option (Int))>>=λo10 =>
    (Qf2 n p0 x8 o10)>>=λo13 =>
    match o13 with
    | .inl y14 =>
     Qf3 n p0 y14.1 y14.2
    | .inr y15 =>
     some (.inr ([],y15,7))
  else
   some (.inl v5)
theorem Qwt:∀ n:Nat,(∀ (p0:(List UInt8)) (v5:(List Qag)) (v6:Int),leO (Qf3 n p0 v5 v6) (Qe0 p0 v5 v6)):=by
 intro n
 induction n with
 | zero=>exact λ_ _ _=>leO.no _
 | succ n ih =>
  intro p0 v5 v6;rw[Qe0,Qf3]
  repeat' first | (with_reducible exact leO.refl _) | apply ih | apply Qws | apply Qun | apply Qaaa | apply leO.bind | apply leO.ite | intro _ | split
theorem Qwu(n:Nat):∀ (p0:(List UInt8)) (v5:(List Qag)) (v6:Int),leO (Qf3 n p0 v5 v6) (Qe0 p0 v5 v6):=(Qwt n)
def Qmp:Nat->(List UInt8)->Option ((List Qag)×Int×Int)
 | 0,_=>none
 | n+1,p0 =>
  if(decide ((p0.length:Int)>65536)) then
   some ([],0,6)
  else
   (Qf3 n p0 [] 0)>>=λo1 =>
   match o1 with
   | .inl y2 =>
    some (y2,0,0)
   | .inr y3 =>
    some (y3.1,y3.2.1,y3.2.2)
theorem Q46:∀ n:Nat,(∀ (p0:(List UInt8)),leO (Qmp n p0) (Qk9 p0)):=by
 intro n
 induction n with
 | zero=>exact λ_=>leO.no _
 | succ n ih =>
  intro p0;rw[Qk9,Qmp]
  repeat' first | (with_reducible exact leO.refl _) | apply Qwu | apply leO.bind | apply leO.ite | intro _ | split
theorem Q47(n:Nat):∀ (p0:(List UInt8)),leO (Qmp n p0) (Qk9 p0):=(Q46 n)
mutual
def Qg9:Nat->(List Qaa)->Option (Int)
 | 0,_=>none
 | n+1,p0 =>
  (Qjk n p0 0 0)>>=λo1 =>
  some o1
def Qjk:Nat->(List Qaa)->Int->Int->Option (Int)
 | 0,_,_,_=>none
 | n+1,p0,v3,v4 =>
  if(decide (v4<(p0.length:Int))) then
   idx p0 v4>>=λx2 =>
   Qg9 n x2.L>>=λx3 =>
   idx p0 v4>>=λx4 =>
   Qg9 n x4.Then>>=λx5 =>
   idx p0 v4>>=λx6 =>
   Qg9 n x6.Else>>=λx7 =>
   Qjk n p0 (wr ((wr ((wr ((wr (v3+1))+x3))+x5))+x7)) (wr (v4+1))
  else
   some v3
end
theorem Q78:∀ n:Nat,(∀ (p0:(List Qaa)),leO (Qg9 n p0) (Qdo p0))/\(∀ (p0:(List Qaa)) (v3:Int) (v4:Int),leO (Qjk n p0 v3 v4) (Qd2 p0 v3 v4)):=by
 intro n
 induction n with
 | zero=>exact⟨λ_=>leO.no _,λ_ _ _=>leO.no _⟩
 | succ n ih =>
  obtain⟨i0,i1⟩:=ih;refine⟨?_,?_⟩
  .intro p0;rw[Qdo,Qg9]
   repeat' first | (with_reducible exact leO.refl _) | apply i0 | apply i1 | apply leO.bind | apply leO.ite | intro _ | split
  .intro p0 v3 v4;rw[Qd2,Qjk]
   repeat' first | (with_reducible exact leO.refl _) | apply i0 | apply i1 | apply leO.bind | apply leO.ite | intro _ | split
theorem Q79(n:Nat):∀ (p0:(List Qaa)),leO (Qg9 n p0) (Qdo p0):=(Q78 n).1
mutual
def Qjc:Nat->(List Qaa)->Option (Int)
 | 0,_=>none
 | n+1,p0 =>
  (Qk2 n p0 0 0)>>=λo1 =>
  some o1
def Qk2:Nat->(List Qaa)->Int->Int->Option (Int)
 | 0,_,_,_=>none
 | n+1,p0,v3,v4 =>
  if(decide (v4<(p0.length:Int))) then
   idx p0 v4>>=λx2 =>
   Qjc n x2.L>>=λx3 =>
   idx p0 v4>>=λx4 =>
   Qjc n x4.Then>>=λx5 =>
   idx p0 v4>>=λx6 =>
   Qjc n x6.Else>>=λx7 =>
   Qk2 n p0 (if(wr (1+(if x7>(if x5>x3 then x5 else x3) then x7 else(if x5>x3 then x5 else x3))))>v3 then(wr (1+(if x7>(if x5>x3 then x5 else x3) then x7 else(if x5>x3 then x5 else x3)))) else v3) (wr (v4+1))
  else
   some v3
end
theorem Qaab:∀ n:Nat,(∀ (p0:(List Qaa)),leO (Qjc n p0) (Qep p0))/\(∀ (p0:(List Qaa)) (v3:Int) (v4:Int),leO (Qk2 n p0 v3 v4) (Qeq p0 v3 v4)):=by
 intro n
 induction n with
 | zero=>exact⟨λ_=>leO.no _,λ_ _ _=>leO.no _⟩
 | succ n ih =>
  obtain⟨i0,i1⟩:=ih;refine⟨?_,?_⟩
  .intro p0;rw[Qep,Qjc]
   repeat' first | (with_reducible exact leO.refl _) | apply i0 | apply i1 | apply leO.bind | apply leO.ite | intro _ | split
  .intro p0 v3 v4;rw[Qeq,Qk2]
   repeat' first | (with_reducible exact leO.refl _) | apply i0 | apply i1 | apply leO.bind | apply leO.ite | intro _ | split
theorem Qaac(n:Nat):∀ (p0:(List Qaa)),leO (Qjc n p0) (Qep p0):=(Qaab n).1
def Qia:Nat->(List UInt8)->(List (List UInt8))->Int->Option (Unit⊕Unit)
 | 0,_,_,_=>none
 | n+1,p0,x1,v4 =>
  if(decide (v4<(x1.length:Int))) then
   idx x1 v4>>=λx5 =>
   if(x5==p0) then
    some (.inr ())
   else
    Qia n p0 x1 (wr (v4+1))
  else
   some (.inl ())
theorem Q1g:∀ n:Nat,(∀ (p0:(List UInt8)) (x1:(List (List UInt8))) (v4:Int),leO (Qia n p0 x1 v4) (Qdp p0 x1 v4)):=by
 intro n
 induction n with
 | zero=>exact λ_ _ _=>leO.no _
 | succ n ih =>
  intro p0 x1 v4;rw[Qdp,Qia]
  repeat' first | (with_reducible exact leO.refl _) | apply ih | apply leO.bind | apply leO.ite | intro _ | split
theorem Q1h(n:Nat):∀ (p0:(List UInt8)) (x1:(List (List UInt8))) (v4:Int),leO (Qia n p0 x1 v4) (Qdp p0 x1 v4):=(Q1g n)
def Qri:Nat->(List UInt8)->Option (Bool)
 | 0,_=>none
 | n+1,p0 =>
  Qqh>>=λx1 =>
  (Qia n p0 x1 0)>>=λo2 =>
  match o2 with
  | .inl y3 =>
   Qlb n p0>>=λx6 =>
   some x6
  | .inr y4 =>
   some false
theorem Qaad:∀ n:Nat,(∀ (p0:(List UInt8)),leO (Qri n p0) (Qga p0)):=by
 intro n
 induction n with
 | zero=>exact λ_=>leO.no _
 | succ n ih =>
  intro p0;rw[Qga,Qri]
  repeat' first | (with_reducible exact leO.refl _) | apply Qs6 | apply Q1h | apply leO.bind | apply leO.ite | intro _ | split
theorem Qaae(n:Nat):∀ (p0:(List UInt8)),leO (Qri n p0) (Qga p0):=(Qaad n)
def Qc9:Nat->(List Qag)->Int->Bool->Int->(List UInt8)->(List UInt8)->Int->(List Qaa)->(List Qaa)->(List Qaa)->Option ((Int×Bool×Int×(List UInt8)×(List UInt8)×Int×(List Qaa)×(List Qaa)×(List Qaa)))
 | 0,_,_,_,_,_,_,_,_,_,_=>none
 | n+1,h0_0,h0_1_,h0_2_,h2_0,h2_1,h2_2,h2_3,h2_4,h2_5,h2_6 =>
  Qap 7 h0_0 h0_1_ h0_2_>>=λx3 =>
  if x3 then
   Qah true h0_0 h0_1_ h0_2_>>=λx4 =>
   Qap 4 h0_0 x4.2.1 x4.2.2>>=λx5 =>
   Qah x5 h0_0 x4.2.1 x4.2.2>>=λx6 =>
   Qc9 n h0_0 x6.2.1 x6.2.2 5 x6.1.Text [] 0 [(Qaa.mk h2_0 h2_1 h2_2 h2_3 h2_4 h2_5 h2_6)] [] []
  else
   some (h0_1_,h0_2_,h2_0,h2_1,h2_2,h2_3,h2_4,h2_5,h2_6)
theorem Qqx:∀ n:Nat,(∀ (h0_0:(List Qag)) (h0_1_:Int) (h0_2_:Bool) (h2_0:Int) (h2_1:(List UInt8)) (h2_2:(List UInt8)) (h2_3:Int) (h2_4:(List Qaa)) (h2_5:(List Qaa)) (h2_6:(List Qaa)),leO (Qc9 n h0_0 h0_1_ h0_2_ h2_0 h2_1 h2_2 h2_3 h2_4 h2_5 h2_6) (Qcj h0_0 h0_1_ h0_2_ h2_0 h2_1 h2_2 h2_3 h2_4 h2_5 h2_6)):=by
 intro n
 induction n with
 | zero=>exact λ_ _ _ _ _ _ _ _ _ _=>leO.no _
 | succ n ih =>
  intro h0_0 h0_1_ h0_2_ h2_0 h2_1 h2_2 h2_3 h2_4 h2_5 h2_6;rw[Qcj,Qc9]
  repeat' first | (with_reducible exact leO.refl _) | apply ih | apply leO.bind | apply leO.ite | intro _ | split
theorem Qqy(n:Nat):∀ (h0_0:(List Qag)) (h0_1_:Int) (h0_2_:Bool) (h2_0:Int) (h2_1:(List UInt8)) (h2_2:(List UInt8)) (h2_3:Int) (h2_4:(List Qaa)) (h2_5:(List Qaa)) (h2_6:(List Qaa)),leO (Qc9 n h0_0 h0_1_ h0_2_ h2_0 h2_1 h2_2 h2_3 h2_4 h2_5 h2_6) (Qcj h0_0 h0_1_ h0_2_ h2_0 h2_1 h2_2 h2_3 h2_4 h2_5 h2_6):=(Qqx n)
def Qdk:Nat->(List Qag)->Int->Bool->Option ((List UInt8)×Int×Bool)
 | 0,_,_,_=>none
 | n+1,h0_0,h0_1,h0_2 =>
  ( Qap 4 h0_0 h0_1 h0_2>>=λx2 =>
   if x2 then
    idx h0_0 h0_1>>=λx3 =>
    Qri n x3.Text>>=λx4 =>
    Qah x4 h0_0 h0_1 h0_2>>=λx5 =>
    some (x5.1.Text,x5.2.1,x5.2.2)
   else
    Qah false h0_0 h0_1 h0_2>>=λx6 =>
    some (x6.1.Text,x6.2.1,x6.2.2):Option (((List UInt8)×Int×Bool)))>>=λo1 =>
  some (o1.1,o1.2.1,o1.2.2)
theorem Qup:∀ n:Nat,(∀ (h0_0:(List Qag)) (h0_1:Int) (h0_2:Bool),leO (Qdk n h0_0 h0_1 h0_2) (Qc3 h0_0 h0_1 h0_2)):=by
 intro n
 induction n with
 | zero=>exact λ_ _ _=>leO.no _
 | succ n ih =>
  intro h0_0 h0_1 h0_2;rw[Qc3,Qdk]
  repeat' first | (with_reducible exact leO.refl _) | apply Qaae | apply leO.bind | apply leO.ite | intro _ | split
theorem Qmq(n:Nat):∀ (h0_0:(List Qag)) (h0_1:Int) (h0_2:Bool),leO (Qdk n h0_0 h0_1 h0_2) (Qc3 h0_0 h0_1 h0_2):=(Qup n)
mutual
def Qcy:Nat->(List Qag)->Int->Bool->Option (Qaa×Int×Bool)
 | 0,_,_,_=>none
 | n+1,h0_0,h0_1,h0_2 =>
  Qib n h0_0 h0_1 h0_2>>=λx1 =>
  (Qc9 n h0_0 x1.2.1 x1.2.2 x1.1.Kind x1.1.Name x1.1.Text x1.1.N x1.1.L x1.1.Then x1.1.Else)>>=λo2 =>
  some ((Qaa.mk o2.2.2.1 o2.2.2.2.1 o2.2.2.2.2.1 o2.2.2.2.2.2.1 o2.2.2.2.2.2.2.1 o2.2.2.2.2.2.2.2.1 o2.2.2.2.2.2.2.2.2),o2.1,o2.2.1)
def Qib:Nat->(List Qag)->Int->Bool->Option (Qaa×Int×Bool)
 | 0,_,_,_=>none
 | n+1,h0_0,h0_1,h0_2 =>
  Qap 5 h0_0 h0_1 h0_2>>=λx1 =>
  if x1 then
   Qah true h0_0 h0_1 h0_2>>=λx2 =>
   some ((Qaa.mk 1 [] x2.1.Text 0 [] [] []),x2.2.1,x2.2.2)
  else
   Qap 6 h0_0 h0_1 h0_2>>=λx3 =>
   if x3 then
    Qah true h0_0 h0_1 h0_2>>=λx4 =>
    some ((Qaa.mk 2 [] [] x4.1.N [] [] []),x4.2.1,x4.2.2)
   else
    Qaw [116,114,117,101] h0_0 h0_1 h0_2>>=λx5 =>
    if x5 then
     Qah true h0_0 h0_1 h0_2>>=λx6 =>
     some ((Qaa.mk 3 [] [] 1 [] [] []),x6.2.1,x6.2.2)
    else
     Qaw [102,97,108,115,101] h0_0 h0_1 h0_2>>=λx7 =>
     if x7 then
      Qah true h0_0 h0_1 h0_2>>=λx8 =>
      some ((Qaa.mk 3 [] [] 0 [] [] []),x8.2.1,x8.2.2)
     else
      Qaw [115,101,99,114,101,116] h0_0 h0_1 h0_2>>=λx9 =>
      if x9 then
       Qah true h0_0 h0_1 h0_2>>=λx10 =>
       Qap 8 h0_0 x10.2.1 x10.2.2>>=λx11 =>
       Qah x11 h0_0 x10.2.1 x10.2.2>>=λx12 =>
       ( Qap 5 h0_0 x12.2.1 x12.2.2>>=λx14 =>
        if x14 then
         idx h0_0 x12.2.1>>=λx15 =>
         Qlb n x15.Text>>=λx16 =>
         Qah x16 h0_0 x12.2.1 x12.2.2>>=λx17 =>
         some (x17.2.1,x17.2.2,x17.1.Kind,x17.1.Text,x17.1.N,x17.1.From,x17.1.To)
        else
         Qah false h0_0 x12.2.1 x12.2.2>>=λx18 =>
         some (x18.2.1,x18.2.2,x18.1.Kind,x18.1.Text,x18.1.N,x18.1.From,x18.1.To):Option ((Int×Bool×Int×(List UInt8)×Int×Int×Int)))>>=λo13 =>
       Qap 9 h0_0 o13.1 o13.2.1>>=λx19 =>
       Qah x19 h0_0 o13.1 o13.2.1>>=λx20 =>
       some ((Qaa.mk 7 o13.2.2.2.1 [] 0 [] [] []),x20.2.1,x20.2.2)
      else
       Qdk n h0_0 h0_1 h0_2>>=λx21 =>
       Qap 8 h0_0 x21.2.1 x21.2.2>>=λx22 =>
       if(!x22) then
        some ((Qaa.mk 4 x21.1 [] 0 [] [] []),x21.2.1,x21.2.2)
       else
        Qah true h0_0 x21.2.1 x21.2.2>>=λx23 =>
        Qap 9 h0_0 x23.2.1 x23.2.2>>=λx24 =>
        if x24 then
         Qah true h0_0 x23.2.1 x23.2.2>>=λx25 =>
         some ((Qaa.mk 6 x21.1 [] 0 [] [] []),x25.2.1,x25.2.2)
        else
         (Qc6 n h0_0 x21 0 x23.2.1 x23.2.2 [])>>=λo26 =>
         Qap 9 h0_0 o26.1 o26.2.1>>=λx33 =>
         Qah x33 h0_0 o26.1 o26.2.1>>=λx34 =>
         some ((Qaa.mk 6 x21.1 [] 0 o26.2.2 [] []),x34.2.1,x34.2.2)
def Qc6:Nat->(List Qag)->(List UInt8)×Int×Bool->Int->Int->Bool->(List Qaa)->Option ((Int×Bool×(List Qaa)))
 | 0,_,_,_,_,_,_=>none
 | n+1,h0_0,x21,v5,h0_1_,h0_2_,h2_4 =>
  ( if(decide (v5<3)) then
    some (!h0_2_)
   else
    some false:Option (Bool))>>=λo27 =>
  if o27 then
   Qcy n h0_0 h0_1_ h0_2_>>=λx28 =>
   appL 120 h2_4 [x28.1]>>=λx29 =>
   Qap 9 h0_0 x28.2.1 x28.2.2>>=λx30 =>
   if x30 then
    some (x28.2.1,x28.2.2,x29)
   else
    if(decide (v5<2)) then
     Qap 10 h0_0 x28.2.1 x28.2.2>>=λx31 =>
     Qah x31 h0_0 x28.2.1 x28.2.2>>=λx32 =>
     Qc6 n h0_0 x21 (wr (v5+1)) x32.2.1 x32.2.2 x29
    else
     Qc6 n h0_0 x21 (wr (v5+1)) x28.2.1 x28.2.2 x29
  else
   some (h0_1_,h0_2_,h2_4)
end
theorem Quq:∀ n:Nat,(∀ (h0_0:(List Qag)) (h0_1:Int) (h0_2:Bool),leO (Qcy n h0_0 h0_1 h0_2) (Qb9 h0_0 h0_1 h0_2))/\(∀ (h0_0:(List Qag)) (h0_1:Int) (h0_2:Bool),leO (Qib n h0_0 h0_1 h0_2) (Qgv h0_0 h0_1 h0_2))/\(∀ (h0_0:(List Qag)) (x21:(List UInt8)×Int×Bool) (v5:Int) (h0_1_:Int) (h0_2_:Bool) (h2_4:(List Qaa)),leO (Qc6 n h0_0 x21 v5 h0_1_ h0_2_ h2_4) (Qcx h0_0 x21 v5 h0_1_ h0_2_ h2_4)):=by
 intro n
 induction n with
 | zero=>exact⟨λ_ _ _=>leO.no _,λ_ _ _=>leO.no _,λ_ _ _ _ _ _=>leO.no _⟩
 | succ n ih =>
  obtain⟨i0,i1,i2⟩:=ih;refine⟨?_,?_,?_⟩
  .intro h0_0 h0_1 h0_2;rw[Qb9,Qcy]
   repeat' first | (with_reducible exact leO.refl _) | apply i0 | apply i1 | apply i2 | apply Qqy | apply leO.bind | apply leO.ite | intro _ | split
  .intro h0_0 h0_1 h0_2;rw[Qgv,Qib]
   repeat' first | (with_reducible exact leO.refl _) | apply i0 | apply i1 | apply i2 | apply Qs6 | apply Qmq | apply leO.bind | apply leO.ite | intro _ | split
  .intro h0_0 x21 v5 h0_1_ h0_2_ h2_4;rw[Qcx,Qc6]
   repeat' first | (with_reducible exact leO.refl _) | apply i0 | apply i1 | apply i2 | apply leO.bind | apply leO.ite | intro _ | split
theorem Qur(n:Nat):∀ (h0_0:(List Qag)) (h0_1:Int) (h0_2:Bool),leO (Qcy n h0_0 h0_1 h0_2) (Qb9 h0_0 h0_1 h0_2):=(Quq n).1
mutual
def Qcl:Nat->Bool->Bool->(List Qag)->Int->Bool->Option ((List Qaa)×Int×Bool)
 | 0,_,_,_,_,_=>none
 | n+1,p1,p2,h0_0,h0_1,h0_2 =>
  (Qbz n p1 p2 h0_0 [] h0_1 h0_2)>>=λo1 =>
  match o1 with
  | .inl y2 =>
   some (y2.1,y2.2.1,y2.2.2)
  | .inr y3 =>
   some (y3.1,y3.2.1,y3.2.2)
def Qbz:Nat->Bool->Bool->(List Qag)->(List Qaa)->Int->Bool->Option (((List Qaa)×Int×Bool)⊕((List Qaa)×Int×Bool))
 | 0,_,_,_,_,_,_=>none
 | n+1,p1,p2,h0_0,v7,h0_1_,h0_2_ =>
  ( if(!h0_2_) then
    some (decide (h0_1_<(h0_0.length:Int)))
   else
    some false:Option (Bool))>>=λo4 =>
  if o4 then
   Qap 1 h0_0 h0_1_ h0_2_>>=λx5 =>
   if x5 then
    Qah true h0_0 h0_1_ h0_2_>>=λx6 =>
    ( if(decide ((wr ((v7.length:Int)-1)) >= 0)) then
      idx v7 (wr ((v7.length:Int)-1))>>=λx8 =>
      some (x8.Kind==8)
     else
      some false:Option (Bool))>>=λo7 =>
    if o7 then
     idx v7 (wr ((v7.length:Int)-1))>>=λx9 =>
     need (x9.Text.length+x6.1.Text.length<=9223372036854775807)>>=λ_ =>
     idx v7 (wr ((v7.length:Int)-1))>>=λx10 =>
     Qbz n p1 p2 h0_0 (v7.set ((wr ((v7.length:Int)-1)).toNat) (Qaa.mk x10.Kind x10.Name (x9.Text++x6.1.Text) x10.N x10.L x10.Then x10.Else)) x6.2.1 x6.2.2
    else
     appL 120 v7 ([(Qaa.mk 8 [] x6.1.Text 0 [] [] [])])>>=λx11 =>
     Qbz n p1 p2 h0_0 x11 x6.2.1 x6.2.2
   else
    ( if p1 then
      Qb0 [101,110,100] h0_0 h0_1_ h0_2_>>=λx13 =>
      if x13 then
       some true
      else
       if p2 then
        Qb0 [101,108,115,101] h0_0 h0_1_ h0_2_>>=λx14 =>
        some x14
       else
        some false
     else
      if p2 then
       Qb0 [101,108,115,101] h0_0 h0_1_ h0_2_>>=λx15 =>
       some x15
      else
       some false:Option (Bool))>>=λo12 =>
    if o12 then
     some (.inr (v7,h0_1_,h0_2_))
    else
     Qap 2 h0_0 h0_1_ h0_2_>>=λx16 =>
     Qah x16 h0_0 h0_1_ h0_2_>>=λx17 =>
     Qap 3 h0_0 x17.2.1 x17.2.2>>=λx18 =>
     if x18 then
      Qah true h0_0 x17.2.1 x17.2.2>>=λx19 =>
      Qbz n p1 p2 h0_0 v7 x19.2.1 x19.2.2
     else
      Qha n h0_0 x17.2.1 x17.2.2>>=λx20 =>
      appL 120 v7 [x20.1]>>=λx21 =>
      Qbz n p1 p2 h0_0 x21 x20.2.1 x20.2.2
  else
   some (.inl (v7,h0_1_,h0_2_))
def Qha:Nat->(List Qag)->Int->Bool->Option (Qaa×Int×Bool)
 | 0,_,_,_=>none
 | n+1,h0_0,h0_1,h0_2 =>
  Qaw [105,102] h0_0 h0_1 h0_2>>=λx1 =>
  if x1 then
   Qah true h0_0 h0_1 h0_2>>=λx2 =>
   Qcy n h0_0 x2.2.1 x2.2.2>>=λx3 =>
   Qcd h0_0 x3.2.1 x3.2.2>>=λx4 =>
   Qcl n true true h0_0 x4.1 x4.2>>=λx5 =>
   ( Qb0 [101,108,115,101] h0_0 x5.2.1 x5.2.2>>=λx7 =>
    if x7 then
     Qdf [101,108,115,101] h0_0 x5.2.1 x5.2.2>>=λx8 =>
     Qcl n true false h0_0 x8.1 x8.2>>=λx9 =>
     some (x9.2.1,x9.2.2,x9.1)
    else
     some (x5.2.1,x5.2.2,[]):Option ((Int×Bool×(List Qaa))))>>=λo6 =>
   Qdf [101,110,100] h0_0 o6.1 o6.2.1>>=λx10 =>
   some ((Qaa.mk 10 [] [] 0 [x3.1] x5.1 o6.2.2),x10.1,x10.2)
  else
   ( Qaw [101,97,99,104] h0_0 h0_1 h0_2>>=λx12 =>
    if x12 then
     some true
    else
     Qaw [108,101,116] h0_0 h0_1 h0_2>>=λx13 =>
     some x13:Option (Bool))>>=λo11 =>
   if o11 then
    ( Qaw [108,101,116] h0_0 h0_1 h0_2>>=λx15 =>
     if x15 then
      some 12
     else
      some 11:Option (Int))>>=λo14 =>
    Qah true h0_0 h0_1 h0_2>>=λx16 =>
    Qdk n h0_0 x16.2.1 x16.2.2>>=λx17 =>
    ( if(o14==11) then
      Qaw [105,110] h0_0 x17.2.1 x17.2.2>>=λx19 =>
      Qah x19 h0_0 x17.2.1 x17.2.2>>=λx20 =>
      some (x20.2.1,x20.2.2)
     else
      Qap 11 h0_0 x17.2.1 x17.2.2>>=λx21 =>
      Qah x21 h0_0 x17.2.1 x17.2.2>>=λx22 =>
      some (x22.2.1,x22.2.2):Option ((Int×Bool)))>>=λo18 =>
    Qcy n h0_0 o18.1 o18.2>>=λx23 =>
    Qcd h0_0 x23.2.1 x23.2.2>>=λx24 =>
    Qcl n true false h0_0 x24.1 x24.2>>=λx25 =>
    Qdf [101,110,100] h0_0 x25.2.1 x25.2.2>>=λx26 =>
    some ((Qaa.mk o14 x17.1 [] 0 [x23.1] x25.1 []),x26.1,x26.2)
   else
    ( Qaw [117,115,101] h0_0 h0_1 h0_2>>=λx28 =>
     if x28 then
      Qah true h0_0 h0_1 h0_2>>=λx29 =>
      Qdk n h0_0 x29.2.1 x29.2.2>>=λx30 =>
      some (x30.2.1,x30.2.2,13,x30.1)
     else
      some (h0_1,h0_2,9,[]):Option ((Int×Bool×Int×(List UInt8))))>>=λo27 =>
    Qcy n h0_0 o27.1 o27.2.1>>=λx31 =>
    Qcd h0_0 x31.2.1 x31.2.2>>=λx32 =>
    some ((Qaa.mk o27.2.2.1 o27.2.2.2 [] 0 [x31.1] [] []),x32.1,x32.2)
end
theorem Qs7:∀ n:Nat,(∀ (p1:Bool) (p2:Bool) (h0_0:(List Qag)) (h0_1:Int) (h0_2:Bool),leO (Qcl n p1 p2 h0_0 h0_1 h0_2) (Qb1 p1 p2 h0_0 h0_1 h0_2))/\(∀ (p1:Bool) (p2:Bool) (h0_0:(List Qag)) (v7:(List Qaa)) (h0_1_:Int) (h0_2_:Bool),leO (Qbz n p1 p2 h0_0 v7 h0_1_ h0_2_) (Qby p1 p2 h0_0 v7 h0_1_ h0_2_))/\(∀ (h0_0:(List Qag)) (h0_1:Int) (h0_2:Bool),leO (Qha n h0_0 h0_1 h0_2) (Qge h0_0 h0_1 h0_2)):=by
 intro n
 induction n with
 | zero=>exact⟨λ_ _ _ _ _=>leO.no _,λ_ _ _ _ _ _=>leO.no _,λ_ _ _=>leO.no _⟩
 | succ n ih =>
  obtain⟨i0,i1,i2⟩:=ih;refine⟨?_,?_,?_⟩
  .intro p1 p2 h0_0 h0_1 h0_2;rw[Qb1,Qcl]
   repeat' first | (with_reducible exact leO.refl _) | apply i0 | apply i1 | apply i2 | apply leO.bind | apply leO.ite | intro _ | split
  .intro p1 p2 h0_0 v7 h0_1_ h0_2_;rw[Qby,Qbz]
   repeat' first | (with_reducible exact leO.refl _) | apply i0 | apply i1 | apply i2 | apply leO.bind | apply leO.ite | intro _ | split
  .intro h0_0 h0_1 h0_2;rw[Qge,Qha]
   repeat' first | (with_reducible exact leO.refl _) | apply i0 | apply i1 | apply i2 | apply Qur | apply Qmq | apply leO.bind | apply leO.ite | intro _ | split
theorem Qs8(n:Nat):∀ (p1:Bool) (p2:Bool) (h0_0:(List Qag)) (h0_1:Int) (h0_2:Bool),leO (Qcl n p1 p2 h0_0 h0_1 h0_2) (Qb1 p1 p2 h0_0 h0_1 h0_2):=(Qs7 n).1
def Qow:Nat->(List UInt8)->Option ((List Qaa)×Int×Int)
 | 0,_=>none
 | n+1,p0 =>
  Qmp n p0>>=λx1 =>
  if(x1.2.2 != 0) then
   some ([],x1.2.1,x1.2.2)
  else
   Qcl n false false x1.1 0 false>>=λx2 =>
   if x2.2.2 then
    if(decide (x2.2.1<(x1.1.length:Int))) then
     idx x1.1 x2.2.1>>=λx3 =>
     some ([],x3.From,7)
    else
     some ([],(p0.length:Int),7)
   else
    Qg9 n x2.1>>=λx4 =>
    if(decide (x4>1024)) then
     some ([],0,5)
    else
     Qjc n x2.1>>=λx5 =>
     if(decide (x5>12)) then
      some ([],0,8)
     else
      some (x2.1,0,0)
theorem Q8a:∀ n:Nat,(∀ (p0:(List UInt8)),leO (Qow n p0) (Qnv p0)):=by
 intro n
 induction n with
 | zero=>exact λ_=>leO.no _
 | succ n ih =>
  intro p0;rw[Qnv,Qow]
  repeat' first | (with_reducible exact leO.refl _) | apply Q47 | apply Q79 | apply Qaac | apply Qs8 | apply leO.bind | apply leO.ite | intro _ | split
theorem Q8b(n:Nat):∀ (p0:(List UInt8)),leO (Qow n p0) (Qnv p0):=(Q8a n)
theorem Qakd(l:List Qaa)(h1:nns l<=20)(h2:sms l)(h3:allL rngN l):okTs [⟨[109],l⟩]:=by
 refine⟨by simp,λx hx=>?_,λx hx=>?_,λx hx=>?_⟩
 .rw[List.mem_singleton.1 hx]; show nns l<=100; omega
 .rw[List.mem_singleton.1 hx]; exact Qafd Q2a 20 l h1 h2 h3
 .rw[List.mem_singleton.1 hx]; simp
theorem Qaf6(l:List Qaa)(hu:usL l=[])(hi:isP l=true):Qhz [⟨[109],l⟩]=([],0):=by
 have hn:Qfn [109]=true:=by decide
 have hs:∀ s,suc [⟨[109],l⟩] s=[]:=λs=>by
  unfold suc;cases hf:fndT [⟨[109],l⟩] s with
  | none=>rfl
  | some x =>
   have:=List.mem_of_find?_eq_some hf;rw[List.mem_singleton.1 this];show Qlx l=[];rw[Qlx,hu]; rfl
 have h1:ck1 [] [⟨[109],l⟩]=none:=by
  simp[ck1,fitT,hn,hi,fndT]
 have h2:[(⟨[109],l⟩:Qad)].find? (lost [⟨[109],l⟩])=none:=by
  rw[List.find?_cons];have:lost [⟨[109],l⟩] ⟨[109],l⟩=false:=by rw[lost,hs]; rfl
  rw[this]; rfl
 have h3:[(⟨[109],l⟩:Qad)].find? (ring [⟨[109],l⟩])=none:=by
  rw[List.find?_cons];have:ring [⟨[109],l⟩] ⟨[109],l⟩=false:=by
   unfold ring reaP froP;rw[hs];refine decide_eq_false ?_;show [109] ∉ clo [⟨[109],l⟩] 1 [];rw[clo,clo];exact λh=>by cases h
  rw[this]; rfl
 rw[Qhz,h1,h2,h3];rfl
abbrev Qaml:Qaa:=⟨4,[103,114,111,117,112],[],0,[],[],[]⟩
abbrev Qamm:Qaa:=⟨5,[97,108,101,114,116,115],[],0,[Qaml],[],[]⟩
abbrev ta22:List Qaa:=[⟨11,[97],[],0,[Qamm],[⟨9,[],[],0,[⟨6,[103,101,116],[],0,[⟨5,[108,97,98,101,108,115],[],0,[⟨4,[97],[],0,[],[],[]⟩],[],[]⟩,⟨1,[],[120],0,[],[],[]⟩],[],[]⟩],[],[]⟩],[]⟩]
abbrev tb22:List Qaa:=[⟨9,[],[],0,[Qamm],[],[]⟩]
abbrev tc22:List Qaa:=[⟨10,[],[],0,[⟨5,[108,105,110,107],[],0,[Qaml],[],[]⟩],[],[]⟩]
theorem Qake(s:List UInt8)(l:List Qaa)(h:Qow 200 s=some (l,0,0)):Qdt s=some [⟨[109],l⟩]:=by
 rw[Qdt,(Q8b 200 s).h _ h,Qac]
theorem w22:Qm2 [97,108,101,114,116,115]=true/\Qfn [103,114,111,117,112]=true/\Qfn [97]=true/\Qfn [103,101,116]=true/\Qm2 [108,97,98,101,108,115]=true/\Qm2 [108,105,110,107]=true:=by decide
theorem q22:(Q18 [120]).2=true:=by
 have:=(Qaic [120] (by decide)).1;rw[Q18,this];decide +kernel
theorem Qakf:isP ta22=true:=by
 obtain⟨h1,h2,h3,h4,h5,h6⟩:=w22;simp[isP,dps,dp,nns,nn,Qbl,Qjh,Qmf,Qc2,zl,h1,h2,h3,h4,h5,q22,Q4h]
theorem Qakg:isP tb22=true:=by
 obtain⟨h1,h2,h3,h4,h5,h6⟩:=w22;simp[isP,dps,dp,nns,nn,Qbl,Qjh,Qmf,Qc2,zl,h1,h2,Q4h]
theorem Qakh:isP tc22=true:=by
 obtain⟨h1,h2,h3,h4,h5,h6⟩:=w22;simp[isP,dps,dp,nns,nn,Qbl,Qjh,Qmf,Qc2,zl,h6,h2,Q4h]
theorem Qamn:okTs [⟨[109],ta22⟩]:=Qakd _ (by simp[nns,nn]) (by simp[sms,sm]) (by simp[allL,allN,rngN])
theorem Qamo:okTs [⟨[109],tb22⟩]:=Qakd _ (by simp[nns,nn]) (by simp[sms,sm]) (by simp[allL,allN,rngN])
theorem Qamp:okTs [⟨[109],tc22⟩]:=Qakd _ (by simp[nns,nn]) (by simp[sms,sm]) (by simp[allL,allN,rngN])
theorem Qaki:chkT [⟨[109],ta22⟩] [109] []=([],0):=by
 have hb:Q4w [⟨[109],ta22⟩] [] [109]=none:=by decide +kernel
 rw[chkT,Qaf6 _ (by simp[usL,usN]) Qakf,hb];rfl
theorem Qakj:chkT [⟨[109],tb22⟩] [109] []=([109],201):=by
 have hb:Q4w [⟨[109],tb22⟩] [] [109]=some [109]:=by decide +kernel
 rw[chkT,Qaf6 _ (by simp[usL,usN]) Qakg,hb];rfl
theorem Qakk:chkT [⟨[109],tc22⟩] [109] []=([109],201):=by
 have hb:Q4w [⟨[109],tc22⟩] [] [109]=some [109]:=by decide +kernel
 rw[chkT,Qaf6 _ (by simp[usL,usN]) Qakh,hb];rfl
theorem Qakl:Qdj=some true:=by
 rw[Qdj,Qake _ ta22 (by kernel_rfl),Qac,Qum Qamn _ _ (by simp),Qac,Qake _ tb22 (by kernel_rfl),Qac,Qum Qamo _ _ (by simp),Qac,Qake _ tc22 (by kernel_rfl),Qac,Qum Qamp _ _ (by simp),Qac,Qaki,Qakj,Qakk];rfl
abbrev itE:Qaa:=⟨4,[105,116],[],0,[],[],[]⟩
def nmW(j:Nat):Nm:=[UInt8.ofNat (97+j)]
abbrev useW(s:Nm)(x:Qaa):Qaa:=⟨13,s,[],0,[x],[],[]⟩
def tW:Nat->Qad
 | 0=>⟨nmW 0,[⟨9,[],[],0,[itE],[],[]⟩]⟩
 | j+1=>⟨nmW (j+1),[useW (nmW j) itE,useW (nmW j) itE]⟩
def chW(m:Nat):List Qad:=(List.range (m+1)).map tW
theorem Qs9(j:Nat):(tW j).Name=nmW j:=by cases j<;>rfl
theorem Qahy(m:Nat):chW (m+1)=chW m++[tW (m+1)]:=by
 unfold chW;rw[List.range_succ,List.map_append]; rfl
theorem Qaf7(m:Nat):(chW m).length=m+1:=by simp[chW]
theorem nmWs(j:Nat)(hj:j<=20):b2s [IntKind.u8.wrap (wr (97+(j:Int)))]=some (nmW j):=by
 have e1:wr (97+(j:Int))=97+(j:Int):=Qff (by omega) (by omega);have e2:IntKind.u8.wrap (97+(j:Int))=((97+j:Nat):Int):=by simp[IntKind.wrap,IntKind.signed,IntKind.bits]; omega
 rw[e1,e2];exact Q7l [97+j] (by simp; omega)
theorem Qamq(p0:Int)(p1:Bool)(m:Nat)(hm:m<15)(hp:wr (1+((wr p0).tmod 15))=((m+1:Nat):Int)):∀ d j,j+d=m->Qbi p0 p1 (chW j) ((j+1:Nat):Int)=some (chW m)
 | 0,j,h=>by
  have:j=m:=by omega
  subst this;rw[Qbi,hp,ltI,decide_eq_false (by omega),if_neg (by simp)]
 | d+1,j,h=>by
  have e1:=nmWs (j+1) (by omega);have e2:wr (wr (97+((j+1:Nat):Int))-1)=wr (97+(j:Int)):=by
   have a:wr (97+((j+1:Nat):Int))=97+((j+1:Nat):Int):=Qff (by omega) (by omega);rw[a];congr 1;omega
  have e3:=nmWs j (by omega);have hl:=Qaf7 j;rw[Qbi,hp,ltI,decide_eq_true (by omega),if_pos rfl,e2,e3,Qac,e1,Qac,Qfg (by simp; omega) (by simp; omega),Qac,Qa0 (show j+1<9223372036854775807 by omega)];have:=Qamq p0 p1 m hm hp d (j+1) (by omega);rw[Qahy] at this;exact this
abbrev rtW:Nm:=[114,111,111,116]
abbrev kW(w:Bool):Int:=if w then 6 else 2
def eW(w:Bool):Qaa:=if w then⟨4,[103,114,111,117,112],[],0,[],[],[]⟩ else⟨2,[],[],1,[],[],[]⟩
def Qvg(m:Nat)(w:Bool):Qad:=⟨rtW,[useW (nmW m) (eW w)]⟩
def Qgj(m:Nat)(w:Bool):List Qad:=chW m++[Qvg m w]
theorem memW{m:Nat}{w:Bool}{x:Qad}(h:x ∈ Qgj m w):(∃ j,j<=m/\x=tW j)\/x=Qvg m w:=by
 rcases List.mem_append.1 h with h | h
 .obtain⟨j,hj,rfl⟩:=List.mem_map.1 h;rw[List.mem_range] at hj;exact .inl ⟨j,by omega,rfl⟩
 .exact .inr (List.mem_singleton.1 h)
theorem inW{m j:Nat}(w:Bool)(h:j<=m):tW j ∈ Qgj m w:=List.mem_append_left _ (List.mem_map.2 ⟨j,List.mem_range.2 (by omega),rfl⟩)
theorem Qamr(m:Nat)(w:Bool):Qvg m w ∈ Qgj m w:=List.mem_append_right _ (List.mem_singleton.2 rfl)
theorem Qaf8:∀ i<16,∀ j<16,nmW i=nmW j->i=j:=by decide +kernel
theorem Qaf9:∀ i<16,Qfn (nmW i)=true:=by decide +kernel
theorem Q8c{m:Nat}(hm:m<15)(w:Bool):(nms (Qgj m w)).Nodup:=by
 have e:nms (Qgj m w)=(List.range (m+1)).map nmW++[rtW]:=by
  unfold Qgj chW;rw[nms,List.map_append,List.map_map];congr 1;exact List.map_congr_left λj _=>Qs9 j
 rw[e,List.nodup_append];refine⟨?_,by simp,?_⟩
 .rw[List.Nodup,List.pairwise_map];refine List.Pairwise.imp_of_mem ?_ (List.nodup_range (n:=m+1));intro a b ha hb hne he;rw[List.mem_range] at ha hb;exact hne (Qaf8 a (by omega) b (by omega) he)
 .intro a ha b hb he;obtain⟨j,-,rfl⟩:=List.mem_map.1 ha;rw[List.mem_singleton.1 hb] at he;simp[nmW] at he
theorem okW1(x:Qad)(h0:x.Name.length<=4)(h1:nns x.L<=20)(h2:sms x.L)(h3:allL rngN x.L):nns x.L<=100/\allL okNd x.L/\x.Name.length<=100:=⟨by omega,Qafd Q2a 20 x.L h1 h2 h3,by omega⟩
theorem okWx{m:Nat}{w:Bool}{x:Qad}(h:x ∈ Qgj m w):nns x.L<=100/\allL okNd x.L/\x.Name.length<=100:=by
 rcases memW h with ⟨j,hj,rfl⟩ | rfl
 .cases j with
  | zero=>exact okW1 _ (by simp[tW,nmW]) (by simp[tW,nns,nn]) (by simp[tW,sms,sm]) (by simp[tW,allL,allN,rngN])
  | succ j=>exact okW1 _ (by simp[tW,nmW]) (by simp[tW,nns,nn]) (by simp[tW,sms,sm,nmW]) (by simp[tW,allL,allN,rngN])
 .cases w<;>exact okW1 _ (by simp[Qvg]) (by simp[Qvg,nns,nn,eW]) (by simp[Qvg,sms,sm,nmW,eW]) (by simp[Qvg,allL,allN,rngN,eW])
theorem okW{m:Nat}(hm:m<15)(w:Bool):okTs (Qgj m w) :=
 ⟨by simp[Qgj,chW]; omega,λ_ h=>(okWx h).1,λ_ h=>(okWx h).2.1,λ_ h=>(okWx h).2.2⟩
theorem fitW{m:Nat}(hm:m<15)(w:Bool){x:Qad}(h:x ∈ Qgj m w):fitT x=true:=by
 have hi:Qfn [105,116]=true:=by decide
 have hr:Qfn rtW=true:=by decide
 have hg:Qfn [103,114,111,117,112]=true:=by decide
 rcases memW h with ⟨j,hj,rfl⟩ | rfl
 .have hn:=Qaf9 j (by omega);cases j with
  | zero=>simp[fitT,tW,hn,isP,dps,dp,nns,nn,Qbl,Qjh,Qmf,Qc2,zl,hi,Q4h]
  | succ j =>
   have hn2:=Qaf9 j (by omega);simp[fitT,tW,hn,hn2,isP,dps,dp,nns,nn,Qbl,Qjh,Qmf,Qc2,zl,hi,Q4h]
 .have hn:=Qaf9 m (by omega);cases w<;>simp[fitT,Qvg,eW,hn,hr,hg,isP,dps,dp,nns,nn,Qbl,Qjh,Qmf,Qc2,zl,Q4h]
theorem sucW{m:Nat}(hm:m<15)(w:Bool){j:Nat}(hj:j<=m){u:Nm}(h:u ∈ suc (Qgj m w) (nmW j)):∃ i,i<j/\u=nmW i:=by
 have:=Q9t (Q8c hm w) (inW w hj);rw[Qs9] at this;rw[this,Qlx,Qew] at h;cases j with
 | zero=>simp[tW,usL,usN] at h
 | succ j =>
  simp[tW,usL,usN] at h;exact⟨j,by omega,h⟩
theorem sucR{m:Nat}(hm:m<15)(w:Bool){u:Nm}(h:u ∈ suc (Qgj m w) rtW):u=nmW m:=by
 have:=Q9t (Q8c hm w) (Qamr m w);have e:(Qvg m w).Name=rtW:=rfl;rw[e] at this;rw[this,Qlx,Qew] at h;simpa [Qvg,usL,usN] using h
theorem fndW{m j:Nat}(w:Bool)(h:j<=m):(fndT (Qgj m w) (nmW j)).isSome=true:=Qom.2 (List.mem_map.2 ⟨tW j,inW w h,Qs9 j⟩)
theorem Qams{m:Nat}(hm:m<15)(w:Bool):Qhz (Qgj m w)=([],0):=by
 have hl:¬ (Qgj m w).length>16:=by simp[Qgj,chW]; omega
 have h1:ck1 [] (Qgj m w)=none:=Qabp _ [] (Q8c hm w) λx hx=>fitW hm w hx
 have h2:(Qgj m w).find? (lost (Qgj m w))=none:=by
  rw[List.find?_eq_none];intro x hx hlo;unfold lost at hlo;obtain⟨u,hu,hq⟩:=List.any_eq_true.1 hlo;rcases memW hx with ⟨j,hj,rfl⟩ | rfl
  .rw[Qs9] at hu;obtain⟨i,hi,rfl⟩:=sucW hm w hj hu;rw[fndW w (by omega)] at hq;cases hq
  .rw[sucR hm w hu,fndW w (Nat.le_refl m)] at hq;cases hq
 have h3:(Qgj m w).find? (ring (Qgj m w))=none:=by
  rw[List.find?_eq_none];intro x hx hri;unfold ring at hri;have hri:=of_decide_eq_true hri;rcases memW hx with ⟨j,hj,rfl⟩ | rfl
  .rw[Qs9] at hri;obtain⟨i,hi,he⟩:=Qns (C:=λs=>∃ i,i<j/\s=nmW i) (λs ⟨i,hi,hs⟩ u hu=>by
    rw[hs] at hu;obtain⟨k,hk,rfl⟩:=sucW hm w (by omega) hu;exact⟨k,by omega,rfl⟩) (λu hu=>sucW hm w hj hu) _ hri
   have:=Qaf8 j (by omega) i (by omega) he;omega
  .obtain⟨i,hi,he⟩:=Qns (C:=λs=>∃ i,i<=m/\s=nmW i) (λs ⟨i,hi,hs⟩ u hu=>by
    rw[hs] at hu;obtain⟨k,hk,rfl⟩:=sucW hm w hi hu;exact⟨k,by omega,rfl⟩) (λu hu=>⟨m,Nat.le_refl m,sucR hm w hu⟩) _ hri
   simp[Qvg,nmW] at he
 rw[Qhz,if_neg hl,h1,h2,h3]
abbrev ansW(w:Bool):Option Nm:=if w then some [97] else none
theorem Qamt{m j:Nat}(hm:m<15)(w:Bool)(h:j<=m):(Qhl (Qgj m w) (nmW j)).1=(tW j).L:=by
 have:=Q4j (Q8c hm w) (inW w h);rw[Qs9] at this;rw[Qhl,this]
theorem Qamu{m:Nat}(hm:m<15)(w:Bool):Qhl (Qgj m w) rtW=((Qvg m w).L,true):=by
 have:=Q4j (Q8c hm w) (Qamr m w);have e:(Qvg m w).Name=rtW:=rfl;rw[e] at this;rw[Qhl,this]
theorem Qamv(U:Nm->Int->Option Nm)(s0:Nm)(s:Nm)(x:Qaa)(bs:List Qak)(k:Int)(h:kdN x bs []=(k,true)):stT U [] s0 (useW s x) bs=U s k:=by
 have hh:hdK [x] bs []=(k,true):=h;rw[Q76];show(if((13:Int)==8)=true then none else if badK 13 (hdK [x] bs [])=true then some s0 else(blT U [] s0 [] _).or ((blT U [] s0 [] bs).or (if((13:Int)==13)=true then U s (hdK [x] bs []).1 else none)))=_;rw[hh,blT,blT];rfl
theorem uW{m:Nat}(hm:m<15)(w:Bool)(hf:fine (Qgj m w)):∀ j,j<=m->uT (Qgj m w) [] (nmW j) (kW w)=ansW w
 | 0,h=>by
  rw[Qaf2 hf,Qamt hm w h];cases w<;>rfl
 | j+1,h=>by
  have ih:=uW hm w hf j (by omega);have hk:kdN itE (itK (kW w)) []=(kW w,true):=by cases w<;>rfl
  have hs:=Qamv (uT (Qgj m w) []) (nmW (j+1)) (nmW j) itE (itK (kW w)) (kW w) hk;rw[Qaf2 hf,Qamt hm w h];show blT (uT (Qgj m w) []) [] (nmW (j+1)) [useW (nmW j) itE,useW (nmW j) itE] (itK (kW w))=_;rw[blT,blT,blT,hs,ih];cases w<;>rfl
theorem chkW{m:Nat}(hm:m<15)(w:Bool):chkT (Qgj m w) rtW []=if w then([97],201) else([],0):=by
 have hc:=Qams hm w;obtain⟨hf,-⟩:=Qvb (l:=Qgj m w) (by rw[hc]);have hs:(fndT (Qgj m w) rtW).isSome=true:=by rw[<-Q2c,Qamu hm w]
 have hk:kdN (eW w) grpK []=(kW w,true):=by cases w<;>rfl
 have hr:Q4w (Qgj m w) [] rtW=ansW w:=by
  rw[Q4w,Qamu hm w];show blT (uT (Qgj m w) []) [] rtW [useW (nmW m) (eW w)] grpK=_;rw[blT,blT,Qamv _ rtW (nmW m) (eW w) grpK (kW w) hk,uW hm w hf m (Nat.le_refl m)];cases w<;>rfl
 rw[chkT,hc,hs,hr];cases w<;>rfl
theorem Q8d(p0:Int)(p1:Bool)(h0:0<=p0)(h1:p0<=255):Qc4 p0 p1=some true:=by
 obtain⟨m,hm,hp⟩:∃ m:Nat,m<15/\wr (1+((wr p0).tmod 15))=((m+1:Nat):Int):=by
  have e:wr p0=p0:=Qff (by omega) (by omega);have e2:p0.tmod 15=p0 % 15:=Int.tmod_eq_emod_of_nonneg h0;refine⟨(p0 % 15).toNat,by omega,?_⟩;rw[e,e2,Qff (by omega) (by omega)];omega
 have hL:=Qamq p0 p1 m hm hp m 0 (by omega);have e0:chW 0=[⟨[97],[⟨9,[],[],0,[itE],[],[]⟩]⟩]:=rfl;rw[e0,show((0+1:Nat):Int)=1 from rfl] at hL;have hl:=Qaf7 m;have hi:idx (chW m) (wr (((chW m).length:Int)-1))=some (tW m):=by
  rw[hl,Qff (by omega) (by omega),show(((m+1:Nat):Int)-1)=(m:Int) by omega,Qax];unfold chW;rw[List.getElem?_map,List.getElem?_range (by omega)];rfl
 have hf:∀ w,appL 40 (chW m) [⟨rtW,[⟨13,(tW m).Name,[],0,[eW w],[],[]⟩]⟩]=some (Qgj m w):=λw=>by
  rw[Qfg (by simp; omega) (by simp; omega),Qs9]; rfl
 have hz:([]:List Nm).length<=1000:=by simp
 rw[Qc4,hL,Qac,Qakl];cases p1 with
 | true =>
  have h2:=hf true;unfold eW at h2;have h3:=Qum (okW hm true) rtW [] hz;rw[chkW hm true] at h3;simp only[if_true] at h2;simp only[if_true,Qac,hi,h2,h3,beq_self_eq_true]
 | false =>
  have h2:=hf false;unfold eW at h2;have h3:=Qum (okW hm false) rtW [] hz;rw[chkW hm false] at h3;simp only[Bool.false_eq_true,if_false] at h2;simp only[Bool.false_eq_true,if_false,Qac,hi,h2,h3,beq_self_eq_true,if_true]
end Go.Proofs.YtfgegilhjlnohaaGreat
end
noncomputable section
namespace Go.Proofs.YtfgegilhjlnohaaGreat
open Go.ChangeShapes Go.WideShapes Go.ChangeAt Go.RowKit
theorem Tryz.own:ownKnob Tryz.prog.godebug=none:=by kernel_rfl
end Go.Proofs.YtfgegilhjlnohaaGreat
end

noncomputable section
namespace Go.Proofs.YtfgegilhjlnohaaGreat
open Go.ChangeShapes Go.WideShapes Go.ChangeAt Go.RowKit
inductive Ty (P:Program):TypeId->List V->Prop where
 | int (t:TypeId) (k:IntKind) (n:Int):P.underlying t=some (.int k)->(Lit.int k n).wf=true->Ty P t [.v (.int k n)]
 | bool (t:TypeId) (b:Bool):P.underlying t=some .bool->Ty P t [.v (.bool b)]
 | str (t:TypeId) (s:ByteArray):P.underlying t=some .string->s.size<=maxLen->Ty P t [.v (.string s)]
 | slice (t e:TypeId) (es:List (List V)):P.underlying t=some (.slice e)->(∀ x ∈ es,Ty P e x)->(∀ x ∈ es,x.length=P.cellsOf e)->es.length<=maxLen->Ty P t [.sl false es]
 | struct (t:TypeId) (fs:Array Field) (xs:List V):P.underlying t=some (.struct fs)->xs.length=P.cellsOf t->(∀ f ∈ fs.toList,Ty P f.type ((xs.drop f.offset).take (P.cellsOf f.type)))->Ty P t xs
def Q48(P:Program):List Field->Nat->Nat->Bool
 | [],off,n=>off==n
 | f::r,off,n=>f.offset==off&&Q48 P r (off+P.cellsOf f.type) n
def Frag(P:Program)(ts:List TypeId):Bool:=ts.all λt=>match P.underlying t with
 | some (.int _) | some .bool | some .string=>true
 | some (.slice e)=>ts.contains e&&decide (0<P.cellsOf e)
 | some (.struct fs)=>fs.toList.all (λf=>ts.contains f.type)&&Q48 P fs.toList 0 (P.cellsOf t)
 | _=>false
def CRel(w:World)(xs:List V)(cs:List Value):Prop:=xs.length=cs.length/\∀ (j:Nat) x u,xs[j]? = some x->cs[j]? = some u->VRel (λ_ _=>True) w x u/\u.oneCell' = true
section
variable {H:Type} {enc:TypeId×Value->H} {P:Program} {w:World} {base:Nat} {spare:Nat->Bool} {held:Bool}
theorem CRel.one{x:V}{u:Value}(h:VRel (λ_ _=>True) w x u)(h1:u.oneCell' = true):CRel w [x] [u] :=
 ⟨rfl,λj y v hy hv=>by
  cases j with
  | zero=>simp at hy hv; subst hy; subst hv; exact⟨h,h1⟩
  | succ j=>simp at hy⟩
theorem CRel.append{xs ys:List V}{cs ds:List Value}(h:CRel w xs cs)(k:CRel w ys ds):CRel w (xs++ys) (cs++ds):=by
 refine⟨by simp[h.1,k.1],λj x u hx hu=>?_⟩;by_cases hj:j<xs.length
 .rw[List.getElem?_append_left hj] at hx;rw[List.getElem?_append_left (by rw[<-h.1]; exact hj)] at hu;exact h.2 j x u hx hu
 .rw[List.getElem?_append_right (by omega)] at hx;rw[List.getElem?_append_right (by have:=h.1; omega),<-h.1] at hu;exact k.2 _ x u hx hu
theorem Q49{α β : Type}{f : α -> Option β}:∀ {l:List α} {r:List β},l.mapM f=some r->r.length=l.length/\∀ (i:Nat) a,l[i]? = some a->∃ b,r[i]? = some b/\f a=some b
 | [],r,h=>by simp at h; subst h; exact⟨rfl,λi a h=>by simp at h⟩
 | x::l,r,h=>by
  simp only[List.mapM_cons,Option.bind_eq_bind,Option.bind_eq_some_iff,Option.pure_def,Option.some.injEq] at h;obtain⟨b,hb,bs,hbs,rfl⟩:=h;obtain⟨h1,h2⟩:=Q49 hbs;refine⟨by simp[h1],λi a ha=>?_⟩;cases i with
  | zero=>simp at ha; subst ha; exact⟨b,rfl,hb⟩
  | succ i=>simp at ha; obtain⟨b', hb', hf⟩:=h2 i a ha; exact⟨b', by simpa using hb', hf⟩
theorem Qadd{ts:List TypeId}(hF:Frag P ts=true){t e:TypeId}(ht:t ∈ ts)(hu:P.underlying t=some (.slice e)):e ∈ ts/\0<P.cellsOf e:=by
 unfold Frag at hF;rw[List.all_eq_true] at hF;have:=hF t ht;rw[hu] at this;simpa using this
theorem Qaaf{ts:List TypeId}(hF:Frag P ts=true){t:TypeId}{fs:Array Field}(ht:t ∈ ts)(hu:P.underlying t=some (.struct fs)):(∀ f ∈ fs.toList,f.type ∈ ts)/\Q48 P fs.toList 0 (P.cellsOf t)=true:=by
 unfold Frag at hF;rw[List.all_eq_true] at hF;have:=hF t ht;rw[hu] at this;simp only[Bool.and_eq_true,List.all_eq_true,List.contains_iff_mem] at this;exact this
theorem Q2f{ts:List TypeId}(hF:Frag P ts=true){t:TypeId}(ht:t ∈ ts):(∃ k,P.underlying t=some (.int k))\/P.underlying t=some .bool\/P.underlying t=some .string\/(∃ e,P.underlying t=some (.slice e))\/∃ fs,P.underlying t=some (.struct fs):=by
 unfold Frag at hF;rw[List.all_eq_true] at hF;have:=hF t ht;split at this
 .rename_i k hu; exact .inl ⟨k,hu⟩
 .rename_i hu; exact .inr (.inl hu)
 .rename_i hu; exact .inr (.inr (.inl hu))
 .rename_i e hu; exact .inr (.inr (.inr (.inl ⟨e,hu⟩)))
 .rename_i fs hu; exact .inr (.inr (.inr (.inr ⟨fs,hu⟩)))
 .cases this
theorem Qabw:∀ (fs:List Field) (off n:Nat),Q48 P fs off n=true->off<=n
 | [],off,n,h=>by simp[Q48] at h; omega
 | f::r,off,n,h=>by
  simp only[Q48,Bool.and_eq_true] at h;have:=Qabw r _ n h.2;omega
theorem Qv2{n fuel:Nat}{ts:List TypeId}{cs:List Value}(hl:cs.length=n)(IH:∀ t ∈ ts,∀ cs x,DataW.trod enc P w base spare held fuel t cs=some x->∃ xs,CRel w xs cs/\Ty P t xs) :
  ∀ (fs:List Field) (off:Nat),(∀ f ∈ fs,f.type ∈ ts)->Q48 P fs off n=true->(∀ f ∈ fs,∃ x,DataW.trod enc P w base spare held fuel f.type ((cs.drop f.offset).take (P.cellsOf f.type))=some x) ->
   ∃ xs,CRel w xs (cs.drop off)/\∀ f ∈ fs,off<=f.offset/\Ty P f.type ((xs.drop (f.offset-off)).take (P.cellsOf f.type))
 | [],off,_,ht,_=>by
  have:off=n:=by simpa [Q48] using ht
  subst this;exact⟨[],⟨by simp[hl],λj x u h=>by simp at h⟩,λf h=>by cases h⟩
 | f::r,off,hm,ht,hx=>by
  simp only[Q48,Bool.and_eq_true,beq_iff_eq] at ht;obtain⟨rfl,ht⟩:=ht;obtain⟨x,hfx⟩:=hx f (by simp);obtain⟨xs,h1,h2⟩:=IH f.type (hm f (by simp)) _ x hfx;obtain⟨ys,k1,k2⟩:=Qv2 hl IH r _ (λg hg=>hm g (by simp[hg])) ht (λg hg=>hx g (by simp[hg]));have hxl:xs.length=P.cellsOf f.type:=by
   have e1:=h1.1;have e2:f.offset+P.cellsOf f.type<=n:=Qabw r _ n ht;rw[e1]; simp; omega
  refine⟨xs++ys,?_,λg hg=>?_⟩
  .have e:cs.drop f.offset=(cs.drop f.offset).take (P.cellsOf f.type)++cs.drop (f.offset+P.cellsOf f.type):=by
    rw[<-List.drop_drop,List.take_append_drop]
   rw[e]; exact h1.append k1
  .rcases List.mem_cons.1 hg with rfl | hg
   .refine⟨Nat.le_refl _,?_⟩;rw[Nat.sub_self,List.drop_zero,<-hxl,List.take_left']
    .exact h2
    .rfl
   .obtain⟨g1,g2⟩:=k2 g hg;refine⟨by omega,?_⟩;rw[List.drop_append,List.drop_eq_nil_of_le (by omega),List.nil_append];have e3:g.offset-f.offset-xs.length=g.offset-(f.offset+P.cellsOf f.type):=by omega
    rw[e3]; exact g2
theorem Qaga{a:Addr}{n:Nat}{cs:List Value}(h:w.cells? base a n=some cs):cs.length=n/\∀ (k:Nat) u,cs[k]? = some u->w.cell? (a.add k)=some u:=by
 unfold World.cells? at h;split at h
 .obtain⟨h1,h2⟩:=Q49 h;refine⟨by simpa using h1,λk u hu=>?_⟩;have hk:k<n:=by have:=(List.getElem?_eq_some_iff.1 hu).1; simpa [h1] using this
  obtain⟨b,hb,hf⟩:=h2 k k (by rw[List.getElem?_range hk]);rw[hu] at hb; cases hb; exact hf
 .cases h
theorem Qaag{ts:List TypeId}(hF:Frag P ts=true):∀ (fuel:Nat) (t:TypeId),t ∈ ts->∀ cs x,DataW.trod enc P w base spare held fuel t cs=some x->∃ xs,CRel w xs cs/\Ty P t xs
 | 0,t,ht,cs,x,h=>by simp[DataW.trod] at h
 | fuel+1,t,ht,cs,x,h=>by
  rcases Q2f hF ht with ⟨k,hu⟩ | hu | hu | ⟨e,hu⟩ | ⟨fs,hu⟩
  .unfold DataW.trod at h;rw[hu] at h;split at h<;>rename_i hx<;>first | (cases hx; done) | skip
   all_goals first | (simp at hx; done) | skip
   .rename_i k1 k2 n;cases hx;split at h
    .rename_i hk;obtain⟨rfl,hw⟩:=hk;exact⟨_,.one (.v _ rfl) rfl,.int t _ n hu hw⟩
    .cases h
   .cases h
  .unfold DataW.trod at h;rw[hu] at h;split at h<;>rename_i hx<;>first | (cases hx; done) | skip
   all_goals first | (simp at hx; done) | skip
   .rename_i b;exact⟨_,.one (.v _ rfl) rfl,.bool t b hu⟩
   .cases h
  .unfold DataW.trod at h;rw[hu] at h;split at h<;>rename_i hx<;>first | (cases hx; done) | skip
   all_goals first | (simp at hx; done) | skip
   .rename_i s;split at h
    .rename_i hs;exact⟨_,.one (.v _ rfl) rfl,.str t s hu hs⟩
    .cases h
   .cases h
  .obtain⟨he,hz⟩:=Qadd hF ht hu;rcases DataW.trod_slice hu h with ⟨rfl,-⟩ | ⟨a,len,cap,elems,rest,n,hn,rfl,rfl,hb,hl,hm,hlen,hel,hsp,hns⟩
   .exact⟨[.sl false []],.one (Q2h (u :=.slice none 0 0) (x :=.sl true []) rfl |>.1 |> Q59) rfl,.slice t e [] hu (λx hx=>by cases hx) (λx hx=>by cases hx) (Nat.zero_le _)⟩
   .have hn' : n=fuel:=by omega
    subst hn';have hch:∀ i,∃ p:List V×List Value,i<len->p.2.length=P.cellsOf e/\(∀ (k:Nat) u,p.2[k]? = some u->w.cell? ((a.add (i*P.cellsOf e)).add k)=some u)/\CRel w p.1 p.2/\Ty P e p.1:=λi=>by
     by_cases hi:i<len
     .have h1:=hel i hi;have h2:elems[i]? = some elems[i]:=List.getElem?_eq_getElem (by omega);rw[h2] at h1;obtain⟨ci,hc,htr⟩:=Option.bind_eq_some_iff.1 h1;obtain⟨c1,c2⟩:=Qaga hc;obtain⟨xs,x1,x2⟩:=Qaag hF n e he ci _ htr;exact⟨(xs,ci),λ_=>⟨c1,c2,x1,x2⟩⟩
     .exact⟨([],[]),λh=>absurd h hi⟩
    obtain⟨f,hf⟩:=Classical.axiomOfChoice hch;have hes:∀ (i:Nat) x,((List.range len).map λi=>(f i).1)[i]? = some x->i<len/\x=(f i).1:=λi x hx=>by
     rw[List.getElem?_map] at hx;obtain⟨j,hj,rfl⟩:=Option.map_eq_some_iff.1 hx;obtain⟨h1,h2⟩:=List.getElem?_eq_some_iff.1 hj;simp at h1 h2;subst h2;exact⟨h1,rfl⟩
    have hmem:∀ x ∈ (List.range len).map λi=>(f i).1,∃ i,i<len/\x=(f i).1:=λx hx=>by
     obtain⟨i,hi,rfl⟩:=List.mem_map.1 hx;exact⟨i,by simpa using hi,rfl⟩
    have hxl:∀ i,i<len->(f i).1.length=P.cellsOf e:=λi hi=>by rw[(hf i hi).2.2.1.1,(hf i hi).1]
    refine⟨[.sl false ((List.range len).map λi=>(f i).1)],.one ?_ rfl,.slice t e _ hu (λx hx=>?_) (λx hx=>?_) (by simp; omega)⟩
    .have hlen2:((List.range len).map λi=>(f i).1).length=len:=by simp
     have key:∀ (i k:Nat),i<len->k<P.cellsOf e->a=⟨a.block,a.off,none⟩/\∃ u,(f i).2[k]? = some u/\w.cell? ⟨a.block,a.off+i*P.cellsOf e+k,none⟩=some u:=λi k hi hk=>by
      have ha:a=⟨a.block,a.off,none⟩:=by
       have h00:=hf 0 (by omega);obtain⟨v0,hv0⟩:∃ v,(f 0).2[0]? = some v:=⟨_,List.getElem?_eq_getElem (by rw[h00.1]; exact hz)⟩;have h0:=h00.2.1 0 v0 hv0;have e0:(a.add (0*P.cellsOf e)).add 0=a:=by simp[Addr.add]
       rw[e0] at h0;unfold World.cell? at h0;split at h0
       .split at h0
        .cases h0
        .rename_i hsn;cases hspot:a.spot with
         | none=>cases a; simp at hspot; subst hspot; rfl
         | some q=>rw[hspot] at hsn; simp at hsn
       .cases h0
      have hk2:k<(f i).2.length:=by rw[(hf i hi).1]; exact hk
      refine⟨ha,(f i).2[k],List.getElem?_eq_getElem hk2,?_⟩;have:=(hf i hi).2.1 k _ (List.getElem?_eq_getElem hk2);rw[ha,Qrj,Qrj] at this;exact this
     have dm:∀ (i k:Nat),k<P.cellsOf e->(i*P.cellsOf e+k) / P.cellsOf e=i/\(i*P.cellsOf e+k) % P.cellsOf e=k:=λi k hk=>by
      constructor
      .rw[Nat.mul_comm,Nat.mul_add_div hz,Nat.div_eq_of_lt hk,Nat.add_zero]
      .rw[Nat.mul_comm,Nat.mul_add_mod,Nat.mod_eq_of_lt hk]
     have:=VRel.sl (C:=λ_ _=>True) (w:=w) false ((List.range len).map λi=>(f i).1) (some a) cap (P.cellsOf e) a.block a.off (λj=>(f (j / P.cellsOf e)).2.getD (j % P.cellsOf e) undef) (by rw[hlen2]; exact hl) hm (λh=>by cases h)
      (λx hx=>by obtain⟨i,hi,rfl⟩:=hmem x hx; exact hxl i hi) (λh=>by cases h)
      (λi k x c hx hc=>by
       obtain⟨hi,rfl⟩:=hes i x hx;have hk:k<P.cellsOf e:=by rw[<-hxl i hi]; exact(List.getElem?_eq_some_iff.1 hc).1
       obtain⟨ha,u,hu1,hu2⟩:=key i k hi hk;obtain⟨d1,d2⟩:=dm i k hk;simp only[d1,d2,List.getD,hu1,Option.getD_some];exact⟨congrArg some ha,trivial,hu2,((hf i hi).2.2.1.2 k c u hc hu1).2⟩)
      (λi k x c hx hc=>by
       obtain⟨hi,rfl⟩:=hes i x hx;have hk:k<P.cellsOf e:=by rw[<-hxl i hi]; exact(List.getElem?_eq_some_iff.1 hc).1
       obtain⟨ha,u,hu1,hu2⟩:=key i k hi hk;obtain⟨d1,d2⟩:=dm i k hk;simp only[d1,d2,List.getD,hu1,Option.getD_some];exact((hf i hi).2.2.1.2 k c u hc hu1).1) (λh=>by cases h)
     rw[hlen2] at this;exact this
    .obtain⟨i,hi,rfl⟩:=hmem x hx;exact(hf i hi).2.2.2
    .obtain⟨i,hi,rfl⟩:=hmem x hx;exact hxl i hi
  .obtain⟨hm,ht2⟩:=Qaaf hF ht hu;unfold DataW.trod at h;rw[hu] at h;simp only at h;split at h
   .rename_i hl;obtain⟨xs0,hxs,-⟩:=Option.map_eq_some_iff.1 h;obtain⟨m1,m2⟩:=Q49 hxs;obtain⟨xs,k1,k2⟩:=Qv2 (H:=H) (enc:=enc) (P:=P) (w:=w) (base:=base) (spare:=spare) (held:=held) hl (λt ht cs x h=>Qaag hF fuel t ht cs x h) fs.toList 0 hm ht2 (λf hf=>by
     obtain⟨i,hi⟩:=List.getElem?_of_mem hf;obtain⟨b,-,hb⟩:=m2 i f hi;exact⟨b,hb⟩)
    rw[List.drop_zero] at k1;exact⟨xs,k1,.struct t fs xs hu (by rw[k1.1,hl]) (λf hf=>by have:=(k2 f hf).2; rwa [Nat.sub_zero] at this)⟩
   .cases h
def Qahz(P:Program)(t:TypeId)(x:V):Prop:=(∃ xs,x = .agg xs/\Ty P t xs/\∃ fs,P.underlying t=some (.struct fs))\/(Ty P t [x]/\∀ fs,P.underlying t≠some (.struct fs))
theorem Qabx{ts:List TypeId}(hF:Frag P ts=true){t:TypeId}(ht:t ∈ ts){r:Go.Reach}{b0:Nat}{v:Value}{d:DataW H}{ps:List MemPlace}(hval:Value.okWide P w r b0 t v)(hd:DataW.Trod enc P w base spare held t v d ps) :
  ∃ x,VRel (λ_ _=>True) w x v/\Qahz P t x:=by
 obtain⟨fuel,hf⟩:=hd;obtain⟨xs,h1,h2⟩:=Qaag hF fuel t ht _ _ hf;have one:∀ u,v.cells.toList=[u]->(∀ cs,v ≠ .agg cs)->(∀ fs,P.underlying t≠some (.struct fs))->∃ x,VRel (λ_ _=>True) w x v/\Qahz P t x:=λu hu hna hns=>by
  have hv:v=u:=by
   cases v<;>first
    | exact absurd rfl (hna _)
    | (simp[Value.cells] at hu; exact hu)
  subst hv;rw[hu] at h1
  match xs,h1.1 with
  | [x],_=>exact⟨x,(h1.2 0 x v rfl rfl).1,.inr ⟨h2,hns⟩⟩
 rcases Q2f hF ht with ⟨k,hu⟩ | hu | hu | ⟨e,hu⟩ | ⟨fs,hu⟩
 .obtain⟨n,rfl⟩:=okWide_int hu hval;exact one _ rfl (λcs h=>by cases h) (λfs h=>by rw[hu] at h; cases h)
 .obtain⟨n,rfl⟩:=okWide_bool hu hval;exact one _ rfl (λcs h=>by cases h) (λfs h=>by rw[hu] at h; cases h)
 .obtain⟨n,rfl⟩:=okWide_string hu hval;exact one _ rfl (λcs h=>by cases h) (λfs h=>by rw[hu] at h; cases h)
 .obtain⟨a,l,c,rfl,-⟩:=okWide_slice hu hval;exact one _ rfl (λcs h=>by cases h) (λfs h=>by rw[hu] at h; cases h)
 .unfold Value.okWide at hval;rw[hu] at hval;obtain⟨cs,rfl,hsz,-⟩:=hval;refine⟨.agg xs,.agg xs cs (by simpa [Value.cells] using h1.1) (λj c u hc hu=>(h1.2 j c u hc (by simpa [Value.cells] using hu)).2) (λj c u hc hu=>(h1.2 j c u hc (by simpa [Value.cells] using hu)).1),.inl ⟨xs,rfl,h2,fs,hu⟩⟩
theorem Qus(hl:laidOutB P=true){W W' : World}(hb:Below W.heap.size W W'):∀ {ts:List TypeId} {vs:List Value} {ds:List (DataW H)} {ps:List MemPlace},(∀ t ∈ ts,P.readableRec t=true/\t<P.types.size)->DataW.TrodAll enc P W 0 (λ_=>true) true ts vs ds ps->(∀ x ∈ ps,x.block<W.heap.size) ->
  DataW.TrodAll enc P W' 0 (λb=>decide (b<W.heap.size)) true ts vs ds ps
 | [],[],[],ps,_,h,_=>h
 | t::ts,v::vs,d::ds,ps,hr,h,hlt=>by
  obtain⟨p,q,h1,h2,rfl⟩:=h;exact⟨p,q,Below.trod hl (hr t (by simp)).1 (hr t (by simp)).2 h1 hb (λx hx=>hlt x (by simp[hx])),Qus hl hb (λt ht=>hr t (by simp[ht])) h2 (λx hx=>hlt x (by simp[hx])),rfl⟩
 | [],[],_::_,_,_,h,_=>h.elim
 | [],_::_,_,_,_,h,_=>h.elim
 | _::_,[],_,_,_,h,_=>h.elim
 | _::_,_::_,[],_,_,h,_=>h.elim
theorem Qagb{f:Func}{s:ChangeSpec}{apart fresh handsOn:Bool}{W W' : World}{args:Array Value}{v:Value}{ds gs:List (DataW H)}{before pa pv:List MemPlace}
  (hW:DataW.Whole enc P f.params.toList s.vars apart W args.toList ds gs before)
  (hres:∀ (b:Nat) (sp:Nat->Bool) (hd:Bool),DataW.TrodAll enc P W' b sp hd f.resultTypes.toList (v.resultList f.resultTypes.size) (s.fn H (ds++gs)).results [])
  (hargs:DataW.TrodAll enc P W' 0 (λb=>decide (b<W.heap.size)) true f.params.toList args.toList (s.fn H (ds++gs)).args pa)
  (hvars:DataW.TrodVars enc P W' (λb=>decide (b<W.heap.size)) s.vars (s.fn H (ds++gs)).vars pv)
  (hb:Below W.heap.size W W'):s.post enc P f apart fresh handsOn false W args v W' :=
 ⟨ds,gs,before,[],pa,pv,hW,hres _ _ _,hargs,hvars,hb.frame _,λh=>by cases h⟩
theorem Qanz{C:Nat->Nat->Prop}{x0 x1:V}{v0 v1:Value}(h0:VRel C w x0 v0)(h1:VRel C w x1 v1):∀ (j:Nat) x u,[x0,x1][j]? = some x->(#[v0,v1])[j]? = some u->VRel C w x u:=λj x u hx hu=>by
 match j with
 | 0=>simp at hx hu; subst hx; subst hu; exact h0
 | 1=>simp at hx hu; subst hx; subst hu; exact h1
 | j+2=>simp at hx
theorem Ty.asInt{t:TypeId}{xs:List V}{k:IntKind}(h:Ty P t xs)(hu:P.underlying t=some (.int k)):∃ n,xs=[.v (.int k n)]/\(Lit.int k n).wf=true:=by
 cases h with
 | int _ k' n h1 h2=>rw[hu] at h1; cases h1; exact⟨n,rfl,h2⟩
 | bool _ b h1=>rw[hu] at h1; cases h1
 | str _ s h1=>rw[hu] at h1; cases h1
 | slice _ e es h1=>rw[hu] at h1; cases h1
 | struct _ fs xs h1=>rw[hu] at h1; cases h1
theorem Ty.asBool{t:TypeId}{xs:List V}(h:Ty P t xs)(hu:P.underlying t=some .bool):∃ b,xs=[.v (.bool b)]:=by
 cases h with
 | int _ k' n h1 h2=>rw[hu] at h1; cases h1
 | bool _ b h1=>exact⟨b,rfl⟩
 | str _ s h1=>rw[hu] at h1; cases h1
 | slice _ e es h1=>rw[hu] at h1; cases h1
 | struct _ fs xs h1=>rw[hu] at h1; cases h1
end
end Go.Proofs.YtfgegilhjlnohaaGreat
end

noncomputable section
namespace Go.Proofs.YtfgegilhjlnohaaGreat
open Go.ChangeShapes Go.WideShapes Go.ChangeAt Go.RowKit
open Go.ChangeMaps (setBlock shut_map_nil open_string shut_string keptBut_setBlock frozen?_setBlock heap_setBlock_same)
set_option maxRecDepth 100000 in
theorem Qah0{xs:List V}(h:Ty Tryz.prog 5 xs):∃ v:Int,xs=(cNum .u8) v/\0<=v/\v<=255:=by
 obtain⟨n,rfl,hw⟩:=h.asInt Tryz.underlying5;refine⟨n,rfl,?_⟩;simp[Lit.wf,IntKind.min,IntKind.max,IntKind.signed,IntKind.bits] at hw;omega
set_option maxRecDepth 100000 in
theorem Qakm{xs:List V}(h:Ty Tryz.prog 4 xs):∃ v:Bool,xs=Qak3 v/\True:=by
 obtain⟨n,rfl⟩:=h.asBool Tryz.underlying4;exact⟨n,rfl,trivial⟩
set_option maxRecDepth 100000 in
theorem Qut(x0:V)(x1:V)(y0:Qahz Tryz.prog 5 x0)(y1:Qahz Tryz.prog 4 x1):PCall Tryz.prog 11 [x0,x1] (.p (bV true)):=by
 obtain⟨z0,ez0,hz0⟩:∃ v:Int,[x0]=(cNum .u8) v/\0<=v/\v<=255:=by
  rcases y0 with ⟨xs,_,_,fs,h⟩ | ⟨h,-⟩
  .rw[Tryz.underlying5] at h; cases h
  .exact Qah0 h
 cases ez0;obtain⟨z1,ez1,hz1⟩:∃ v:Bool,[x1]=Qak3 v/\True:=by
  rcases y1 with ⟨xs,_,_,fs,h⟩ | ⟨h,-⟩
  .rw[Tryz.underlying4] at h; cases h
  .exact Qakm h
 cases ez1;have hlaw:Qc4 z0 z1=some true:=by
  apply Q8d<;>first | omega | exact hz0.1 | exact hz0.2 | exact hz0 | exact hz1.1 | exact hz1.2 | exact hz1
 exact Qnz z0 z1 true hlaw
theorem Quu:Frag Tryz.prog [5,4]=true:=by decide +kernel
theorem Q5a:laidOutB Tryz.prog=true:=by kernel_rfl
set_option maxRecDepth 100000 in
theorem Qwv(os:Os)(started:os.Started)(H:Type)(enc:TypeId×Value->H) :
  ReturnsInHanded {} Tryz.checked os 11 .any (Rows.inferWideSpec.pre6 enc Tryz.prog Tryz.f11 Rows.inferWideRow.domain false) (Rows.inferWideSpec.post enc Tryz.prog Tryz.f11 false true false false):=by
 refine returnsInHanded_of_change_shaped (C:=Tryz.checked) Tryz.own started (by kernel_rfl) Tryz.func11
  (ChangeSpec.witness6 (enc:=enc) (C:=Tryz.checked) false ⟨#[],#[.int .u8 0,.bool false],[]⟩ 8 (by kernel_rfl) (by kernel_rfl) (by kernel_rfl) (by kernel_rfl)) ?_
 intro W base args ds gs before hval0 hW hcnd _ hsh _;have hval:∀ (j:Nat) t v,Tryz.f11.params[j]? = some t->args[j]? = some v->Value.okWide Tryz.prog W .any base t v:=hval0;have hW' := hW;obtain⟨p,q,hA0,hV,rfl,hfz,hnd⟩:=hW;have hA:DataW.TrodAll enc Tryz.prog W 0 (λ_=>true) true Tryz.f11.params.toList args.toList ds p:=hA0;rw[Tryz.params11] at hA hval;have hA2:=hA;obtain⟨v0,v1,d0,d1,p0,p1,rfl,rfl,rfl,h0,h1⟩:=trodAll_two hA;obtain⟨rfl,rfl⟩:=trodVars_none hV;obtain⟨x0,r0,y0⟩:=Qabx Quu (by decide) (hval 0 5 v0 rfl rfl) h0;obtain⟨x1,r1,y1⟩:=Qabx Quu (by decide) (hval 1 4 v1 rfl rfl) h1;clear hA0 hval0;simp only[List.append_nil] at hW';have hgl:GlobOk (λ_ _=>True) W:=⟨λb hb=>by
  obtain⟨m,hm⟩:∃ m,W.cell? ⟨0,0,none⟩=some (.int .i64 m):=Tryz.laysM219.s1_3 W hsh;simp only[Qadh,List.mem_singleton] at hb;subst hb;exact⟨m,trivial,hm⟩,λx hx=>by simp[Qako] at hx⟩
 refine((Qut x0 x1 y0 y1).out (λ_ _=>True) W #[v0,v1] hgl rfl (Qanz r0 r1)).mono λe W' ⟨u,he,hd,hg⟩=>?_
 have hu:u = .bool true:=by cases hd with | p _ _ hd=>cases hd; rfl
 subst hu; subst he;exact⟨_,rfl,Qagb (pv:=[]) hW' (λ_ _ _=>trodAll_mk1 (shut_bool Tryz.underlying4 _)) (Qus Q5a hg (of_decide_eq_true (by kernel_rfl)) hA2 (λx hx=>by simpa using hW'.lt x hx)) rfl hg⟩
theorem inferWide_holds:Rows.InferWideSaid :=
 OpenClaim.holds_of_wide 11 Tryz.f11 rfl rfl rfl rfl rfl rfl rfl ⟨rfl,rfl,rfl,rfl,rfl⟩ rfl rfl rfl rfl rfl (by kernel_rfl) Tryz.func11 (by kernel_rfl)
  (of_decide_eq_true (by kernel_rfl)) (by unfold Func.isWrapper; first | (rw[if_pos (by decide +kernel)]; kernel_rfl) | (rw[if_neg (by decide +kernel)]; exact⟨rfl,rfl⟩))
  (λos started H enc _=>Qwv os started H enc)
#print axioms inferWide_holds
end Go.Proofs.YtfgegilhjlnohaaGreat
end
