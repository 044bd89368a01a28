/- Part 13 of 13. -/
import Derived.Test.YtfgegilhjlnohaaGreatMgInferChecks12
import Derived.ProofKit
import Derived.HandedShaped

noncomputable section
namespace Go.Proofs.YtfgegilhjlnohaaGreat
open Go.RowKit
set_option linter.unusedSimpArgs false
set_option linter.unusedVariables false
def Q3z(k:Int)(nm:Nm)(q:Int)(bs:List Qaj):List Qaj:=if k==11 then bs++[⟨nm,(Q54 q).1,false⟩] else if k==12 then bs++[⟨nm,q,false⟩] else bs
def hdK(a:List Qab)(bs:List Qaj)(z:List Nm):Int×Bool:=match a with | []=>(0,false) | y::_=>kdN y bs z
def badK(k:Int)(q:Int×Bool):Bool := !q.2||(k==9 && !decide (1<=q.1/\q.1<=3)||(k==10&&q.1 != 3||k==11 && !(Q54 q.1).2))
mutual
def stT(U:Nm->Int->Option Nm)(z:List Nm)(w:Nm):Qab->List Qaj->Option Nm
 | ⟨k,nm,_,_,a,t,e⟩,bs=>if k==8 then none else if badK k (hdK a bs z) then some w else
  (blT U z w t (Q3z k nm (hdK a bs z).1 bs)).or ((blT U z w e bs).or (if k==13 then U nm (hdK a bs z).1 else none))
def blT(U:Nm->Int->Option Nm)(z:List Nm)(w:Nm):List Qab->List Qaj->Option Nm
 | [],_=>none
 | x::r,bs=>(stT U z w x bs).or (blT U z w r bs)
end
theorem Qair(U:Nm->Int->Option Nm)(z:List Nm)(w:Nm)(x:Qab)(bs:List Qaj):stT U z w x bs=if x.Kind==8 then none else if badK x.Kind (hdK x.L bs z) then some w else
  (blT U z w x.Then (Q3z x.Kind x.Name (hdK x.L bs z).1 bs)).or ((blT U z w x.Else bs).or (if x.Kind==13 then U x.Name (hdK x.L bs z).1 else none)):=by cases x; rw[stT]
theorem Qais{U V:Nm->Int->Option Nm}(z:List Nm)(w:Nm):∀ n (l:List Qab) (bs:List Qaj),nns l<=n->(∀ u ∈ usL l,∀ b,U u b=V u b)->blT U z w l bs=blT V z w l bs:=by
 intro n
 induction n with
 | zero =>
  intro l bs h _;cases l with
  | nil=>rw[blT,blT]
  | cons x r=>rw[nns] at h; have:=Qjh x; omega
 | succ n ih =>
  intro l
  induction l with
  | nil=>intro bs _ _; rw[blT,blT]
  | cons x r ihr =>
   intro bs h hU;rw[nns] at h;have e:=Qie x;have h1:∀ u ∈ usL x.Then,∀ b,U u b=V u b:=λu hu=>hU u (by rw[usL,Qgu]; simp[hu])
   have h2:∀ u ∈ usL x.Else,∀ b,U u b=V u b:=λu hu=>hU u (by rw[usL,Qgu]; simp[hu])
   have h3:∀ b,(if x.Kind==13 then U x.Name b else none)=(if x.Kind==13 then V x.Name b else none):=λb=>by
    split
    .rename_i hk;exact hU x.Name (by rw[usL,Qgu,if_pos hk]; simp) b
    .rfl
   rw[blT,blT,Qair,Qair,ih x.Then _ (by omega) h1,ih x.Else _ (by omega) h2,h3,ihr bs (by omega) λu hu=>hU u (by rw[usL]; simp[hu])]
def itK(k:Int):List Qaj:=[⟨[103,114,111,117,112],6,false⟩,⟨[105,116],k,false⟩]
def vF(l:List Qae)(z:List Nm):Nat->Nm->Int->Option Nm
 | 0,_,_=>none
 | n+1,s,k=>blT (vF l z n) z s (Qif l s).1 (itK k)
def uT(l:List Qae)(z:List Nm)(s:Nm)(k:Int):Option Nm:=vF l z ((reaP l s).length+1) s k
theorem Qanl{l:List Qae}(hf:fine l)(z:List Nm):∀ n m s k,(reaP l s).length<n->(reaP l s).length<m->vF l z n s k=vF l z m s k
 | 0,_,_,_,h,_=>absurd h (Nat.not_lt_zero _)
 | _+1,0,_,_,_,h=>absurd h (Nat.not_lt_zero _)
 | n+1,m+1,s,k,h1,h2=>by
  rw[vF,vF];refine Qais z s _ _ _ (Nat.le_refl _) λu hu b' => ?_
  have:=Qh4 hf.closed hf.noring (Ql0 hu);exact Qanl hf z n m u b' (by omega) (by omega)
theorem Qarz{l:List Qae}(hf:fine l)(z:List Nm)(s:Nm)(k:Int):uT l z s k=blT (uT l z) z s (Qif l s).1 (itK k):=by
 rw[uT,vF];refine Qais z s _ _ _ (Nat.le_refl _) λu hu b' => ?_
 have:=Qh4 hf.closed hf.noring (Ql0 hu);exact Qanl hf z _ _ u b' (by omega) (by omega)
theorem Qaeo(k:Int)(nm:Nm)(q:Int)(bs:List Qaj):(Q3z k nm q bs).length<=bs.length+1:=by
 unfold Q3z;split
 .simp
 .split<;>simp
theorem rBad(k:Int)(q:Int×Bool):(if(!q.2) then some true else if(k==9) then Qpz q.1>>=λx9=>if(!x9) then some true else if(k==10) then if(q.1 != 3) then some true else if(k==11) then some (!(Q54 q.1).2) else some false else if(k==11) then some (!(Q54 q.1).2) else some false
  else if(k==10) then if(q.1 != 3) then some true else if(k==11) then some (!(Q54 q.1).2) else some false else if(k==11) then some (!(Q54 q.1).2) else some false:Option Bool)=some (badK k q):=by
 rw[Qat2,badK];generalize (k==9)=a;generalize (k==10)=b;generalize (k==11)=c;generalize (Q54 q.1).2=d;generalize (q.1 != 3)=e;generalize decide (1<=q.1/\q.1<=3)=f;generalize q.2=g;cases a<;>cases b<;>cases c<;>cases d<;>cases e<;>cases f<;>cases g<;>rfl
theorem Qapg(x:Qab)(q:Int)(bs:List Qaj)(hb:bs.length<=1000){R:Type}(K:List Qaj->Option R) :
  (appL 32 [] bs>>=λx10=>(if(x.Kind==11) then appL 32 x10 [(Qaj.mk x.Name (Q54 q).1 false)]>>=λx12=>some x12 else some x10:Option (List Qaj))>>=λo11=>(if(x.Kind==12) then appL 32 o11 [(Qaj.mk x.Name q false)]>>=λx14=>some x14 else some o11:Option (List Qaj))>>=K)=K (Q3z x.Kind x.Name q bs):=by
 rw[Qf0 (by simp; omega) (by simp; omega),Qad,List.nil_append];unfold Q3z;by_cases h11:(x.Kind==11)=true
 .have h12:¬ (x.Kind==12)=true:=by rw[beq_iff_eq] at h11 ⊢; omega
  rw[if_pos h11,if_pos h11,Qf0 (by simp; omega) (by simp; omega),Qad,Qad,if_neg h12,Qad]
 .rw[if_neg h11,if_neg h11,Qad];by_cases h12:(x.Kind==12)=true
  .rw[if_pos h12,if_pos h12,Qf0 (by simp; omega) (by simp; omega),Qad,Qad]
  .rw[if_neg h12,if_neg h12,Qad]
def Qar0:Option Nm->Nm×Bool
 | none=>([],true)
 | some s=>(s,false)
def sumT:Option Nm->Unit⊕Nm
 | none =>.inl ()
 | some s =>.inr s
def Qanm(l:List Qae)(z:List Nm)(u:Nm):Prop:=∀ k,Qg2 l u (Qif l u).1 (itK k) z=some (Qar0 (uT l z u k))
theorem Qann{l:List Qae}(ho:okTs l)(z:List Nm)(hz:z.length<=1000)(w:Nm):∀ n (nl:List Qab) (bs:List Qaj),nns nl<=n->n<=100->bs.length+n<=900->goL nl->(∀ u ∈ usL nl,Qanm l z u)->Qg2 l w nl bs z=some (Qar0 (blT (uT l z) z w nl bs)):=by
 intro n;have hlen:=ho.len
 induction n with
 | zero =>
  intro nl bs h _ _ _ _;cases nl with
  | nil=>rw[Qg2,Qeb,blT]; rfl
  | cons x r=>rw[nns] at h; have:=Qjh x; omega
 | succ n ih =>
  intro nl bs h hn hb hg hU;have hll:=Qfd nl;have key:∀ k,k<=nl.length->Qeb l w nl bs z k=some (sumT (blT (uT l z) z w (nl.drop k) bs)):=by
   refine upto ?_ λk hk ih2=>?_
   .have:decide (((nl.length:Nat):Int)<(nl.length:Int))=false:=decide_eq_false (by omega);rw[Qeb,this,if_neg (by simp),List.drop_length,blT]; rfl
   .have hm:=List.getElem_mem hk;have hnn:=Qev hm;have e:=Qie nl[k];have hgk:=(Qang _).1 (Qagg hm hg);rw[Qeb,ltI,decide_eq_true hk,if_pos rfl,Qa3,getE hk,Qad,Qcb hk,blT,Qa4 (show k<9223372036854775807 by omega),Qair,ih2];by_cases h8:(nl[k].Kind==8)=true
    .rw[if_pos h8,if_pos h8]; rfl
    .rw[if_neg h8,if_neg h8];have hl1:=hgk.1 (by simpa using h8);obtain⟨y,hy⟩:∃ y,nl[k].L=[y]:=List.length_eq_one_iff.1 hl1;have hny:nn y<=100:=by
      have:nn y<=nns nl[k].L:=Qev (by rw[hy]; simp);omega
     have hi0:idx nl[k].L 0=some y:=by rw[hy]; rfl
     have hhd:hdK nl[k].L bs z=kdN y bs z:=by rw[hy]; rfl
     rw[hi0,Qad,rKd bs z (by omega) hz 100 y (by omega) hny,Qad,hhd];generalize hs:kdN y bs z=q;rw[Qat5,Qad,rBad nl[k].Kind q,Qad];rcases Bool.eq_false_or_eq_true (badK nl[k].Kind q) with hq | hq
     .rw[if_pos hq,if_pos hq]; rfl
     .have hq' : ¬ badK nl[k].Kind q=true:=by rw[hq]; simp
      rw[if_neg hq', if_neg hq'];have hT:=λm (hm2:m.length<=bs.length+1)=>ih nl[k].Then m (by omega) (by omega) (by omega) hgk.2.2.1 λu hu=>hU u (by
       exact Qoz hm u (by rw[Qgu]; simp[hu]))
      have hE:=ih nl[k].Else bs (by omega) (by omega) (by omega) hgk.2.2.2 λu hu=>hU u (by
       exact Qoz hm u (by rw[Qgu]; simp[hu]))
      have hUse:(nl[k].Kind==13)=true->Qanm l z nl[k].Name:=λh13=>hU _ (by
       exact Qoz hm _ (by rw[Qgu,if_pos h13]; simp))
      rw[Qapg nl[k] q.1 bs (by omega),hT _ (Qaeo _ _ _ _),Qad,hE];cases blT (uT l z) z w nl[k].Then (Q3z nl[k].Kind nl[k].Name q.1 bs) with
      | some s=>rfl
      | none =>
       show(some (Qar0 (blT (uT l z) z w nl[k].Else bs))>>=λx16=>_)=_;rw[Qad];cases blT (uT l z) z w nl[k].Else bs with
       | some s=>rfl
       | none =>
        by_cases h13:(nl[k].Kind==13)=true
        .have hu:=hUse h13 q.1;unfold itK at hu;rw[if_pos h13,if_pos h13,Qadu l _ (by omega),Qad,hu];cases uT l z nl[k].Name q.1 with
         | some s=>rfl
         | none=>rfl
        .rw[if_neg h13,if_neg h13]; rfl
  have h0:=key 0 (by omega);rw[show((0:Nat):Int)=0 from rfl,List.drop_zero] at h0;rw[Qg2,h0,Qad];cases blT (uT l z) z w nl bs<;>rfl
theorem Qat9{l:List Qae}(ho:okTs l)(hf:fine l)(z:List Nm)(hz:z.length<=1000):∀ n s,(reaP l s).length<=n->Qanm l z s:=by
 intro n
 induction n with
 | zero =>
  intro s hn b;rw[Qarz hf];refine Qann ho z hz s 100 _ _ (Qqs ho s) (by omega) (by simp[itK]) (Q3p hf s) λu hu=>?_
  have:=Qh4 hf.closed hf.noring (Ql0 hu);omega
 | succ n ih =>
  intro s hn b;rw[Qarz hf];refine Qann ho z hz s 100 _ _ (Qqs ho s) (by omega) (by simp[itK]) (Q3p hf s) λu hu=>?_
  have:=Qh4 hf.closed hf.noring (Ql0 hu);exact ih u (by omega)
def grpK:List Qaj:=[⟨[103,114,111,117,112],6,false⟩]
def Qagz(l:List Qae)(z:List Nm)(s:Nm):Option Nm:=blT (uT l z) z s (Qif l s).1 grpK
def chkT (l:List Qae) (s:Nm) (z:List Nm):Nm×Int :=
 if(Qiy l).2 != 0 then Qiy l else if !(fndT l s).isSome then([],4) else match Qagz l z s with | some w=>(w,201) | none=>([],0)
theorem Qaph{l:List Qae}(ho:okTs l)(s:Nm)(z:List Nm)(hz:z.length<=1000):Qtu l s z=some (chkT l s z):=by
 have hlen:=ho.len;rw[Qtu,Qap3 l ho,Qad,chkT];by_cases hc:(Qiy l).2=0
 .have hb:((Qiy l).2 != 0)=false:=by simpa using hc
  obtain⟨hf,-⟩:=Qy0 hc;rw[hb,if_neg (by simp),if_neg (by simp),Qadu l s (by omega),Qad,Qadv];rcases Bool.eq_false_or_eq_true (fndT l s).isSome with hs | hs
  .have hr:=Qann ho z hz s 100 _ grpK (Qqs ho s) (by omega) (by simp[grpK]) (Q3p hf s) λu _=>Qat9 ho hf z hz _ u (Nat.le_refl _)
   unfold grpK at hr;rw[hs,if_neg (by simp),if_neg (by simp),hr,Qad];have e:Qagz l z s=blT (uT l z) z s (Qif l s).1 [⟨[103,114,111,117,112],6,false⟩]:=rfl;rw[e];cases blT (uT l z) z s (Qif l s).1 [⟨[103,114,111,117,112],6,false⟩]<;>rfl
  .rw[hs,if_pos (by simp),if_pos (by simp)]
 .have hb:((Qiy l).2 != 0)=true:=by simpa using hc
  rw[hb,if_pos rfl,if_pos rfl]
abbrev peK(a b:Qap):Bool:=(a.name_==b.name_&&(a.it_==b.it_&&true))
theorem Q30(a b:Qap):peK a b=true↔a=b:=by
 cases a; cases b; simp[peK]
instance Qavn:DecidableEq Qap:=λa b=>decidable_of_iff (peK a b=true) (Q30 a b)
abbrev Dk:=List (Qap×Int)
theorem Qapi(k:Qap)(p:Qap×Int)(r:Dk):mget peK k (p::r)=if k=p.1 then some p.2 else mget peK k r:=by
 rw[mget];by_cases h:k=p.1
 .rw[if_pos ((Q30 _ _).2 h),if_pos h]
 .rw[if_neg (λe=>h ((Q30 _ _).1 e)),if_neg h]
theorem Qavi(x:Qap)(v:Int)(p:Qap×Int)(r:Dk):mset peK x v (p::r)=if x=p.1 then(x,v)::r else p::mset peK x v r:=by
 rw[mset];by_cases h:x=p.1
 .rw[if_pos ((Q30 _ _).2 h),if_pos h]
 .rw[if_neg (λe=>h ((Q30 _ _).1 e)),if_neg h]
theorem Qaua(k x:Qap)(v:Int):∀ m:Dk,mget peK k (mset peK x v m)=if k=x then some v else mget peK k m
 | []=>by
  have e:mset peK x v []=[(x,v)]:=by rw[mset]
  rw[e,Qapi]
 | p::r=>by
  have ih:=Qaua k x v r;rw[Qavi,Qapi k p r];by_cases hx:x=p.1
  .rw[if_pos hx,Qapi];by_cases h:k=x
   .rw[if_pos h,if_pos h]
   .have h2:¬ k=p.1:=λe=>h (e.trans hx.symm)
    rw[if_neg h,if_neg h,if_neg h2]
  .rw[if_neg hx,Qapi,ih];by_cases h:k=p.1
   .have h2:¬ k=x:=λe=>hx (e.symm.trans h)
    rw[if_pos h,if_neg h2,if_pos h]
   .rw[if_neg h,if_neg h]
def Qapj(l:List Qae)(z:List Nm)(D:Dk):Prop:=∀ p:Qap,(mget peK p D).getD 0>0->uT l z p.name_ p.it_=none
def Qar1(l:List Qae)(z:List Nm):Option Nm->Dk⊕(Nm×Dk)->Prop
 | none,.inl D=>Qapj l z D
 | some s,.inr q=>q.1=s
 | _,_=>False
def Qait(l:List Qae)(z:List Nm)(u:Nm):Prop:=∀ (k:Int) (D:Dk),Qapj l z D->∃ r,Qhl ⟨u,k⟩ l z D=some r/\Qar1 l z (uT l z u k) r
theorem Qar2 (x : Qab) (q : Int × Bool) (bs : List Qaj) (hb : bs.length ≤ 1000) :
    ( if (x.Kind == 9) then
          if q.2 then
            Qi0 q.1 >>= fun x9 =>
            some (x9, bs)
          else
            some (false, bs)
        else
          if (x.Kind == 10) then
            if q.2 then
              some ((q.1 == 3), bs)
            else
              some (false, bs)
          else
            if (x.Kind == 11) then
              Qlj q.1 >>= fun x10 =>
              ( if q.2 then
                  some x10.2
                else
                  some false : Option (Bool)) >>= fun o11 =>
              appL 32 bs [(Qaj.mk x.Name x10.1 false)] >>= fun x12 =>
              some (o11, x12)
            else
              if (x.Kind == 12) then
                appL 32 bs [(Qaj.mk x.Name q.1 false)] >>= fun x13 =>
                some (q.2, x13)
              else
                some (q.2, bs) : Option ((Bool × (List Qaj)))) = some (!badK x.Kind q, Q3z x.Kind x.Name q.1 bs) := by
  have ha : ∀ b, appL 32 bs [(Qaj.mk x.Name b false)] = some (bs ++ [⟨x.Name, b, false⟩]) := fun b => Qf0 (by simp; omega) (by simp; omega)
  rw [Qap4, Qavh, Qat5, ha, Qad, Qad, ha, Qad, badK, Q3z]
  by_cases h9 : x.Kind = 9
  · have e9 : (x.Kind == 9) = true := by rw [h9]; rfl
    have e10 : (x.Kind == 10) = false := by rw [h9]; rfl
    have e11 : (x.Kind == 11) = false := by rw [h9]; rfl
    have e12 : (x.Kind == 12) = false := by rw [h9]; rfl
    simp only [e9, e10, e11, e12, if_true, Bool.false_eq_true, if_false, Bool.true_and, Bool.false_and, Bool.or_false]
    cases q.2 <;> simp
  · have e9 : (x.Kind == 9) = false := by simpa using h9
    simp only [e9, Bool.false_eq_true, if_false, Bool.false_and, Bool.false_or]
    by_cases h10 : x.Kind = 10
    · have e10 : (x.Kind == 10) = true := by rw [h10]; rfl
      have e11 : (x.Kind == 11) = false := by rw [h10]; rfl
      have e12 : (x.Kind == 12) = false := by rw [h10]; rfl
      simp only [e10, e11, e12, if_true, Bool.false_eq_true, if_false, Bool.true_and, Bool.false_and, Bool.or_false]
      cases q.2 <;> simp [bne]
    · have e10 : (x.Kind == 10) = false := by simpa using h10
      simp only [e10, Bool.false_eq_true, if_false, Bool.false_and, Bool.false_or]
      by_cases h11 : x.Kind = 11
      · have e11 : (x.Kind == 11) = true := by rw [h11]; rfl
        simp only [e11, if_true, Bool.true_and]
        cases q.2 <;> simp
      · have e11 : (x.Kind == 11) = false := by simpa using h11
        simp only [e11, Bool.false_eq_true, if_false, Bool.false_and, Bool.or_false]
        by_cases h12 : (x.Kind == 12) = true
        · rw [if_pos h12, if_pos h12]; simp
        · rw [if_neg h12, if_neg h12]; simp
theorem Qap7{l:List Qae}(_ho:okTs l)(z:List Nm)(hz:z.length<=1000)(w:Nm):∀ n (nl:List Qab) (bs:List Qaj),nns nl<=n->n<=100->bs.length+n<=900->goL nl->(∀ u ∈ usL nl,Qait l z u) ->
  ∀ D:Dk,Qapj l z D->∃ r,Qbe w nl bs l z D=some r/\Qar1 l z (blT (uT l z) z w nl bs) r:=by
 intro n
 induction n with
 | zero =>
  intro nl bs h _ _ _ _ D hD;cases nl with
  | nil =>
   refine⟨.inl D,?_,?_⟩
   .rw[Qbe,Qbg]; rfl
   .rw[blT]; exact hD
  | cons x r=>rw[nns] at h; have:=Qjh x; omega
 | succ n ih =>
  intro nl bs h hn hb hg hU;have hll:=Qfd nl;have key:∀ k,k<=nl.length->∀ D:Dk,Qapj l z D->∃ r,Qbg w nl bs l z k D=some r/\Qar1 l z (blT (uT l z) z w (nl.drop k) bs) r:=by
   refine upto ?_ λk hk ih2=>?_
   .intro D hD;have:decide (((nl.length:Nat):Int)<(nl.length:Int))=false:=decide_eq_false (by omega);refine⟨.inl D,?_,?_⟩
    .rw[Qbg,this,if_neg (by simp)]
    .rw[List.drop_length,blT]; exact hD
   .intro D hD;have hm:=List.getElem_mem hk;have hnn:=Qev hm;have e:=Qie nl[k];have hgk:=(Qang _).1 (Qagg hm hg);rw[Qbg,ltI,decide_eq_true hk,if_pos rfl,Qa3,getE hk,Qad,Qcb hk,blT,Qa4 (show k<9223372036854775807 by omega),Qair];by_cases h8:(nl[k].Kind==8)=true
    .rw[if_pos h8,if_pos h8]; exact ih2 D hD
    .rw[if_neg h8,if_neg h8];have hl1:=hgk.1 (by simpa using h8);obtain⟨y,hy⟩:∃ y,nl[k].L=[y]:=List.length_eq_one_iff.1 hl1;have hny:nn y<=100:=by
      have:nn y<=nns nl[k].L:=Qev (by rw[hy]; simp);omega
     have hi0:idx nl[k].L 0=some y:=by rw[hy]; rfl
     have hhd:hdK nl[k].L bs z=kdN y bs z:=by rw[hy]; rfl
     rw[hi0,Qad,cKd bs z (by omega) hz 100 y (by omega) hny,Qad,hhd,Qb9,Qf0 (by simp; omega) (by simp; omega),Qad,List.nil_append];generalize hs:kdN y bs z=q;have hst:=Qar2 nl[k] q bs (by omega);rw[hst,Qad];rcases Bool.eq_false_or_eq_true (badK nl[k].Kind q) with hq | hq
     .simp only[hq,Bool.not_true,Bool.not_false,if_true];exact⟨_,rfl,rfl⟩
     .simp only[hq,Bool.not_true,Bool.not_false,Bool.false_eq_true,if_false];by_cases h13:(nl[k].Kind==13)=true
      .have hK:nl[k].Kind=13:=by simpa using h13
       obtain⟨hT0,hE0⟩:=hgk.2.1 (.inl hK);obtain⟨r,u1,u2⟩:=hU nl[k].Name (Qoz hm _ (by rw[Qgu,if_pos h13]; simp)) q.1 D hD;rw[if_pos h13,u1,Qad,if_pos h13,hT0,hE0,blT,blT,Option.none_or,Option.none_or];revert u2;cases uT l z nl[k].Name q.1 with
       | none =>
        intro u2
        match r,u2 with
        | .inl D', u2=>exact ih2 D' u2
       | some s =>
        intro u2
        match r,u2 with
        | .inr p,u2=>exact⟨_,rfl,u2⟩
      .rw[if_neg h13,if_neg h13,Option.or_none];obtain⟨r1,p1,p2⟩:=ih nl[k].Then (Q3z nl[k].Kind nl[k].Name q.1 bs) (by omega) (by omega) (by have:=Qaeo nl[k].Kind nl[k].Name q.1 bs; omega) hgk.2.2.1 (λu hu=>hU u (Qoz hm u (by rw[Qgu]; simp[hu]))) D hD;rw[p1,Qad];revert p2;cases blT (uT l z) z w nl[k].Then (Q3z nl[k].Kind nl[k].Name q.1 bs) with
       | some s =>
        intro p2
        match r1,p2 with
        | .inr p,p2=>exact⟨_,rfl,p2⟩
       | none =>
        intro p2
        match r1,p2 with
        | .inl D1,p2 =>
         obtain⟨r2,q1,q2⟩:=ih nl[k].Else bs (by omega) (by omega) (by omega) hgk.2.2.2 (λu hu=>hU u (Qoz hm u (by rw[Qgu]; simp[hu]))) D1 p2;show ∃ r,(Qbe w nl[k].Else bs l z D1>>=λo21=>_)=some r/\_;rw[q1,Qad,Option.none_or];revert q2;cases blT (uT l z) z w nl[k].Else bs with
         | some s =>
          intro q2
          match r2,q2 with
          | .inr p,q2=>exact⟨_,rfl,q2⟩
         | none =>
          intro q2
          match r2,q2 with
          | .inl D2,q2=>exact ih2 D2 q2
  intro D hD;obtain⟨r,h1,h2⟩:=key 0 (by omega) D hD;rw[show((0:Nat):Int)=0 from rfl] at h1;rw[List.drop_zero] at h2;rw[Qbe,h1,Qad]
  match r,h2 with
  | .inl D', h2=>exact⟨_,rfl,h2⟩
  | .inr p,h2=>exact⟨.inr (p.1,p.2),rfl,h2⟩
theorem Qano{l:List Qae}(ho:okTs l)(hf:fine l)(z:List Nm)(hz:z.length<=1000)(s:Nm)(hU:∀ u ∈ usL (Qif l s).1,Qait l z u):Qait l z s:=by
 intro k D hD;have hlen:=ho.len;rw[Qhl];by_cases hd:(mget peK ⟨s,k⟩ D).getD 0>0
 .rw[if_pos (decide_eq_true hd)];have:=hD ⟨s,k⟩ hd;exact⟨_,rfl,by rw[this]; exact hD⟩
 .rw[if_neg (λe=>hd (of_decide_eq_true e)),Qarg l s (by omega),Qad];obtain⟨r,h1,h2⟩:=Qap7 ho z hz s 100 (Qif l s).1 (itK k) (Qqs ho s) (by omega) (by simp[itK]) (Q3p hf s) hU D hD;rw[<-Qarz hf] at h2;unfold itK at h1;rw[h1,Qad];revert h2;cases hu:uT l z s k with
  | some w =>
   intro h2
   match r,h2 with
   | .inr p,h2=>exact⟨_,rfl,h2⟩
  | none =>
   intro h2
   match r,h2 with
   | .inl D', h2 =>
    refine⟨_,rfl,λp hp=>?_⟩;have hg:=Qaua p ⟨s,k⟩ 1 D';by_cases e:p=⟨s,k⟩
    .rw[e]; exact hu
    .rw[if_neg e] at hg;exact h2 p (by rw[<-hg]; exact hp)
theorem Qaub{l:List Qae}(ho:okTs l)(hf:fine l)(z:List Nm)(hz:z.length<=1000):∀ n s,(reaP l s).length<=n->Qait l z s:=by
 intro n
 induction n with
 | zero =>
  intro s hn;refine Qano ho hf z hz s λu hu=>?_
  have:=Qh4 hf.closed hf.noring (Ql0 hu);omega
 | succ n ih =>
  intro s hn;refine Qano ho hf z hz s λu hu=>?_
  have:=Qh4 hf.closed hf.noring (Ql0 hu);exact ih u (by omega)
theorem Q1b{l:List Qae}(ho:okTs l)(s:Nm)(z:List Nm)(hz:z.length<=1000):Qg3 l s z=some (chkT l s z):=by
 have hlen:=ho.len;rw[Qg3,Qatu l ho,Qad,chkT];by_cases hc:(Qiy l).2=0
 .have hb:((Qiy l).2 != 0)=false:=by simpa using hc
  obtain⟨hf,-⟩:=Qy0 hc;rw[hb,if_neg (by simp),if_neg (by simp),Qarg l s (by omega),Qad,Qadv];rcases Bool.eq_false_or_eq_true (fndT l s).isSome with hs | hs
  .obtain⟨r,h1,h2⟩:=Qap7 ho z hz s 100 (Qif l s).1 grpK (Qqs ho s) (by omega) (by simp[grpK]) (Q3p hf s) (λu _=>Qaub ho hf z hz _ u (Nat.le_refl _)) [] (λp hp=>by rw[mget] at hp; exact absurd hp (by decide));have e:blT (uT l z) z s (Qif l s).1 grpK=Qagz l z s:=rfl;rw[e] at h2;unfold grpK at h1;rw[hs,if_neg (by simp),if_neg (by simp),h1,Qad];revert h2;cases Qagz l z s with
   | some w =>
    intro h2
    match r,h2 with
    | .inr p,h2=>show some (p.1,(201:Int))=some (w,201); rw[show p.1=w from h2]
   | none =>
    intro h2
    match r,h2 with
    | .inl D', h2=>rfl
  .rw[hs,if_pos (by simp),if_pos (by simp)]
 .have hb:((Qiy l).2 != 0)=true:=by simpa using hc
  rw[hb,if_pos rfl,if_pos rfl]
abbrev Dn:=List (Qbf×Int)
def good(l:List Qae)(p:Qbf)(t:Int):Prop:=(uS l p.name_ p.it_).Bad=false/\((uS l p.name_ p.it_).Tells=true->0<t)
structure NW (l:List Qae) (f:Qfv) (c:Nat) (D E:Dn) (t t' : Int):Prop where
 keys:((D++E).map (·.1)).Nodup
 new:∀ p ∈ E,p.1.name_ ∈ nms l/\p.2=1/\good l p.1 t'
 told:0<t' ↔ 0<t\/f.Tells=true
 pos:0<=t'
 most:t' <= t+c+100*(E.length:Int)
def Post(l:List Qae)(f:Qfv)(c:Nat)(w:Nm)(D:Dn)(t:Int)(r:Nm×Bool×Dn×Int):Prop :=
 (f.Bad=true->r.2.1=true/\r.1=f.Where)/\(f.Bad=false->r.2.1=false/\r.1=w/\∃ E,r.2.2.1=D++E/\NW l f c D E t r.2.2.2)
mutual
def Qapk:Qab->Bool
 | ⟨k,_,_,_,a,t,e⟩ => !(k==7)&&(Qwx a&&(Qwx t&&Qwx e))
def Qwx:List Qab->Bool
 | []=>true
 | x::r=>Qapk x&&Qwx r
end
theorem Qaiu(x:Qab):Qapk x=(!(x.Kind==7)&&(Qwx x.L&&(Qwx x.Then&&Qwx x.Else))):=by cases x; rw[Qapk]
def noS(bs:List Qaj):Prop:=∀ b ∈ bs,b.Secret=false
theorem Qauc{bs:List Qaj}(h:noS bs)(s:Nm):bndP bs s=false:=by
 unfold bndP;cases hf:bs.reverse.find? (·.Name==s) with
 | none=>rfl
 | some b=>exact h b (List.mem_reverse.1 (List.mem_of_find?_eq_some hf))
theorem Qap8{bs:List Qaj}(h:noS bs):∀ n (x:Qab),nn x<=n->Qapk x=true->secN x bs=false
 | 0,x,hn,_=>by have:=Qjh x; omega
 | n+1,x,hn,hf=>by
  have e:=Qie x;rw[Qaiu] at hf;simp only[Bool.and_eq_true,Bool.not_eq_true'] at hf;rw[Qars,hf.1,if_neg (by simp),Qauc h];split
  .rfl
  .split
   .have key:∀ r:List Qab,(∀ y ∈ r,nn y<=n)->Qwx r=true->secL r bs=false:=by
     intro r
     induction r with
     | nil=>intro _ _; rw[secL]
     | cons y r ih =>
      intro hy hs;rw[Qwx,Bool.and_eq_true] at hs;rw[secL,Qap8 h n y (hy y (by simp)) hs.1,ih (λz hz=>hy z (by simp[hz])) hs.2];rfl
    exact key x.L (λy hy=>by have:=Qev hy; omega) hf.2.1
   .rfl
theorem Qavj{bs:List Qaj}(h:noS bs){a:List Qab}(hf:Qwx a=true):hdS a bs=false:=by
 cases a with
 | nil=>rfl
 | cons y r =>
  rw[Qwx,Bool.and_eq_true] at hf;exact Qap8 h _ y (Nat.le_refl _) hf.1
theorem Qaud{U:Nm->Bool->Qfv}(w:Nm):∀ n (nl:List Qab) (bs:List Qaj),nns nl<=n->Qwx nl=true->noS bs->(∀ u ∈ usL nl,U u false=Qu5)->blS U w nl bs=Qu5:=by
 intro n
 induction n with
 | zero =>
  intro nl bs h _ _ _;cases nl with
  | nil=>rw[blS]
  | cons x r=>rw[nns] at h; have:=Qjh x; omega
 | succ n ih =>
  intro nl
  induction nl with
  | nil=>intro bs _ _ _ _; rw[blS]
  | cons x r ihr =>
   intro bs h hf hb hU;rw[nns] at h;have e:=Qie x;rw[Qwx,Bool.and_eq_true,Qaiu] at hf;simp only[Bool.and_eq_true] at hf;obtain⟨⟨-,f1,f2,f3⟩,f4⟩:=hf;have hm:noS (Qad9 x.Kind x.Name false bs):=λb hb' => by
    unfold Qad9 at hb';split at hb'
    .rcases List.mem_append.1 hb' with k | k
     .exact hb b k
     .rw[List.mem_singleton.1 k]
    .split at hb'
     .rcases List.mem_append.1 hb' with k | k
      .exact hb b k
      .rw[List.mem_singleton.1 k]
     .exact hb b hb'
   have hu:(if x.Kind==13 then U x.Name false else Qu5)=Qu5:=by
    split
    .rename_i h13;exact hU x.Name (by rw[usL,Qgu,if_pos h13]; simp)
    .rfl
   have hs:stS U w x bs=Qu5:=by
    rw[Qane,Qavj hb f1,ih x.Then _ (by omega) f2 hm λu hu=>hU u (by rw[usL,Qgu]; simp[hu]),ih x.Else bs (by omega) f3 hb λu hu=>hU u (by rw[usL,Qgu]; simp[hu])];simp only[Bool.false_and,Bool.false_eq_true,if_false,hu,Bool.and_false,Bool.or_self,ite_self]
   rw[blS,hs,ihr bs (by omega) f4 hb λu hu=>hU u (by rw[usL]; simp[hu])];rfl
theorem Qavo{l:List Qae}(hf:fine l)(hfr:∀ x ∈ l,Qwx x.L=true):∀ n s,(reaP l s).length<=n->uS l s false=Qu5:=by
 have hfi:∀ s,Qwx (Qif l s).1=true:=λs=>by
  unfold Qif;cases hq:fndT l s with
  | none=>rfl
  | some x=>exact hfr x (List.mem_of_find?_eq_some hq)
 have hno:noS (itB false):=λb hb=>by
  simp only[itB,List.mem_cons,List.not_mem_nil,or_false] at hb;rcases hb with rfl | rfl<;>rfl
 intro n
 induction n with
 | zero =>
  intro s hn;rw[Qatv hf];refine Qaud s _ _ _ (Nat.le_refl _) (hfi s) hno λu hu=>?_
  have:=Qh4 hf.closed hf.noring (Ql0 hu);omega
 | succ n ih =>
  intro s hn;rw[Qatv hf];refine Qaud s _ _ _ (Nat.le_refl _) (hfi s) hno λu hu=>?_
  have:=Qh4 hf.closed hf.noring (Ql0 hu);exact ih u (by omega)
theorem Qanp{l:List Qae}(ho:okTs l):∀ n (nl:List Qab),n<=1000->nns nl<=n->(∀ u ∈ usL nl,∀ m:Int,∃ v,Qfw l (Qif l u).1 m=some v)->∀ m:Int,∃ v,Qfw l nl m=some v:=by
 have hlen:=ho.len;intro n
 induction n with
 | zero =>
  intro nl _ h _ m;cases nl with
  | nil=>exact⟨0,by rw[Qfw,Qe2]; rfl⟩
  | cons x r=>rw[nns] at h; have:=Qjh x; omega
 | succ n ih =>
  intro nl hn h hUs m;have hll:=Qfd nl;have key:∀ k,k<=nl.length->∀ a:Int,∃ v,Qe2 l nl m a k=some v:=by
   refine upto ?_ λk hk ih2=>?_
   .intro a;have:decide (((nl.length:Nat):Int)<(nl.length:Int))=false:=decide_eq_false (by omega);exact⟨a,by rw[Qe2,this,if_neg (by simp),Qad,if_neg (by simp)]⟩
   .intro a;have hm:=List.getElem_mem hk;have hnn:=Qev hm;have e:=Qie nl[k];rw[Qe2,ltI,decide_eq_true hk,if_pos rfl,Qad];split
    .obtain⟨v1,h1⟩:=ih nl[k].Then (by omega) (by omega) (λu hu=>hUs u (Qoz hm u (by rw[Qgu]; simp[hu]))) (wr (m-a));obtain⟨v2,h2⟩:=ih nl[k].Else (by omega) (by omega) (λu hu=>hUs u (Qoz hm u (by rw[Qgu]; simp[hu]))) (wr (m-a));simp only[Qa3,getE hk,Qad,h1,h2,Qa4 (show k<9223372036854775807 by omega)];by_cases h13:(nl[k].Kind==13)=true
     .obtain⟨v3,h3⟩:=hUs nl[k].Name (Qoz hm _ (by rw[Qgu,if_pos h13]; simp)) (wr (m-wr (wr (wr (a+1)+v1)+v2)));rw[if_pos h13,Qad];split
      .rw[Qadu l _ (by omega),Qad,h3,Qad];exact ih2 _
      .exact ih2 _
     .rw[if_neg h13,Qad,if_neg (by simp)];exact ih2 _
    .exact⟨a,rfl⟩
  obtain⟨v,hv⟩:=key 0 (by omega) 0;rw[show((0:Nat):Int)=0 from rfl] at hv;exact⟨v,by rw[Qfw,hv]; rfl⟩
theorem Qapl{l:List Qae}(ho:okTs l)(hf:fine l):∀ n s,(reaP l s).length<=n->∀ m:Int,∃ v,Qfw l (Qif l s).1 m=some v:=by
 intro n
 induction n with
 | zero =>
  intro s hn;refine Qanp ho 100 _ (by omega) (Qqs ho s) λu hu=>?_
  have:=Qh4 hf.closed hf.noring (Ql0 hu);omega
 | succ n ih =>
  intro s hn;refine Qanp ho 100 _ (by omega) (Qqs ho s) λu hu=>?_
  have:=Qh4 hf.closed hf.noring (Ql0 hu);exact ih u (by omega)
structure leO {α : Type} (a b:Option α):Prop where
 h:∀ r,a=some r->b=some r
theorem leO.refl{α : Type}(a:Option α):leO a a:=⟨λ_ h=>h⟩
theorem leO.no{α : Type}(a:Option α):leO none a:=⟨λ_ h=>(nomatch h)⟩
theorem leO.bind{α β : Type}{a b:Option α}{f g : α -> Option β}(h:leO a b)(k:∀ x,leO (f x) (g x)):leO (a>>=f) (b>>=g):=⟨λr hr=>by
 obtain⟨x,h1,h2⟩:=Option.bind_eq_some_iff.1 hr;rw[h.h x h1];exact(k x).h r h2⟩
theorem leO.ite{α : Type}{c:Prop}[Decidable c]{a b a' b' : Option α}(h:leO a a')(k:leO b b'):leO (if c then a else b) (if c then a' else b'):=by
 split
 .exact h
 .exact k
def Qjq:Nat->(List UInt8)->Int->(List Int)->Int->Int->Int->Option (Int)
 | 0,_,_,_,_,_,_=>none
 | n+1,p0,p1,v6,v7,v8,v9 =>
  if(decide (v9<v7)) then
   idx p0 (wr (p1+v9))>>=λx9 =>
   Qjq n p0 p1 v6 v7 (wr ((wr ((wr (64*v8))+(wr (x9.toNat:Int))))-128)) (wr (v9+1))
  else
   some v8
theorem Q55:∀ n:Nat,(∀ (p0:(List UInt8)) (p1:Int) (v6:(List Int)) (v7:Int) (v8:Int) (v9:Int),leO (Qjq n p0 p1 v6 v7 v8 v9) (Qee p0 p1 v6 v7 v8 v9)):=by
 intro n
 induction n with
 | zero=>exact λ_ _ _ _ _ _=>leO.no _
 | succ n ih =>
  intro p0 p1 v6 v7 v8 v9;rw[Qee,Qjq]
  repeat' first | (with_reducible exact leO.refl _) | apply ih | apply leO.bind | apply leO.ite | intro _ | split
theorem Q56(n:Nat):∀ (p0:(List UInt8)) (p1:Int) (v6:(List Int)) (v7:Int) (v8:Int) (v9:Int),leO (Qjq n p0 p1 v6 v7 v8 v9) (Qee p0 p1 v6 v7 v8 v9):=(Q55 n)
def Qjr:Nat->(List UInt8)->Int->(List Int)->Int->Option (Unit⊕(Int×Int))
 | 0,_,_,_,_=>none
 | n+1,p0,p1,v6,v7 =>
  ( if(decide (v7<=4)) then
    some (decide (v7<=(wr ((p0.length:Int)-p1))))
   else
    some false:Option (Bool))>>=λo5 =>
  if o5 then
   idx p0 p1>>=λx6 =>
   idx v6 v7>>=λx7 =>
   (Qjq n p0 p1 v6 v7 (wr ((wr (x6.toNat:Int))-x7)) 1)>>=λo8 =>
   ( if(decide (o8 >= 0)) then
     Qn3 o8>>=λx11 =>
     if x11 then
      Qnd o8>>=λx12 =>
      cutL p0 p1 (wr (p1+v7))>>=λx13 =>
      some (x12==x13)
     else
      some false
    else
     some false:Option (Bool))>>=λo10 =>
   if o10 then
    some (.inr (o8,v7))
   else
    Qjr n p0 p1 v6 (wr (v7+1))
  else
   some (.inl ())
theorem Q57:∀ n:Nat,(∀ (p0:(List UInt8)) (p1:Int) (v6:(List Int)) (v7:Int),leO (Qjr n p0 p1 v6 v7) (Qc4 p0 p1 v6 v7)):=by
 intro n
 induction n with
 | zero=>exact λ_ _ _ _=>leO.no _
 | succ n ih =>
  intro p0 p1 v6 v7;rw[Qc4,Qjr]
  repeat' first | (with_reducible exact leO.refl _) | apply ih | apply Q56 | apply leO.bind | apply leO.ite | intro _ | split
theorem Q58(n:Nat):∀ (p0:(List UInt8)) (p1:Int) (v6:(List Int)) (v7:Int),leO (Qjr n p0 p1 v6 v7) (Qc4 p0 p1 v6 v7):=(Q57 n)
def Qul:Nat->(List UInt8)->Int->Option (Int×Int)
 | 0,_,_=>none
 | n+1,p0,p1 =>
  ( if(decide (p1<0)) then
    some true
   else
    some (decide (p1 >= (p0.length:Int))):Option (Bool))>>=λo1 =>
  if o1 then
   some (0,0)
  else
   (Qjr n p0 p1 [0,0,192,224,240] 1)>>=λo2 =>
   match o2 with
   | .inl y3 =>
    some (65533,1)
   | .inr y4 =>
    some (y4.1,y4.2)
theorem Qag0:∀ n:Nat,(∀ (p0:(List UInt8)) (p1:Int),leO (Qul n p0 p1) (Qmc p0 p1)):=by
 intro n
 induction n with
 | zero=>exact λ_ _=>leO.no _
 | succ n ih =>
  intro p0 p1;rw[Qmc,Qul]
  repeat' first | (with_reducible exact leO.refl _) | apply Q58 | apply leO.bind | apply leO.ite | intro _ | split
theorem Qag1(n:Nat):∀ (p0:(List UInt8)) (p1:Int),leO (Qul n p0 p1) (Qmc p0 p1):=(Qag0 n)
def Qg4:Nat->(List UInt8)->Int->Option (Int)
 | 0,_,_=>none
 | n+1,p0,v1 =>
  ( if(decide (v1<(p0.length:Int))) then
    idx p0 v1>>=λx3 =>
    Qx3 (x3.toNat:Int)>>=λx4 =>
    some x4
   else
    some false:Option (Bool))>>=λo2 =>
  if o2 then
   Qg4 n p0 (wr (v1+1))
  else
   some v1
theorem Q0n:∀ n:Nat,(∀ (p0:(List UInt8)) (v1:Int),leO (Qg4 n p0 v1) (Qfg p0 v1)):=by
 intro n
 induction n with
 | zero=>exact λ_ _=>leO.no _
 | succ n ih =>
  intro p0 v1;rw[Qfg,Qg4]
  repeat' first | (with_reducible exact leO.refl _) | apply ih | apply leO.bind | apply leO.ite | intro _ | split
theorem Q0o(n:Nat):∀ (p0:(List UInt8)) (v1:Int),leO (Qg4 n p0 v1) (Qfg p0 v1):=(Q0n n)
def Qlk:Nat->(List UInt8)->Int->Option (Int)
 | 0,_,_=>none
 | n+1,p0,p1 =>
  (Qg4 n p0 p1)>>=λo1 =>
  some o1
theorem Qaas:∀ n:Nat,(∀ (p0:(List UInt8)) (p1:Int),leO (Qlk n p0 p1) (Qkp p0 p1)):=by
 intro n
 induction n with
 | zero=>exact λ_ _=>leO.no _
 | succ n ih =>
  intro p0 p1;rw[Qkp,Qlk]
  repeat' first | (with_reducible exact leO.refl _) | apply Q0o | apply leO.bind | apply leO.ite | intro _ | split
theorem Qyd(n:Nat):∀ (p0:(List UInt8)) (p1:Int),leO (Qlk n p0 p1) (Qkp p0 p1):=(Qaas n)
def Qjs:Nat->(List UInt8)->Int->Option (Unit⊕Unit)
 | 0,_,_=>none
 | n+1,p0,v3 =>
  if(decide (v3<(p0.length:Int))) then
   ( idx p0 v3>>=λx8 =>
    Qfr (x8.toNat:Int)>>=λx9 =>
    if(!x9) then
     idx p0 v3>>=λx10 =>
     Qfq (x10.toNat:Int)>>=λx11 =>
     if(!x11) then
      idx p0 v3>>=λx12 =>
      some ((x12.toNat:Int) != 95)
     else
      some false
    else
     some false:Option (Bool))>>=λo7 =>
   if o7 then
    some (.inr ())
   else
    Qjs n p0 (wr (v3+1))
  else
   some (.inl ())
theorem Q59:∀ n:Nat,(∀ (p0:(List UInt8)) (v3:Int),leO (Qjs n p0 v3) (Qef p0 v3)):=by
 intro n
 induction n with
 | zero=>exact λ_ _=>leO.no _
 | succ n ih =>
  intro p0 v3;rw[Qef,Qjs]
  repeat' first | (with_reducible exact leO.refl _) | apply ih | apply leO.bind | apply leO.ite | intro _ | split
theorem Q6a(n:Nat):∀ (p0:(List UInt8)) (v3:Int),leO (Qjs n p0 v3) (Qef p0 v3):=(Q59 n)
def Qmp:Nat->(List UInt8)->Option (Bool)
 | 0,_=>none
 | n+1,p0 =>
  ( if(decide ((p0.length:Int)<1)) then
    some true
   else
    if(decide ((p0.length:Int)>32)) then
     some true
    else
     idx p0 0>>=λx2 =>
     Qfr (x2.toNat:Int)>>=λx3 =>
     some (!x3):Option (Bool))>>=λo1 =>
  if o1 then
   some false
  else
   (Qjs n p0 0)>>=λo4 =>
   match o4 with
   | .inl y5 =>
    some true
   | .inr y6 =>
    some false
theorem Qag2:∀ n:Nat,(∀ (p0:(List UInt8)),leO (Qmp n p0) (Qh2 p0)):=by
 intro n
 induction n with
 | zero=>exact λ_=>leO.no _
 | succ n ih =>
  intro p0;rw[Qh2,Qmp]
  repeat' first | (with_reducible exact leO.refl _) | apply Q6a | apply leO.bind | apply leO.ite | intro _ | split
theorem Qwy(n:Nat):∀ (p0:(List UInt8)),leO (Qmp n p0) (Qh2 p0):=(Qag2 n)
def Qll:Nat->(List UInt8)->Int->UInt8->Int->Option (Unit⊕(Int×Int))
 | 0,_,_,_,_=>none
 | n+1,p0,p1,x1,v9 =>
  if(decide (v9<([46,40,41,44,61].length:Int))) then
   idx ([46,40,41,44,61]:List UInt8) v9>>=λx6 =>
   if((x6.toNat:Int)==(x1.toNat:Int)) then
    idx ([7,8,9,10,11]:List Int) v9>>=λx7 =>
    some (.inr (x7,x7))
   else
    Qll n p0 p1 x1 (wr (v9+1))
  else
   some (.inl ())
theorem Qaat:∀ n:Nat,(∀ (p0:(List UInt8)) (p1:Int) (x1:UInt8) (v9:Int),leO (Qll n p0 p1 x1 v9) (Qkq p0 p1 x1 v9)):=by
 intro n
 induction n with
 | zero=>exact λ_ _ _ _=>leO.no _
 | succ n ih =>
  intro p0 p1 x1 v9;rw[Qkq,Qll]
  repeat' first | (with_reducible exact leO.refl _) | apply ih | apply leO.bind | apply leO.ite | intro _ | split
theorem Qaau(n:Nat):∀ (p0:(List UInt8)) (p1:Int) (x1:UInt8) (v9:Int),leO (Qll n p0 p1 x1 v9) (Qkq p0 p1 x1 v9):=(Qaat n)
def Qlm:Nat->(List UInt8)->Int->Int->Option (Int)
 | 0,_,_,_=>none
 | n+1,p0,p1,v12 =>
  ( if(decide (v12<(p0.length:Int))) then
    idx p0 v12>>=λx12 =>
    Qfr (x12.toNat:Int)>>=λx13 =>
    if x13 then
     some true
    else
     idx p0 v12>>=λx14 =>
     Qfq (x14.toNat:Int)>>=λx15 =>
     if x15 then
      some true
     else
      idx p0 v12>>=λx16 =>
      some ((x16.toNat:Int)==95)
   else
    some false:Option (Bool))>>=λo11 =>
  if o11 then
   Qlm n p0 p1 (wr (v12+1))
  else
   some v12
theorem Qaav:∀ n:Nat,(∀ (p0:(List UInt8)) (p1:Int) (v12:Int),leO (Qlm n p0 p1 v12) (Qkr p0 p1 v12)):=by
 intro n
 induction n with
 | zero=>exact λ_ _ _=>leO.no _
 | succ n ih =>
  intro p0 p1 v12;rw[Qkr,Qlm]
  repeat' first | (with_reducible exact leO.refl _) | apply ih | apply leO.bind | apply leO.ite | intro _ | split
theorem Qaaw(n:Nat):∀ (p0:(List UInt8)) (p1:Int) (v12:Int),leO (Qlm n p0 p1 v12) (Qkr p0 p1 v12):=(Qaav n)
def Qln:Nat->(List UInt8)->Int->Int->Option (Int)
 | 0,_,_,_=>none
 | n+1,p0,p1,v12 =>
  ( if(decide (v12<(p0.length:Int))) then
    idx p0 v12>>=λx24 =>
    Qfq (x24.toNat:Int)>>=λx25 =>
    some x25
   else
    some false:Option (Bool))>>=λo23 =>
  if o23 then
   Qln n p0 p1 (wr (v12+1))
  else
   some v12
theorem Qaax:∀ n:Nat,(∀ (p0:(List UInt8)) (p1:Int) (v12:Int),leO (Qln n p0 p1 v12) (Qks p0 p1 v12)):=by
 intro n
 induction n with
 | zero=>exact λ_ _ _=>leO.no _
 | succ n ih =>
  intro p0 p1 v12;rw[Qks,Qln]
  repeat' first | (with_reducible exact leO.refl _) | apply ih | apply leO.bind | apply leO.ite | intro _ | split
theorem Qaay(n:Nat):∀ (p0:(List UInt8)) (p1:Int) (v12:Int),leO (Qln n p0 p1 v12) (Qks p0 p1 v12):=(Qaax n)
def Qdd:Nat->(List UInt8)->Int->(List UInt8)->Option (Unit⊕((List UInt8)×Int))
 | 0,_,_,_=>none
 | n+1,p0,v1,v6 =>
  if(decide (v1<(p0.length:Int))) then
   idx p0 v1>>=λx4 =>
   if((x4.toNat:Int)==34) then
    some (.inr (v6,(wr (v1+1))))
   else
    idx p0 v1>>=λx5 =>
    if((x5.toNat:Int)==92) then
     if((wr (v1+1))==(p0.length:Int)) then
      some (.inr ([],(-1)))
     else
      ( idx p0 (wr (v1+1))>>=λx7 =>
       some (x7.toNat:Int):Option (Int))>>=λo6 =>
      if(o6==110) then
       need (v6.length+[10].length<=9223372036854775807)>>=λ_ =>
       Qdd n p0 (wr (v1+2)) (v6++[10])
      else
       if(o6==116) then
        need (v6.length+[9].length<=9223372036854775807)>>=λ_ =>
        Qdd n p0 (wr (v1+2)) (v6++[9])
       else
        ( if(o6==34) then
          some true
         else
          some (o6==92):Option (Bool))>>=λo8 =>
        if o8 then
         cutL p0 (wr (v1+1)) (wr (v1+2))>>=λx9 =>
         need (v6.length+x9.length<=9223372036854775807)>>=λ_ =>
         Qdd n p0 (wr (v1+2)) (v6++x9)
        else
         some (.inr ([],(-1)))
    else
     Qul n p0 v1>>=λx10 =>
     ( if(x10.1==10) then
       some true
      else
       if(x10.1==13) then
        some true
       else
        if(x10.1==65533) then
         some (x10.2==1)
        else
         some false:Option (Bool))>>=λo11 =>
     if o11 then
      some (.inr ([],(-1)))
     else
      cutL p0 v1 (wr (v1+x10.2))>>=λx12 =>
      need (v6.length+x12.length<=9223372036854775807)>>=λ_ =>
      Qdd n p0 (wr (v1+x10.2)) (v6++x12)
  else
   some (.inl ())
theorem Q0p:∀ n:Nat,(∀ (p0:(List UInt8)) (v1:Int) (v6:(List UInt8)),leO (Qdd n p0 v1 v6) (Qc9 p0 v1 v6)):=by
 intro n
 induction n with
 | zero=>exact λ_ _ _=>leO.no _
 | succ n ih =>
  intro p0 v1 v6;rw[Qc9,Qdd]
  repeat' first | (with_reducible exact leO.refl _) | apply ih | apply Qag1 | apply leO.bind | apply leO.ite | intro _ | split
theorem Q0q(n:Nat):∀ (p0:(List UInt8)) (v1:Int) (v6:(List UInt8)),leO (Qdd n p0 v1 v6) (Qc9 p0 v1 v6):=(Q0p n)
def Qog:Nat->(List UInt8)->Int->Option ((List UInt8)×Int)
 | 0,_,_=>none
 | n+1,p0,p1 =>
  (Qdd n p0 (wr (p1+1)) [])>>=λo1 =>
  match o1 with
  | .inl y2 =>
   some ([],(-1))
  | .inr y3 =>
   some (y3.1,y3.2)
theorem Qaaz:∀ n:Nat,(∀ (p0:(List UInt8)) (p1:Int),leO (Qog n p0 p1) (Qml p0 p1)):=by
 intro n
 induction n with
 | zero=>exact λ_ _=>leO.no _
 | succ n ih =>
  intro p0 p1;rw[Qml,Qog]
  repeat' first | (with_reducible exact leO.refl _) | apply Q0q | apply leO.bind | apply leO.ite | intro _ | split
theorem Qaa0(n:Nat):∀ (p0:(List UInt8)) (p1:Int),leO (Qog n p0 p1) (Qml p0 p1):=(Qaaz n)
def Qye:Nat->(List UInt8)->Int->Option (Qai×Bool)
 | 0,_,_=>none
 | n+1,p0,p1 =>
  idx p0 p1>>=λx1 =>
  Qeu p0 [125,125] p1>>=λx2 =>
  if x2 then
   some ((Qai.mk 3 [] 0 p1 (wr (p1+2))),true)
  else
   (Qll n p0 p1 x1 0)>>=λo3 =>
   match o3 with
   | .inl y4 =>
    if((x1.toNat:Int)==34) then
     Qog n p0 p1>>=λx8 =>
     some ((Qai.mk 5 x8.1 0 p1 x8.2),(decide (x8.2>0)))
    else
     Qfr (x1.toNat:Int)>>=λx9 =>
     if x9 then
      (Qlm n p0 p1 (wr (p1+1)))>>=λo10 =>
      cutL p0 p1 o10>>=λx17 =>
      cutL p0 p1 o10>>=λx18 =>
      Qmp n x18>>=λx19 =>
      some ((Qai.mk 4 x17 0 p1 o10),x19)
     else
      ( if((x1.toNat:Int)==45) then
        some true
       else
        Qfq (x1.toNat:Int)>>=λx21 =>
        some x21:Option (Bool))>>=λo20 =>
      if o20 then
       (Qln n p0 p1 (wr (p1+1)))>>=λo22 =>
       cutL p0 p1 o22>>=λx26 =>
       Quf x26>>=λx27 =>
       some ((Qai.mk 6 [] x27.1 p1 o22),x27.2)
      else
       some ((Qai.mk 0 [] 0 p1 (wr (p1+1))),false)
   | .inr y5 =>
    some ((Qai.mk y5.1 [] 0 p1 (wr (p1+1))),true)
theorem Qaka:∀ n:Nat,(∀ (p0:(List UInt8)) (p1:Int),leO (Qye n p0 p1) (Qy2 p0 p1)):=by
 intro n
 induction n with
 | zero=>exact λ_ _=>leO.no _
 | succ n ih =>
  intro p0 p1;rw[Qy2,Qye]
  repeat' first | (with_reducible exact leO.refl _) | apply Qwy | apply Qaau | apply Qaaw | apply Qaay | apply Qaa0 | apply leO.bind | apply leO.ite | intro _ | split
theorem Qakb(n:Nat):∀ (p0:(List UInt8)) (p1:Int),leO (Qye n p0 p1) (Qy2 p0 p1):=(Qaka n)
def Qg5:Nat->(List UInt8)->(List Qai)->Int->Option (((List Qai)×Int)⊕Int)
 | 0,_,_,_=>none
 | n+1,p0,v5_,v6_ =>
  Qlk n p0 v6_>>=λx16 =>
  if(x16==(p0.length:Int)) then
   some (.inr x16)
  else
   Qye n p0 x16>>=λx17 =>
   if(!x17.2) then
    some (.inr x16)
   else
    appL 48 v5_ [x17.1]>>=λx18 =>
    if(x17.1.Kind==3) then
     some (.inl (x18,x17.1.To))
    else
     Qg5 n p0 x18 x17.1.To
theorem Q0r:∀ n:Nat,(∀ (p0:(List UInt8)) (v5_:(List Qai)) (v6_:Int),leO (Qg5 n p0 v5_ v6_) (Qfh p0 v5_ v6_)):=by
 intro n
 induction n with
 | zero=>exact λ_ _ _=>leO.no _
 | succ n ih =>
  intro p0 v5_ v6_;rw[Qfh,Qg5]
  repeat' first | (with_reducible exact leO.refl _) | apply ih | apply Qyd | apply Qakb | apply leO.bind | apply leO.ite | intro _ | split
theorem Q0s(n:Nat):∀ (p0:(List UInt8)) (v5_:(List Qai)) (v6_:Int),leO (Qg5 n p0 v5_ v6_) (Qfh p0 v5_ v6_):=(Q0r n)
def Qjt:Nat->(List UInt8)->(List UInt8)->Int->Option (Int)
 | 0,_,_,_=>none
 | n+1,p0,p1,v2 =>
  ( if(decide (v2<(p0.length:Int))) then
    Qeu p0 p1 v2>>=λx3 =>
    some (!x3)
   else
    some false:Option (Bool))>>=λo2 =>
  if o2 then
   Qjt n p0 p1 (wr (v2+1))
  else
   some v2
theorem Q6b:∀ n:Nat,(∀ (p0:(List UInt8)) (p1:(List UInt8)) (v2:Int),leO (Qjt n p0 p1 v2) (Qih p0 p1 v2)):=by
 intro n
 induction n with
 | zero=>exact λ_ _ _=>leO.no _
 | succ n ih =>
  intro p0 p1 v2;rw[Qih,Qjt]
  repeat' first | (with_reducible exact leO.refl _) | apply ih | apply leO.bind | apply leO.ite | intro _ | split
theorem Q6c(n:Nat):∀ (p0:(List UInt8)) (p1:(List UInt8)) (v2:Int),leO (Qjt n p0 p1 v2) (Qih p0 p1 v2):=(Q6b n)
def Qp0:Nat->(List UInt8)->(List UInt8)->Int->Option (Int)
 | 0,_,_,_=>none
 | n+1,p0,p1,p2 =>
  (Qjt n p0 p1 p2)>>=λo1 =>
  some o1
theorem Qag3:∀ n:Nat,(∀ (p0:(List UInt8)) (p1:(List UInt8)) (p2:Int),leO (Qp0 n p0 p1 p2) (Qqr p0 p1 p2)):=by
 intro n
 induction n with
 | zero=>exact λ_ _ _=>leO.no _
 | succ n ih =>
  intro p0 p1 p2;rw[Qqr,Qp0]
  repeat' first | (with_reducible exact leO.refl _) | apply Q6c | apply leO.bind | apply leO.ite | intro _ | split
theorem Qag4(n:Nat):∀ (p0:(List UInt8)) (p1:(List UInt8)) (p2:Int),leO (Qp0 n p0 p1 p2) (Qqr p0 p1 p2):=(Qag3 n)
def Qg6:Nat->(List UInt8)->(List Qai)->Int->Option ((List Qai)⊕((List Qai)×Int×Int))
 | 0,_,_,_=>none
 | n+1,p0,v5,v6 =>
  if(decide (v6<(p0.length:Int))) then
   Qp0 n p0 [123,123] v6>>=λx4 =>
   ( if(decide (x4>v6)) then
     cutL p0 v6 x4>>=λx6 =>
     appL 48 v5 [(Qai.mk 1 x6 0 v6 x4)]>>=λx7 =>
     some x7
    else
     some v5:Option ((List Qai)))>>=λo5 =>
   if(x4==(p0.length:Int)) then
    some (.inr (o5,0,0))
   else
    appL 48 o5 ([(Qai.mk 2 [] 0 x4 (wr (x4+2)))])>>=λx8 =>
    Qlk n p0 (wr (x4+2))>>=λx9 =>
    ( Qeu p0 [35] x9>>=λx11 =>
     if x11 then
      Qp0 n p0 [125,125] x9>>=λx12 =>
      some x12
     else
      some x9:Option (Int))>>=λo10 =>
    (Qg5 n p0 x8 o10)>>=λo13 =>
    match o13 with
    | .inl y14 =>
     Qg6 n p0 y14.1 y14.2
    | .inr y15 =>
     some (.inr ([],y15,7))
  else
   some (.inl v5)
theorem Q0t:∀ n:Nat,(∀ (p0:(List UInt8)) (v5:(List Qai)) (v6:Int),leO (Qg6 n p0 v5 v6) (Qfi p0 v5 v6)):=by
 intro n
 induction n with
 | zero=>exact λ_ _ _=>leO.no _
 | succ n ih =>
  intro p0 v5 v6;rw[Qfi,Qg6]
  repeat' first | (with_reducible exact leO.refl _) | apply ih | apply Q0s | apply Qyd | apply Qag4 | apply leO.bind | apply leO.ite | intro _ | split
theorem Q0u(n:Nat):∀ (p0:(List UInt8)) (v5:(List Qai)) (v6:Int),leO (Qg6 n p0 v5 v6) (Qfi p0 v5 v6):=(Q0t n)
def Qoh:Nat->(List UInt8)->Option ((List Qai)×Int×Int)
 | 0,_=>none
 | n+1,p0 =>
  if(decide ((p0.length:Int)>65536)) then
   some ([],0,6)
  else
   (Qg6 n p0 [] 0)>>=λo1 =>
   match o1 with
   | .inl y2 =>
    some (y2,0,0)
   | .inr y3 =>
    some (y3.1,y3.2.1,y3.2.2)
theorem Qaa1:∀ n:Nat,(∀ (p0:(List UInt8)),leO (Qoh n p0) (Qmm p0)):=by
 intro n
 induction n with
 | zero=>exact λ_=>leO.no _
 | succ n ih =>
  intro p0;rw[Qmm,Qoh]
  repeat' first | (with_reducible exact leO.refl _) | apply Q0u | apply leO.bind | apply leO.ite | intro _ | split
theorem Qaa2(n:Nat):∀ (p0:(List UInt8)),leO (Qoh n p0) (Qmm p0):=(Qaa1 n)
mutual
def Qin:Nat->(List Qab)->Option (Int)
 | 0,_=>none
 | n+1,p0 =>
  (Qk5 n p0 0 0)>>=λo1 =>
  some o1
def Qk5:Nat->(List Qab)->Int->Int->Option (Int)
 | 0,_,_,_=>none
 | n+1,p0,v3,v4 =>
  if(decide (v4<(p0.length:Int))) then
   idx p0 v4>>=λx2 =>
   Qin n x2.L>>=λx3 =>
   idx p0 v4>>=λx4 =>
   Qin n x4.Then>>=λx5 =>
   idx p0 v4>>=λx6 =>
   Qin n x6.Else>>=λx7 =>
   Qk5 n p0 (wr ((wr ((wr ((wr (v3+1))+x3))+x5))+x7)) (wr (v4+1))
  else
   some v3
end
theorem Qaep:∀ n:Nat,(∀ (p0:(List Qab)),leO (Qin n p0) (Qdv p0))/\(∀ (p0:(List Qab)) (v3:Int) (v4:Int),leO (Qk5 n p0 v3 v4) (Qd7 p0 v3 v4)):=by
 intro n
 induction n with
 | zero=>exact⟨λ_=>leO.no _,λ_ _ _=>leO.no _⟩
 | succ n ih =>
  obtain⟨i0,i1⟩:=ih;refine⟨?_,?_⟩
  .intro p0;rw[Qdv,Qin]
   repeat' first | (with_reducible exact leO.refl _) | apply i0 | apply i1 | apply leO.bind | apply leO.ite | intro _ | split
  .intro p0 v3 v4;rw[Qd7,Qk5]
   repeat' first | (with_reducible exact leO.refl _) | apply i0 | apply i1 | apply leO.bind | apply leO.ite | intro _ | split
theorem Qaeq(n:Nat):∀ (p0:(List Qab)),leO (Qin n p0) (Qdv p0):=(Qaep n).1
mutual
def Qkx:Nat->(List Qab)->Option (Int)
 | 0,_=>none
 | n+1,p0 =>
  (Qmf n p0 0 0)>>=λo1 =>
  some o1
def Qmf:Nat->(List Qab)->Int->Int->Option (Int)
 | 0,_,_,_=>none
 | n+1,p0,v3,v4 =>
  if(decide (v4<(p0.length:Int))) then
   idx p0 v4>>=λx2 =>
   Qkx n x2.L>>=λx3 =>
   idx p0 v4>>=λx4 =>
   Qkx n x4.Then>>=λx5 =>
   idx p0 v4>>=λx6 =>
   Qkx n x6.Else>>=λx7 =>
   Qmf n p0 (if(wr (1+(if x7>(if x5>x3 then x5 else x3) then x7 else(if x5>x3 then x5 else x3))))>v3 then(wr (1+(if x7>(if x5>x3 then x5 else x3) then x7 else(if x5>x3 then x5 else x3)))) else v3) (wr (v4+1))
  else
   some v3
end
theorem Qag5:∀ n:Nat,(∀ (p0:(List Qab)),leO (Qkx n p0) (Qe6 p0))/\(∀ (p0:(List Qab)) (v3:Int) (v4:Int),leO (Qmf n p0 v3 v4) (Qe7 p0 v3 v4)):=by
 intro n
 induction n with
 | zero=>exact⟨λ_=>leO.no _,λ_ _ _=>leO.no _⟩
 | succ n ih =>
  obtain⟨i0,i1⟩:=ih;refine⟨?_,?_⟩
  .intro p0;rw[Qe6,Qkx]
   repeat' first | (with_reducible exact leO.refl _) | apply i0 | apply i1 | apply leO.bind | apply leO.ite | intro _ | split
  .intro p0 v3 v4;rw[Qe7,Qmf]
   repeat' first | (with_reducible exact leO.refl _) | apply i0 | apply i1 | apply leO.bind | apply leO.ite | intro _ | split
theorem Qag6(n:Nat):∀ (p0:(List Qab)),leO (Qkx n p0) (Qe6 p0):=(Qag5 n).1
def Qju:Nat->(List UInt8)->(List (List UInt8))->Int->Option (Unit⊕Unit)
 | 0,_,_,_=>none
 | n+1,p0,x1,v4 =>
  if(decide (v4<(x1.length:Int))) then
   idx x1 v4>>=λx5 =>
   if(x5==p0) then
    some (.inr ())
   else
    Qju n p0 x1 (wr (v4+1))
  else
   some (.inl ())
theorem Q6d:∀ n:Nat,(∀ (p0:(List UInt8)) (x1:(List (List UInt8))) (v4:Int),leO (Qju n p0 x1 v4) (Qdw p0 x1 v4)):=by
 intro n
 induction n with
 | zero=>exact λ_ _ _=>leO.no _
 | succ n ih =>
  intro p0 x1 v4;rw[Qdw,Qju]
  repeat' first | (with_reducible exact leO.refl _) | apply ih | apply leO.bind | apply leO.ite | intro _ | split
theorem Q6e(n:Nat):∀ (p0:(List UInt8)) (x1:(List (List UInt8))) (v4:Int),leO (Qju n p0 x1 v4) (Qdw p0 x1 v4):=(Q6d n)
def Qum:Nat->(List UInt8)->Option (Bool)
 | 0,_=>none
 | n+1,p0 =>
  Qs7>>=λx1 =>
  (Qju n p0 x1 0)>>=λo2 =>
  match o2 with
  | .inl y3 =>
   Qmp n p0>>=λx6 =>
   some x6
  | .inr y4 =>
   some false
theorem Qag7:∀ n:Nat,(∀ (p0:(List UInt8)),leO (Qum n p0) (Qhg p0)):=by
 intro n
 induction n with
 | zero=>exact λ_=>leO.no _
 | succ n ih =>
  intro p0;rw[Qhg,Qum]
  repeat' first | (with_reducible exact leO.refl _) | apply Qwy | apply Q6e | apply leO.bind | apply leO.ite | intro _ | split
theorem Qag8(n:Nat):∀ (p0:(List UInt8)),leO (Qum n p0) (Qhg p0):=(Qag7 n)
def Qdg:Nat->(List Qai)->Int->Bool->Int->(List UInt8)->(List UInt8)->Int->(List Qab)->(List Qab)->(List Qab)->Option ((Int×Bool×Int×(List UInt8)×(List UInt8)×Int×(List Qab)×(List Qab)×(List Qab)))
 | 0,_,_,_,_,_,_,_,_,_,_=>none
 | n+1,h0_0,h0_1_,h0_2_,h2_0,h2_1,h2_2,h2_3,h2_4,h2_5,h2_6 =>
  Qas 7 h0_0 h0_1_ h0_2_>>=λx3 =>
  if x3 then
   Qal true h0_0 h0_1_ h0_2_>>=λx4 =>
   Qas 4 h0_0 x4.2.1 x4.2.2>>=λx5 =>
   Qal x5 h0_0 x4.2.1 x4.2.2>>=λx6 =>
   Qdg n h0_0 x6.2.1 x6.2.2 5 x6.1.Text [] 0 [(Qab.mk h2_0 h2_1 h2_2 h2_3 h2_4 h2_5 h2_6)] [] []
  else
   some (h0_1_,h0_2_,h2_0,h2_1,h2_2,h2_3,h2_4,h2_5,h2_6)
theorem Qtv:∀ n:Nat,(∀ (h0_0:(List Qai)) (h0_1_:Int) (h0_2_:Bool) (h2_0:Int) (h2_1:(List UInt8)) (h2_2:(List UInt8)) (h2_3:Int) (h2_4:(List Qab)) (h2_5:(List Qab)) (h2_6:(List Qab)),leO (Qdg n h0_0 h0_1_ h0_2_ h2_0 h2_1 h2_2 h2_3 h2_4 h2_5 h2_6) (Qco h0_0 h0_1_ h0_2_ h2_0 h2_1 h2_2 h2_3 h2_4 h2_5 h2_6)):=by
 intro n
 induction n with
 | zero=>exact λ_ _ _ _ _ _ _ _ _ _=>leO.no _
 | succ n ih =>
  intro h0_0 h0_1_ h0_2_ h2_0 h2_1 h2_2 h2_3 h2_4 h2_5 h2_6;rw[Qco,Qdg]
  repeat' first | (with_reducible exact leO.refl _) | apply ih | apply leO.bind | apply leO.ite | intro _ | split
theorem Qtw(n:Nat):∀ (h0_0:(List Qai)) (h0_1_:Int) (h0_2_:Bool) (h2_0:Int) (h2_1:(List UInt8)) (h2_2:(List UInt8)) (h2_3:Int) (h2_4:(List Qab)) (h2_5:(List Qab)) (h2_6:(List Qab)),leO (Qdg n h0_0 h0_1_ h0_2_ h2_0 h2_1 h2_2 h2_3 h2_4 h2_5 h2_6) (Qco h0_0 h0_1_ h0_2_ h2_0 h2_1 h2_2 h2_3 h2_4 h2_5 h2_6):=(Qtv n)
def Qdr:Nat->(List Qai)->Int->Bool->Option ((List UInt8)×Int×Bool)
 | 0,_,_,_=>none
 | n+1,h0_0,h0_1,h0_2 =>
  ( Qas 4 h0_0 h0_1 h0_2>>=λx2 =>
   if x2 then
    idx h0_0 h0_1>>=λx3 =>
    Qum n x3.Text>>=λx4 =>
    Qal x4 h0_0 h0_1 h0_2>>=λx5 =>
    some (x5.1.Text,x5.2.1,x5.2.2)
   else
    Qal false h0_0 h0_1 h0_2>>=λx6 =>
    some (x6.1.Text,x6.2.1,x6.2.2):Option (((List UInt8)×Int×Bool)))>>=λo1 =>
  some (o1.1,o1.2.1,o1.2.2)
theorem Qyf:∀ n:Nat,(∀ (h0_0:(List Qai)) (h0_1:Int) (h0_2:Bool),leO (Qdr n h0_0 h0_1 h0_2) (Qdc h0_0 h0_1 h0_2)):=by
 intro n
 induction n with
 | zero=>exact λ_ _ _=>leO.no _
 | succ n ih =>
  intro h0_0 h0_1 h0_2;rw[Qdc,Qdr]
  repeat' first | (with_reducible exact leO.refl _) | apply Qag8 | apply leO.bind | apply leO.ite | intro _ | split
theorem Qoi(n:Nat):∀ (h0_0:(List Qai)) (h0_1:Int) (h0_2:Bool),leO (Qdr n h0_0 h0_1 h0_2) (Qdc h0_0 h0_1 h0_2):=(Qyf n)
mutual
def Qc8:Nat->(List Qai)->Int->Bool->Option (Qab×Int×Bool)
 | 0,_,_,_=>none
 | n+1,h0_0,h0_1,h0_2 =>
  Qjv n h0_0 h0_1 h0_2>>=λx1 =>
  (Qdg n h0_0 x1.2.1 x1.2.2 x1.1.Kind x1.1.Name x1.1.Text x1.1.N x1.1.L x1.1.Then x1.1.Else)>>=λo2 =>
  some ((Qab.mk o2.2.2.1 o2.2.2.2.1 o2.2.2.2.2.1 o2.2.2.2.2.2.1 o2.2.2.2.2.2.2.1 o2.2.2.2.2.2.2.2.1 o2.2.2.2.2.2.2.2.2),o2.1,o2.2.1)
def Qjv:Nat->(List Qai)->Int->Bool->Option (Qab×Int×Bool)
 | 0,_,_,_=>none
 | n+1,h0_0,h0_1,h0_2 =>
  Qas 5 h0_0 h0_1 h0_2>>=λx1 =>
  if x1 then
   Qal true h0_0 h0_1 h0_2>>=λx2 =>
   some ((Qab.mk 1 [] x2.1.Text 0 [] [] []),x2.2.1,x2.2.2)
  else
   Qas 6 h0_0 h0_1 h0_2>>=λx3 =>
   if x3 then
    Qal true h0_0 h0_1 h0_2>>=λx4 =>
    some ((Qab.mk 2 [] [] x4.1.N [] [] []),x4.2.1,x4.2.2)
   else
    Qa2 [116,114,117,101] h0_0 h0_1 h0_2>>=λx5 =>
    if x5 then
     Qal true h0_0 h0_1 h0_2>>=λx6 =>
     some ((Qab.mk 3 [] [] 1 [] [] []),x6.2.1,x6.2.2)
    else
     Qa2 [102,97,108,115,101] h0_0 h0_1 h0_2>>=λx7 =>
     if x7 then
      Qal true h0_0 h0_1 h0_2>>=λx8 =>
      some ((Qab.mk 3 [] [] 0 [] [] []),x8.2.1,x8.2.2)
     else
      Qa2 [115,101,99,114,101,116] h0_0 h0_1 h0_2>>=λx9 =>
      if x9 then
       Qal true h0_0 h0_1 h0_2>>=λx10 =>
       Qas 8 h0_0 x10.2.1 x10.2.2>>=λx11 =>
       Qal x11 h0_0 x10.2.1 x10.2.2>>=λx12 =>
       ( Qas 5 h0_0 x12.2.1 x12.2.2>>=λx14 =>
        if x14 then
         idx h0_0 x12.2.1>>=λx15 =>
         Qmp n x15.Text>>=λx16 =>
         Qal x16 h0_0 x12.2.1 x12.2.2>>=λx17 =>
         some (x17.2.1,x17.2.2,x17.1.Kind,x17.1.Text,x17.1.N,x17.1.From,x17.1.To)
        else
         Qal false h0_0 x12.2.1 x12.2.2>>=λx18 =>
         some (x18.2.1,x18.2.2,x18.1.Kind,x18.1.Text,x18.1.N,x18.1.From,x18.1.To):Option ((Int×Bool×Int×(List UInt8)×Int×Int×Int)))>>=λo13 =>
       Qas 9 h0_0 o13.1 o13.2.1>>=λx19 =>
       Qal x19 h0_0 o13.1 o13.2.1>>=λx20 =>
       some ((Qab.mk 7 o13.2.2.2.1 [] 0 [] [] []),x20.2.1,x20.2.2)
      else
       Qdr n h0_0 h0_1 h0_2>>=λx21 =>
       Qas 8 h0_0 x21.2.1 x21.2.2>>=λx22 =>
       if(!x22) then
        some ((Qab.mk 4 x21.1 [] 0 [] [] []),x21.2.1,x21.2.2)
       else
        Qal true h0_0 x21.2.1 x21.2.2>>=λx23 =>
        Qas 9 h0_0 x23.2.1 x23.2.2>>=λx24 =>
        if x24 then
         Qal true h0_0 x23.2.1 x23.2.2>>=λx25 =>
         some ((Qab.mk 6 x21.1 [] 0 [] [] []),x25.2.1,x25.2.2)
        else
         (Qde n h0_0 x21 0 x23.2.1 x23.2.2 [])>>=λo26 =>
         Qas 9 h0_0 o26.1 o26.2.1>>=λx33 =>
         Qal x33 h0_0 o26.1 o26.2.1>>=λx34 =>
         some ((Qab.mk 6 x21.1 [] 0 o26.2.2 [] []),x34.2.1,x34.2.2)
def Qde:Nat->(List Qai)->(List UInt8)×Int×Bool->Int->Int->Bool->(List Qab)->Option ((Int×Bool×(List Qab)))
 | 0,_,_,_,_,_,_=>none
 | n+1,h0_0,x21,v5,h0_1_,h0_2_,h2_4 =>
  ( if(decide (v5<3)) then
    some (!h0_2_)
   else
    some false:Option (Bool))>>=λo27 =>
  if o27 then
   Qc8 n h0_0 h0_1_ h0_2_>>=λx28 =>
   appL 120 h2_4 [x28.1]>>=λx29 =>
   Qas 9 h0_0 x28.2.1 x28.2.2>>=λx30 =>
   if x30 then
    some (x28.2.1,x28.2.2,x29)
   else
    if(decide (v5<2)) then
     Qas 10 h0_0 x28.2.1 x28.2.2>>=λx31 =>
     Qal x31 h0_0 x28.2.1 x28.2.2>>=λx32 =>
     Qde n h0_0 x21 (wr (v5+1)) x32.2.1 x32.2.2 x29
    else
     Qde n h0_0 x21 (wr (v5+1)) x28.2.1 x28.2.2 x29
  else
   some (h0_1_,h0_2_,h2_4)
end
theorem Qyg:∀ n:Nat,(∀ (h0_0:(List Qai)) (h0_1:Int) (h0_2:Bool),leO (Qc8 n h0_0 h0_1 h0_2) (Qcc h0_0 h0_1 h0_2))/\(∀ (h0_0:(List Qai)) (h0_1:Int) (h0_2:Bool),leO (Qjv n h0_0 h0_1 h0_2) (Qh5 h0_0 h0_1 h0_2))/\(∀ (h0_0:(List Qai)) (x21:(List UInt8)×Int×Bool) (v5:Int) (h0_1_:Int) (h0_2_:Bool) (h2_4:(List Qab)),leO (Qde n h0_0 x21 v5 h0_1_ h0_2_ h2_4) (Qc6 h0_0 x21 v5 h0_1_ h0_2_ h2_4)):=by
 intro n
 induction n with
 | zero=>exact⟨λ_ _ _=>leO.no _,λ_ _ _=>leO.no _,λ_ _ _ _ _ _=>leO.no _⟩
 | succ n ih =>
  obtain⟨i0,i1,i2⟩:=ih;refine⟨?_,?_,?_⟩
  .intro h0_0 h0_1 h0_2;rw[Qcc,Qc8]
   repeat' first | (with_reducible exact leO.refl _) | apply i0 | apply i1 | apply i2 | apply Qtw | apply leO.bind | apply leO.ite | intro _ | split
  .intro h0_0 h0_1 h0_2;rw[Qh5,Qjv]
   repeat' first | (with_reducible exact leO.refl _) | apply i0 | apply i1 | apply i2 | apply Qwy | apply Qoi | apply leO.bind | apply leO.ite | intro _ | split
  .intro h0_0 x21 v5 h0_1_ h0_2_ h2_4;rw[Qc6,Qde]
   repeat' first | (with_reducible exact leO.refl _) | apply i0 | apply i1 | apply i2 | apply leO.bind | apply leO.ite | intro _ | split
theorem Qyh(n:Nat):∀ (h0_0:(List Qai)) (h0_1:Int) (h0_2:Bool),leO (Qc8 n h0_0 h0_1 h0_2) (Qcc h0_0 h0_1 h0_2):=(Qyg n).1
mutual
def Qcr:Nat->Bool->Bool->(List Qai)->Int->Bool->Option ((List Qab)×Int×Bool)
 | 0,_,_,_,_,_=>none
 | n+1,p1,p2,h0_0,h0_1,h0_2 =>
  (Qb0 n p1 p2 h0_0 [] h0_1 h0_2)>>=λo1 =>
  match o1 with
  | .inl y2 =>
   some (y2.1,y2.2.1,y2.2.2)
  | .inr y3 =>
   some (y3.1,y3.2.1,y3.2.2)
def Qb0:Nat->Bool->Bool->(List Qai)->(List Qab)->Int->Bool->Option (((List Qab)×Int×Bool)⊕((List Qab)×Int×Bool))
 | 0,_,_,_,_,_,_=>none
 | n+1,p1,p2,h0_0,v7,h0_1_,h0_2_ =>
  ( if(!h0_2_) then
    some (decide (h0_1_<(h0_0.length:Int)))
   else
    some false:Option (Bool))>>=λo4 =>
  if o4 then
   Qas 1 h0_0 h0_1_ h0_2_>>=λx5 =>
   if x5 then
    Qal true h0_0 h0_1_ h0_2_>>=λx6 =>
    ( if(decide ((wr ((v7.length:Int)-1)) >= 0)) then
      idx v7 (wr ((v7.length:Int)-1))>>=λx8 =>
      some (x8.Kind==8)
     else
      some false:Option (Bool))>>=λo7 =>
    if o7 then
     idx v7 (wr ((v7.length:Int)-1))>>=λx9 =>
     need (x9.Text.length+x6.1.Text.length<=9223372036854775807)>>=λ_ =>
     idx v7 (wr ((v7.length:Int)-1))>>=λx10 =>
     Qb0 n p1 p2 h0_0 (v7.set ((wr ((v7.length:Int)-1)).toNat) (Qab.mk x10.Kind x10.Name (x9.Text++x6.1.Text) x10.N x10.L x10.Then x10.Else)) x6.2.1 x6.2.2
    else
     appL 120 v7 ([(Qab.mk 8 [] x6.1.Text 0 [] [] [])])>>=λx11 =>
     Qb0 n p1 p2 h0_0 x11 x6.2.1 x6.2.2
   else
    ( if p1 then
      Qb1 [101,110,100] h0_0 h0_1_ h0_2_>>=λx13 =>
      if x13 then
       some true
      else
       if p2 then
        Qb1 [101,108,115,101] h0_0 h0_1_ h0_2_>>=λx14 =>
        some x14
       else
        some false
     else
      if p2 then
       Qb1 [101,108,115,101] h0_0 h0_1_ h0_2_>>=λx15 =>
       some x15
      else
       some false:Option (Bool))>>=λo12 =>
    if o12 then
     some (.inr (v7,h0_1_,h0_2_))
    else
     Qas 2 h0_0 h0_1_ h0_2_>>=λx16 =>
     Qal x16 h0_0 h0_1_ h0_2_>>=λx17 =>
     Qas 3 h0_0 x17.2.1 x17.2.2>>=λx18 =>
     if x18 then
      Qal true h0_0 x17.2.1 x17.2.2>>=λx19 =>
      Qb0 n p1 p2 h0_0 v7 x19.2.1 x19.2.2
     else
      Qio n h0_0 x17.2.1 x17.2.2>>=λx20 =>
      appL 120 v7 [x20.1]>>=λx21 =>
      Qb0 n p1 p2 h0_0 x21 x20.2.1 x20.2.2
  else
   some (.inl (v7,h0_1_,h0_2_))
def Qio:Nat->(List Qai)->Int->Bool->Option (Qab×Int×Bool)
 | 0,_,_,_=>none
 | n+1,h0_0,h0_1,h0_2 =>
  Qa2 [105,102] h0_0 h0_1 h0_2>>=λx1 =>
  if x1 then
   Qal true h0_0 h0_1 h0_2>>=λx2 =>
   Qc8 n h0_0 x2.2.1 x2.2.2>>=λx3 =>
   Qch h0_0 x3.2.1 x3.2.2>>=λx4 =>
   Qcr n true true h0_0 x4.1 x4.2>>=λx5 =>
   ( Qb1 [101,108,115,101] h0_0 x5.2.1 x5.2.2>>=λx7 =>
    if x7 then
     Qdm [101,108,115,101] h0_0 x5.2.1 x5.2.2>>=λx8 =>
     Qcr n true false h0_0 x8.1 x8.2>>=λx9 =>
     some (x9.2.1,x9.2.2,x9.1)
    else
     some (x5.2.1,x5.2.2,[]):Option ((Int×Bool×(List Qab))))>>=λo6 =>
   Qdm [101,110,100] h0_0 o6.1 o6.2.1>>=λx10 =>
   some ((Qab.mk 10 [] [] 0 [x3.1] x5.1 o6.2.2),x10.1,x10.2)
  else
   ( Qa2 [101,97,99,104] h0_0 h0_1 h0_2>>=λx12 =>
    if x12 then
     some true
    else
     Qa2 [108,101,116] h0_0 h0_1 h0_2>>=λx13 =>
     some x13:Option (Bool))>>=λo11 =>
   if o11 then
    ( Qa2 [108,101,116] h0_0 h0_1 h0_2>>=λx15 =>
     if x15 then
      some 12
     else
      some 11:Option (Int))>>=λo14 =>
    Qal true h0_0 h0_1 h0_2>>=λx16 =>
    Qdr n h0_0 x16.2.1 x16.2.2>>=λx17 =>
    ( if(o14==11) then
      Qa2 [105,110] h0_0 x17.2.1 x17.2.2>>=λx19 =>
      Qal x19 h0_0 x17.2.1 x17.2.2>>=λx20 =>
      some (x20.2.1,x20.2.2)
     else
      Qas 11 h0_0 x17.2.1 x17.2.2>>=λx21 =>
      Qal x21 h0_0 x17.2.1 x17.2.2>>=λx22 =>
      some (x22.2.1,x22.2.2):Option ((Int×Bool)))>>=λo18 =>
    Qc8 n h0_0 o18.1 o18.2>>=λx23 =>
    Qch h0_0 x23.2.1 x23.2.2>>=λx24 =>
    Qcr n true false h0_0 x24.1 x24.2>>=λx25 =>
    Qdm [101,110,100] h0_0 x25.2.1 x25.2.2>>=λx26 =>
    some ((Qab.mk o14 x17.1 [] 0 [x23.1] x25.1 []),x26.1,x26.2)
   else
    ( Qa2 [117,115,101] h0_0 h0_1 h0_2>>=λx28 =>
     if x28 then
      Qal true h0_0 h0_1 h0_2>>=λx29 =>
      Qdr n h0_0 x29.2.1 x29.2.2>>=λx30 =>
      some (x30.2.1,x30.2.2,13,x30.1)
     else
      some (h0_1,h0_2,9,[]):Option ((Int×Bool×Int×(List UInt8))))>>=λo27 =>
    Qc8 n h0_0 o27.1 o27.2.1>>=λx31 =>
    Qch h0_0 x31.2.1 x31.2.2>>=λx32 =>
    some ((Qab.mk o27.2.2.1 o27.2.2.2 [] 0 [x31.1] [] []),x32.1,x32.2)
end
theorem Qwz:∀ n:Nat,(∀ (p1:Bool) (p2:Bool) (h0_0:(List Qai)) (h0_1:Int) (h0_2:Bool),leO (Qcr n p1 p2 h0_0 h0_1 h0_2) (Qb2 p1 p2 h0_0 h0_1 h0_2))/\(∀ (p1:Bool) (p2:Bool) (h0_0:(List Qai)) (v7:(List Qab)) (h0_1_:Int) (h0_2_:Bool),leO (Qb0 n p1 p2 h0_0 v7 h0_1_ h0_2_) (Qbz p1 p2 h0_0 v7 h0_1_ h0_2_))/\(∀ (h0_0:(List Qai)) (h0_1:Int) (h0_2:Bool),leO (Qio n h0_0 h0_1 h0_2) (Qhj h0_0 h0_1 h0_2)):=by
 intro n
 induction n with
 | zero=>exact⟨λ_ _ _ _ _=>leO.no _,λ_ _ _ _ _ _=>leO.no _,λ_ _ _=>leO.no _⟩
 | succ n ih =>
  obtain⟨i0,i1,i2⟩:=ih;refine⟨?_,?_,?_⟩
  .intro p1 p2 h0_0 h0_1 h0_2;rw[Qb2,Qcr]
   repeat' first | (with_reducible exact leO.refl _) | apply i0 | apply i1 | apply i2 | apply leO.bind | apply leO.ite | intro _ | split
  .intro p1 p2 h0_0 v7 h0_1_ h0_2_;rw[Qbz,Qb0]
   repeat' first | (with_reducible exact leO.refl _) | apply i0 | apply i1 | apply i2 | apply leO.bind | apply leO.ite | intro _ | split
  .intro h0_0 h0_1 h0_2;rw[Qhj,Qio]
   repeat' first | (with_reducible exact leO.refl _) | apply i0 | apply i1 | apply i2 | apply Qyh | apply Qoi | apply leO.bind | apply leO.ite | intro _ | split
theorem Qw0(n:Nat):∀ (p1:Bool) (p2:Bool) (h0_0:(List Qai)) (h0_1:Int) (h0_2:Bool),leO (Qcr n p1 p2 h0_0 h0_1 h0_2) (Qb2 p1 p2 h0_0 h0_1 h0_2):=(Qwz n).1
def Qqy:Nat->(List UInt8)->Option ((List Qab)×Int×Int)
 | 0,_=>none
 | n+1,p0 =>
  Qoh n p0>>=λx1 =>
  if(x1.2.2 != 0) then
   some ([],x1.2.1,x1.2.2)
  else
   Qcr n false false x1.1 0 false>>=λx2 =>
   if x2.2.2 then
    if(decide (x2.2.1<(x1.1.length:Int))) then
     idx x1.1 x2.2.1>>=λx3 =>
     some ([],x3.From,7)
    else
     some ([],(p0.length:Int),7)
   else
    Qin n x2.1>>=λx4 =>
    if(decide (x4>1024)) then
     some ([],0,5)
    else
     Qkx n x2.1>>=λx5 =>
     if(decide (x5>12)) then
      some ([],0,8)
     else
      some (x2.1,0,0)
theorem Qaer:∀ n:Nat,(∀ (p0:(List UInt8)),leO (Qqy n p0) (Qpu p0)):=by
 intro n
 induction n with
 | zero=>exact λ_=>leO.no _
 | succ n ih =>
  intro p0;rw[Qpu,Qqy]
  repeat' first | (with_reducible exact leO.refl _) | apply Qaa2 | apply Qaeq | apply Qag6 | apply Qw0 | apply leO.bind | apply leO.ite | intro _ | split
theorem Qaes(n:Nat):∀ (p0:(List UInt8)),leO (Qqy n p0) (Qpu p0):=(Qaer n)
def fewP(n:Nat)(l:List Qae):List Qae:=(l.take n).map λx=>⟨x.Name.take 40,(Qht 14 x.L 40).1⟩
theorem fewL(n:Nat)(hn:n<=20)(l:List Qae)(hl:l.length<=mx):∀ k,k<=l.length->∀ v:List Qae,v.length<=k->v.length<=20->Qcn l n v k=some (v++((l.drop k).take (n-k)).map λx=>⟨x.Name.take 40,(Qht 14 x.L 40).1⟩):=by
 refine upto ?_ λk hk ih=>?_
 .intro v hv _;rw[Qcn];have:decide (((l.length:Nat):Int)<(l.length:Int))=false:=decide_eq_false (by omega);simp only[this,Bool.false_eq_true,if_false,Qad];simp
 .intro v hv hv2;rw[Qcn];simp only[ltI,hk,decide_true,if_true,Qad];by_cases hkn:k<n
  .have h1:=Qaif 14 (by omega) l[k].L 40 (by omega);simp only at h1;rw[show((14:Nat):Int)=14 from rfl,show((40:Nat):Int)=40 from rfl] at h1;have hc:=Qams l[k].Name 40;rw[show((40:Nat):Int)=40 from rfl] at hc;simp only[hkn,decide_true,if_true,Qa3,getE hk,Qad,h1,hc];rw[Qf0 (by simp; omega) (by simp; omega),Qad,Qa4 (by simp only[mx] at hl; omega),ih _ (by simp; omega) (by simp; omega),Qcb hk,show n-k=(n-(k+1))+1 by omega,List.take_succ_cons,List.map_cons,List.append_assoc];rfl
  .simp only[hkn,decide_false,Bool.false_eq_true,if_false,show n-k=0 by omega,List.take_zero,List.map_nil,List.append_nil]
theorem Qavk(n:Nat)(hn:n<=20)(l:List Qae)(hl:l.length<=mx):Qgs l n=some (fewP n l):=by
 have:=fewL n hn l hl 0 (by omega) [] (by simp) (by simp);rw[show((0:Nat):Int)=0 from rfl,List.drop_zero,Nat.sub_zero,List.nil_append] at this;rw[Qgs,this];rfl
theorem Qap9(n:Nat)(hn:n<=20)(l:List Qae)(h:∀ x ∈ l,allL rngN x.L):okTs (fewP n l):=by
 have key:∀ y ∈ fewP n l,∃ x ∈ l,y=⟨x.Name.take 40,(Qht 14 x.L 40).1⟩:=λy hy=>by
  obtain⟨x,hx,rfl⟩:=List.mem_map.1 hy;exact⟨x,List.mem_of_mem_take hx,rfl⟩
 refine⟨by simp[fewP]; omega,λy hy=>?_,λy hy=>?_,λy hy=>?_⟩
 .obtain⟨x,hx,rfl⟩:=key y hy;have:=(Qpq 14 x.L 40).1;show nns (Qht 14 x.L 40).1<=100;omega
 .obtain⟨x,hx,rfl⟩:=key y hy;obtain⟨h1,-,h3⟩:=Qpq 14 x.L 40;exact Qamt Q7a 60 _ (by show nns (Qht 14 x.L 40).1<=60; omega) h3 (Q69 14 x.L 40 (h x hx))
 .obtain⟨x,hx,rfl⟩:=key y hy;simp; omega
theorem Qar3(l:List Qab)(h1:nns l<=20)(h2:sms l)(h3:allL rngN l):okTs [⟨[109],l⟩]:=by
 refine⟨by simp,λx hx=>?_,λx hx=>?_,λx hx=>?_⟩
 .rw[List.mem_singleton.1 hx]; show nns l<=100; omega
 .rw[List.mem_singleton.1 hx]; exact Qamt Q7a 20 l h1 h2 h3
 .rw[List.mem_singleton.1 hx]; simp
theorem Qanq(l:List Qab)(hu:usL l=[])(hi:isP l=true):Qiy [⟨[109],l⟩]=([],0):=by
 have hn:Qhu [109]=true:=by decide
 have hs:∀ s,suc [⟨[109],l⟩] s=[]:=λs=>by
  unfold suc;cases hf:fndT [⟨[109],l⟩] s with
  | none=>rfl
  | some x =>
   have:=List.mem_of_find?_eq_some hf;rw[List.mem_singleton.1 this];show Qpr l=[];rw[Qpr,hu]; rfl
 have h1:ck1 [] [⟨[109],l⟩]=none:=by
  simp[ck1,fitT,hn,hi,fndT]
 have h2:[(⟨[109],l⟩:Qae)].find? (lost [⟨[109],l⟩])=none:=by
  rw[List.find?_cons];have:lost [⟨[109],l⟩] ⟨[109],l⟩=false:=by rw[lost,hs]; rfl
  rw[this]; rfl
 have h3:[(⟨[109],l⟩:Qae)].find? (ring [⟨[109],l⟩])=none:=by
  rw[List.find?_cons];have:ring [⟨[109],l⟩] ⟨[109],l⟩=false:=by
   unfold ring reaP froP;rw[hs];refine decide_eq_false ?_;show [109] ∉ clo [⟨[109],l⟩] 1 [];rw[clo,clo];exact λh=>by cases h
  rw[this]; rfl
 rw[Qiy,h1,h2,h3];rfl
theorem Qar4(l:List Qae)(s:Nm)(hl:l.length<=mx)(h:∀ x ∈ l,allL rngN x.L):∃ b,Qew l s=some (fewP 8 l,b):=by
 have ho:=Qap9 8 (by omega) l h;have hlen:=ho.len;rw[Qew,show(8:Int)=((8:Nat):Int) from rfl,Qavk 8 (by omega) l hl,Qad,Qap3 _ ho,Qad];by_cases hc:(Qiy (fewP 8 l)).2=0
 .have hb:((Qiy (fewP 8 l)).2 != 0)=false:=by simpa using hc
  obtain⟨hf,-⟩:=Qy0 hc;obtain⟨v,hv⟩:=Qapl ho hf _ s (Nat.le_refl _) 3000;rw[hb,if_neg (by simp),Qadu _ s (by omega),Qad,hv,Qad];exact⟨_,rfl⟩
 .have hb:((Qiy (fewP 8 l)).2 != 0)=true:=by simpa using hc
  rw[hb,if_pos rfl];exact⟨_,rfl⟩
abbrev Qaue:Qab:=⟨4,[103,114,111,117,112],[],0,[],[],[]⟩
abbrev Qauf:Qab:=⟨5,[97,108,101,114,116,115],[],0,[Qaue],[],[]⟩
abbrev ta22:List Qab:=[⟨11,[97],[],0,[Qauf],[⟨9,[],[],0,[⟨6,[103,101,116],[],0,[⟨5,[108,97,98,101,108,115],[],0,[⟨4,[97],[],0,[],[],[]⟩],[],[]⟩,⟨1,[],[120],0,[],[],[]⟩],[],[]⟩],[],[]⟩],[]⟩]
abbrev tb22:List Qab:=[⟨9,[],[],0,[Qauf],[],[]⟩]
abbrev tc22:List Qab:=[⟨10,[],[],0,[⟨5,[108,105,110,107],[],0,[Qaue],[],[]⟩],[],[]⟩]
theorem Qar5(s:List UInt8)(l:List Qab)(h:Qqy 200 s=some (l,0,0)):Qdz s=some [⟨[109],l⟩]:=by
 rw[Qdz,(Qaes 200 s).h _ h,Qad]
theorem w22:Qow [97,108,101,114,116,115]=true/\Qhu [103,114,111,117,112]=true/\Qhu [97]=true/\Qhu [103,101,116]=true/\Qow [108,97,98,101,108,115]=true/\Qow [108,105,110,107]=true:=by decide
theorem q22:(Q67 [120]).2=true:=by
 have:=(Qapx [120] (by decide)).1;rw[Q67,this];decide +kernel
theorem Qar6:isP ta22=true:=by
 obtain⟨h1,h2,h3,h4,h5,h6⟩:=w22;simp[isP,dps,dp,nns,nn,Qbq,Qql,Qxq,Qdl,zl,h1,h2,h3,h4,h5,q22,Qajx]
theorem Qar7:isP tb22=true:=by
 obtain⟨h1,h2,h3,h4,h5,h6⟩:=w22;simp[isP,dps,dp,nns,nn,Qbq,Qql,Qxq,Qdl,zl,h1,h2,Qajx]
theorem Qar8:isP tc22=true:=by
 obtain⟨h1,h2,h3,h4,h5,h6⟩:=w22;simp[isP,dps,dp,nns,nn,Qbq,Qql,Qxq,Qdl,zl,h6,h2,Qajx]
theorem Qaug:okTs [⟨[109],ta22⟩]:=Qar3 _ (by simp[nns,nn]) (by simp[sms,sm]) (by simp[allL,allN,rngN])
theorem Qauh:okTs [⟨[109],tb22⟩]:=Qar3 _ (by simp[nns,nn]) (by simp[sms,sm]) (by simp[allL,allN,rngN])
theorem Qaui:okTs [⟨[109],tc22⟩]:=Qar3 _ (by simp[nns,nn]) (by simp[sms,sm]) (by simp[allL,allN,rngN])
theorem Qar9:chkT [⟨[109],ta22⟩] [109] []=([],0):=by
 have hb:Qagz [⟨[109],ta22⟩] [] [109]=none:=by decide +kernel
 rw[chkT,Qanq _ (by simp[usL,usN]) Qar6,hb];rfl
theorem Qasa:chkT [⟨[109],tb22⟩] [109] []=([109],201):=by
 have hb:Qagz [⟨[109],tb22⟩] [] [109]=some [109]:=by decide +kernel
 rw[chkT,Qanq _ (by simp[usL,usN]) Qar7,hb];rfl
theorem Qasb:chkT [⟨[109],tc22⟩] [109] []=([109],201):=by
 have hb:Qagz [⟨[109],tc22⟩] [] [109]=some [109]:=by decide +kernel
 rw[chkT,Qanq _ (by simp[usL,usN]) Qar8,hb];rfl
theorem Qasc:Qdq=some true:=by
 rw[Qdq,Qar5 _ ta22 (by kernel_rfl),Qad,Q1b Qaug _ _ (by simp),Qad,Qar5 _ tb22 (by kernel_rfl),Qad,Q1b Qauh _ _ (by simp),Qad,Qar5 _ tc22 (by kernel_rfl),Qad,Q1b Qaui _ _ (by simp),Qad,Qar9,Qasa,Qasb];rfl
theorem Qasd(l:List Nm):cutL l 0 (if 8<(l.length:Int) then 8 else(l.length:Int))=some (l.take 8):=by
 rw[Qmx (by omega) (by split<;>omega) (by split<;>omega)];split
 .simp
 .simp; rw[List.take_of_length_le (by omega)]
theorem Qase(l:List Nm):Qey l=some (l.take 8):=by
 have:=Qasd l;rw[Qey,this];rfl
theorem Q6f(l:List Qae)(s:Nm)(z:List Nm)(hl:l.length<=mx)(h:∀ x ∈ l,allL rngN x.L):Qcq l s z=some true:=by
 have ho:=Qap9 8 (by omega) l h;obtain⟨b,hb⟩:=Qar4 l s hl h;have hz:(z.take 8).length<=1000:=by simp; omega
 rw[Qcq,hb,Qad,Qasc];cases b with
 | false=>rfl
 | true =>
  simp only[Bool.not_true,Bool.false_eq_true,if_false,Qase,Q1b ho _ _ hz,Qaph ho _ _ hz,Qad,beq_self_eq_true,if_true]
end Go.Proofs.YtfgegilhjlnohaaGreat
end
noncomputable section
namespace Go.Proofs.YtfgegilhjlnohaaGreat
open Go.ChangeShapes Go.WideShapes Go.ChangeAt Go.RowKit
theorem Tryz.own:ownKnob Tryz.prog.godebug=none:=by kernel_rfl
end Go.Proofs.YtfgegilhjlnohaaGreat
end

noncomputable section
namespace Go.Proofs.YtfgegilhjlnohaaGreat
open Go.ChangeShapes Go.WideShapes Go.ChangeAt Go.RowKit
inductive Ty (P:Program):TypeId->List V->Prop where
 | int (t:TypeId) (k:IntKind) (n:Int):P.underlying t=some (.int k)->(Lit.int k n).wf=true->Ty P t [.v (.int k n)]
 | bool (t:TypeId) (b:Bool):P.underlying t=some .bool->Ty P t [.v (.bool b)]
 | str (t:TypeId) (s:ByteArray):P.underlying t=some .string->s.size<=maxLen->Ty P t [.v (.string s)]
 | slice (t e:TypeId) (es:List (List V)):P.underlying t=some (.slice e)->(∀ x ∈ es,Ty P e x)->(∀ x ∈ es,x.length=P.cellsOf e)->es.length<=maxLen->Ty P t [.sl false es]
 | struct (t:TypeId) (fs:Array Field) (xs:List V):P.underlying t=some (.struct fs)->xs.length=P.cellsOf t->(∀ f ∈ fs.toList,Ty P f.type ((xs.drop f.offset).take (P.cellsOf f.type)))->Ty P t xs
def Qaa3(P:Program):List Field->Nat->Nat->Bool
 | [],off,n=>off==n
 | f::r,off,n=>f.offset==off&&Qaa3 P r (off+P.cellsOf f.type) n
def Frag(P:Program)(ts:List TypeId):Bool:=ts.all λt=>match P.underlying t with
 | some (.int _) | some .bool | some .string=>true
 | some (.slice e)=>ts.contains e&&decide (0<P.cellsOf e)
 | some (.struct fs)=>fs.toList.all (λf=>ts.contains f.type)&&Qaa3 P fs.toList 0 (P.cellsOf t)
 | _=>false
def CRel(w:World)(xs:List V)(cs:List Value):Prop:=xs.length=cs.length/\∀ (j:Nat) x u,xs[j]? = some x->cs[j]? = some u->VRel (λ_ _=>True) w x u/\u.oneCell' = true
section
variable {H:Type} {enc:TypeId×Value->H} {P:Program} {w:World} {base:Nat} {spare:Nat->Bool} {held:Bool}
theorem CRel.one{x:V}{u:Value}(h:VRel (λ_ _=>True) w x u)(h1:u.oneCell' = true):CRel w [x] [u] :=
 ⟨rfl,λj y v hy hv=>by
  cases j with
  | zero=>simp at hy hv; subst hy; subst hv; exact⟨h,h1⟩
  | succ j=>simp at hy⟩
theorem CRel.append{xs ys:List V}{cs ds:List Value}(h:CRel w xs cs)(k:CRel w ys ds):CRel w (xs++ys) (cs++ds):=by
 refine⟨by simp[h.1,k.1],λj x u hx hu=>?_⟩;by_cases hj:j<xs.length
 .rw[List.getElem?_append_left hj] at hx;rw[List.getElem?_append_left (by rw[<-h.1]; exact hj)] at hu;exact h.2 j x u hx hu
 .rw[List.getElem?_append_right (by omega)] at hx;rw[List.getElem?_append_right (by have:=h.1; omega),<-h.1] at hu;exact k.2 _ x u hx hu
theorem Qaa4{α β : Type}{f : α -> Option β}:∀ {l:List α} {r:List β},l.mapM f=some r->r.length=l.length/\∀ (i:Nat) a,l[i]? = some a->∃ b,r[i]? = some b/\f a=some b
 | [],r,h=>by simp at h; subst h; exact⟨rfl,λi a h=>by simp at h⟩
 | x::l,r,h=>by
  simp only[List.mapM_cons,Option.bind_eq_bind,Option.bind_eq_some_iff,Option.pure_def,Option.some.injEq] at h;obtain⟨b,hb,bs,hbs,rfl⟩:=h;obtain⟨h1,h2⟩:=Qaa4 hbs;refine⟨by simp[h1],λi a ha=>?_⟩;cases i with
  | zero=>simp at ha; subst ha; exact⟨b,rfl,hb⟩
  | succ i=>simp at ha; obtain⟨b', hb', hf⟩:=h2 i a ha; exact⟨b', by simpa using hb', hf⟩
theorem Qakc{ts:List TypeId}(hF:Frag P ts=true){t e:TypeId}(ht:t ∈ ts)(hu:P.underlying t=some (.slice e)):e ∈ ts/\0<P.cellsOf e:=by
 unfold Frag at hF;rw[List.all_eq_true] at hF;have:=hF t ht;rw[hu] at this;simpa using this
theorem Qag9{ts:List TypeId}(hF:Frag P ts=true){t:TypeId}{fs:Array Field}(ht:t ∈ ts)(hu:P.underlying t=some (.struct fs)):(∀ f ∈ fs.toList,f.type ∈ ts)/\Qaa3 P fs.toList 0 (P.cellsOf t)=true:=by
 unfold Frag at hF;rw[List.all_eq_true] at hF;have:=hF t ht;rw[hu] at this;simp only[Bool.and_eq_true,List.all_eq_true,List.contains_iff_mem] at this;exact this
theorem Q7e{ts:List TypeId}(hF:Frag P ts=true){t:TypeId}(ht:t ∈ ts):(∃ k,P.underlying t=some (.int k))\/P.underlying t=some .bool\/P.underlying t=some .string\/(∃ e,P.underlying t=some (.slice e))\/∃ fs,P.underlying t=some (.struct fs):=by
 unfold Frag at hF;rw[List.all_eq_true] at hF;have:=hF t ht;split at this
 .rename_i k hu; exact .inl ⟨k,hu⟩
 .rename_i hu; exact .inr (.inl hu)
 .rename_i hu; exact .inr (.inr (.inl hu))
 .rename_i e hu; exact .inr (.inr (.inr (.inl ⟨e,hu⟩)))
 .rename_i fs hu; exact .inr (.inr (.inr (.inr ⟨fs,hu⟩)))
 .cases this
theorem Qaiv:∀ (fs:List Field) (off n:Nat),Qaa3 P fs off n=true->off<=n
 | [],off,n,h=>by simp[Qaa3] at h; omega
 | f::r,off,n,h=>by
  simp only[Qaa3,Bool.and_eq_true] at h;have:=Qaiv r _ n h.2;omega
theorem Qz2{n fuel:Nat}{ts:List TypeId}{cs:List Value}(hl:cs.length=n)(IH:∀ t ∈ ts,∀ cs x,DataW.trod enc P w base spare held fuel t cs=some x->∃ xs,CRel w xs cs/\Ty P t xs) :
  ∀ (fs:List Field) (off:Nat),(∀ f ∈ fs,f.type ∈ ts)->Qaa3 P fs off n=true->(∀ f ∈ fs,∃ x,DataW.trod enc P w base spare held fuel f.type ((cs.drop f.offset).take (P.cellsOf f.type))=some x) ->
   ∃ xs,CRel w xs (cs.drop off)/\∀ f ∈ fs,off<=f.offset/\Ty P f.type ((xs.drop (f.offset-off)).take (P.cellsOf f.type))
 | [],off,_,ht,_=>by
  have:off=n:=by simpa [Qaa3] using ht
  subst this;exact⟨[],⟨by simp[hl],λj x u h=>by simp at h⟩,λf h=>by cases h⟩
 | f::r,off,hm,ht,hx=>by
  simp only[Qaa3,Bool.and_eq_true,beq_iff_eq] at ht;obtain⟨rfl,ht⟩:=ht;obtain⟨x,hfx⟩:=hx f (by simp);obtain⟨xs,h1,h2⟩:=IH f.type (hm f (by simp)) _ x hfx;obtain⟨ys,k1,k2⟩:=Qz2 hl IH r _ (λg hg=>hm g (by simp[hg])) ht (λg hg=>hx g (by simp[hg]));have hxl:xs.length=P.cellsOf f.type:=by
   have e1:=h1.1;have e2:f.offset+P.cellsOf f.type<=n:=Qaiv r _ n ht;rw[e1]; simp; omega
  refine⟨xs++ys,?_,λg hg=>?_⟩
  .have e:cs.drop f.offset=(cs.drop f.offset).take (P.cellsOf f.type)++cs.drop (f.offset+P.cellsOf f.type):=by
    rw[<-List.drop_drop,List.take_append_drop]
   rw[e]; exact h1.append k1
  .rcases List.mem_cons.1 hg with rfl | hg
   .refine⟨Nat.le_refl _,?_⟩;rw[Nat.sub_self,List.drop_zero,<-hxl,List.take_left']
    .exact h2
    .rfl
   .obtain⟨g1,g2⟩:=k2 g hg;refine⟨by omega,?_⟩;rw[List.drop_append,List.drop_eq_nil_of_le (by omega),List.nil_append];have e3:g.offset-f.offset-xs.length=g.offset-(f.offset+P.cellsOf f.type):=by omega
    rw[e3]; exact g2
theorem Qanr{a:Addr}{n:Nat}{cs:List Value}(h:w.cells? base a n=some cs):cs.length=n/\∀ (k:Nat) u,cs[k]? = some u->w.cell? (a.add k)=some u:=by
 unfold World.cells? at h;split at h
 .obtain⟨h1,h2⟩:=Qaa4 h;refine⟨by simpa using h1,λk u hu=>?_⟩;have hk:k<n:=by have:=(List.getElem?_eq_some_iff.1 hu).1; simpa [h1] using this
  obtain⟨b,hb,hf⟩:=h2 k k (by rw[List.getElem?_range hk]);rw[hu] at hb; cases hb; exact hf
 .cases h
theorem Qaha{ts:List TypeId}(hF:Frag P ts=true):∀ (fuel:Nat) (t:TypeId),t ∈ ts->∀ cs x,DataW.trod enc P w base spare held fuel t cs=some x->∃ xs,CRel w xs cs/\Ty P t xs
 | 0,t,ht,cs,x,h=>by simp[DataW.trod] at h
 | fuel+1,t,ht,cs,x,h=>by
  rcases Q7e hF ht with ⟨k,hu⟩ | hu | hu | ⟨e,hu⟩ | ⟨fs,hu⟩
  .unfold DataW.trod at h;rw[hu] at h;split at h<;>rename_i hx<;>first | (cases hx; done) | skip
   all_goals first | (simp at hx; done) | skip
   .rename_i k1 k2 n;cases hx;split at h
    .rename_i hk;obtain⟨rfl,hw⟩:=hk;exact⟨_,.one (.v _ rfl) rfl,.int t _ n hu hw⟩
    .cases h
   .cases h
  .unfold DataW.trod at h;rw[hu] at h;split at h<;>rename_i hx<;>first | (cases hx; done) | skip
   all_goals first | (simp at hx; done) | skip
   .rename_i b;exact⟨_,.one (.v _ rfl) rfl,.bool t b hu⟩
   .cases h
  .unfold DataW.trod at h;rw[hu] at h;split at h<;>rename_i hx<;>first | (cases hx; done) | skip
   all_goals first | (simp at hx; done) | skip
   .rename_i s;split at h
    .rename_i hs;exact⟨_,.one (.v _ rfl) rfl,.str t s hu hs⟩
    .cases h
   .cases h
  .obtain⟨he,hz⟩:=Qakc hF ht hu;rcases DataW.trod_slice hu h with ⟨rfl,-⟩ | ⟨a,len,cap,elems,rest,n,hn,rfl,rfl,hb,hl,hm,hlen,hel,hsp,hns⟩
   .exact⟨[.sl false []],.one (Q7g (u :=.slice none 0 0) (x :=.sl true []) rfl |>.1 |> Qab6) rfl,.slice t e [] hu (λx hx=>by cases hx) (λx hx=>by cases hx) (Nat.zero_le _)⟩
   .have hn' : n=fuel:=by omega
    subst hn';have hch:∀ i,∃ p:List V×List Value,i<len->p.2.length=P.cellsOf e/\(∀ (k:Nat) u,p.2[k]? = some u->w.cell? ((a.add (i*P.cellsOf e)).add k)=some u)/\CRel w p.1 p.2/\Ty P e p.1:=λi=>by
     by_cases hi:i<len
     .have h1:=hel i hi;have h2:elems[i]? = some elems[i]:=List.getElem?_eq_getElem (by omega);rw[h2] at h1;obtain⟨ci,hc,htr⟩:=Option.bind_eq_some_iff.1 h1;obtain⟨c1,c2⟩:=Qanr hc;obtain⟨xs,x1,x2⟩:=Qaha hF n e he ci _ htr;exact⟨(xs,ci),λ_=>⟨c1,c2,x1,x2⟩⟩
     .exact⟨([],[]),λh=>absurd h hi⟩
    obtain⟨f,hf⟩:=Classical.axiomOfChoice hch;have hes:∀ (i:Nat) x,((List.range len).map λi=>(f i).1)[i]? = some x->i<len/\x=(f i).1:=λi x hx=>by
     rw[List.getElem?_map] at hx;obtain⟨j,hj,rfl⟩:=Option.map_eq_some_iff.1 hx;obtain⟨h1,h2⟩:=List.getElem?_eq_some_iff.1 hj;simp at h1 h2;subst h2;exact⟨h1,rfl⟩
    have hmem:∀ x ∈ (List.range len).map λi=>(f i).1,∃ i,i<len/\x=(f i).1:=λx hx=>by
     obtain⟨i,hi,rfl⟩:=List.mem_map.1 hx;exact⟨i,by simpa using hi,rfl⟩
    have hxl:∀ i,i<len->(f i).1.length=P.cellsOf e:=λi hi=>by rw[(hf i hi).2.2.1.1,(hf i hi).1]
    refine⟨[.sl false ((List.range len).map λi=>(f i).1)],.one ?_ rfl,.slice t e _ hu (λx hx=>?_) (λx hx=>?_) (by simp; omega)⟩
    .have hlen2:((List.range len).map λi=>(f i).1).length=len:=by simp
     have key:∀ (i k:Nat),i<len->k<P.cellsOf e->a=⟨a.block,a.off,none⟩/\∃ u,(f i).2[k]? = some u/\w.cell? ⟨a.block,a.off+i*P.cellsOf e+k,none⟩=some u:=λi k hi hk=>by
      have ha:a=⟨a.block,a.off,none⟩:=by
       have h00:=hf 0 (by omega);obtain⟨v0,hv0⟩:∃ v,(f 0).2[0]? = some v:=⟨_,List.getElem?_eq_getElem (by rw[h00.1]; exact hz)⟩;have h0:=h00.2.1 0 v0 hv0;have e0:(a.add (0*P.cellsOf e)).add 0=a:=by simp[Addr.add]
       rw[e0] at h0;unfold World.cell? at h0;split at h0
       .split at h0
        .cases h0
        .rename_i hsn;cases hspot:a.spot with
         | none=>cases a; simp at hspot; subst hspot; rfl
         | some q=>rw[hspot] at hsn; simp at hsn
       .cases h0
      have hk2:k<(f i).2.length:=by rw[(hf i hi).1]; exact hk
      refine⟨ha,(f i).2[k],List.getElem?_eq_getElem hk2,?_⟩;have:=(hf i hi).2.1 k _ (List.getElem?_eq_getElem hk2);rw[ha,Qun,Qun] at this;exact this
     have dm:∀ (i k:Nat),k<P.cellsOf e->(i*P.cellsOf e+k) / P.cellsOf e=i/\(i*P.cellsOf e+k) % P.cellsOf e=k:=λi k hk=>by
      constructor
      .rw[Nat.mul_comm,Nat.mul_add_div hz,Nat.div_eq_of_lt hk,Nat.add_zero]
      .rw[Nat.mul_comm,Nat.mul_add_mod,Nat.mod_eq_of_lt hk]
     have:=VRel.sl (C:=λ_ _=>True) (w:=w) false ((List.range len).map λi=>(f i).1) (some a) cap (P.cellsOf e) a.block a.off (λj=>(f (j / P.cellsOf e)).2.getD (j % P.cellsOf e) undef) (by rw[hlen2]; exact hl) hm (λh=>by cases h)
      (λx hx=>by obtain⟨i,hi,rfl⟩:=hmem x hx; exact hxl i hi) (λh=>by cases h)
      (λi k x c hx hc=>by
       obtain⟨hi,rfl⟩:=hes i x hx;have hk:k<P.cellsOf e:=by rw[<-hxl i hi]; exact(List.getElem?_eq_some_iff.1 hc).1
       obtain⟨ha,u,hu1,hu2⟩:=key i k hi hk;obtain⟨d1,d2⟩:=dm i k hk;simp only[d1,d2,List.getD,hu1,Option.getD_some];exact⟨congrArg some ha,trivial,hu2,((hf i hi).2.2.1.2 k c u hc hu1).2⟩)
      (λi k x c hx hc=>by
       obtain⟨hi,rfl⟩:=hes i x hx;have hk:k<P.cellsOf e:=by rw[<-hxl i hi]; exact(List.getElem?_eq_some_iff.1 hc).1
       obtain⟨ha,u,hu1,hu2⟩:=key i k hi hk;obtain⟨d1,d2⟩:=dm i k hk;simp only[d1,d2,List.getD,hu1,Option.getD_some];exact((hf i hi).2.2.1.2 k c u hc hu1).1) (λh=>by cases h)
     rw[hlen2] at this;exact this
    .obtain⟨i,hi,rfl⟩:=hmem x hx;exact(hf i hi).2.2.2
    .obtain⟨i,hi,rfl⟩:=hmem x hx;exact hxl i hi
  .obtain⟨hm,ht2⟩:=Qag9 hF ht hu;unfold DataW.trod at h;rw[hu] at h;simp only at h;split at h
   .rename_i hl;obtain⟨xs0,hxs,-⟩:=Option.map_eq_some_iff.1 h;obtain⟨m1,m2⟩:=Qaa4 hxs;obtain⟨xs,k1,k2⟩:=Qz2 (H:=H) (enc:=enc) (P:=P) (w:=w) (base:=base) (spare:=spare) (held:=held) hl (λt ht cs x h=>Qaha hF fuel t ht cs x h) fs.toList 0 hm ht2 (λf hf=>by
     obtain⟨i,hi⟩:=List.getElem?_of_mem hf;obtain⟨b,-,hb⟩:=m2 i f hi;exact⟨b,hb⟩)
    rw[List.drop_zero] at k1;exact⟨xs,k1,.struct t fs xs hu (by rw[k1.1,hl]) (λf hf=>by have:=(k2 f hf).2; rwa [Nat.sub_zero] at this)⟩
   .cases h
def Qans(P:Program)(t:TypeId)(x:V):Prop:=(∃ xs,x = .agg xs/\Ty P t xs/\∃ fs,P.underlying t=some (.struct fs))\/(Ty P t [x]/\∀ fs,P.underlying t≠some (.struct fs))
theorem Qaa5{ts:List TypeId}(hF:Frag P ts=true){t:TypeId}(ht:t ∈ ts){r:Go.Reach}{b0:Nat}{v:Value}{d:DataW H}{ps:List MemPlace}(hval:Value.okWide P w r b0 t v)(hd:DataW.Trod enc P w base spare held t v d ps) :
  ∃ x,VRel (λ_ _=>True) w x v/\Qans P t x:=by
 obtain⟨fuel,hf⟩:=hd;obtain⟨xs,h1,h2⟩:=Qaha hF fuel t ht _ _ hf;have one:∀ u,v.cells.toList=[u]->(∀ cs,v ≠ .agg cs)->(∀ fs,P.underlying t≠some (.struct fs))->∃ x,VRel (λ_ _=>True) w x v/\Qans P t x:=λu hu hna hns=>by
  have hv:v=u:=by
   cases v<;>first
    | exact absurd rfl (hna _)
    | (simp[Value.cells] at hu; exact hu)
  subst hv;rw[hu] at h1
  match xs,h1.1 with
  | [x],_=>exact⟨x,(h1.2 0 x v rfl rfl).1,.inr ⟨h2,hns⟩⟩
 rcases Q7e hF ht with ⟨k,hu⟩ | hu | hu | ⟨e,hu⟩ | ⟨fs,hu⟩
 .obtain⟨n,rfl⟩:=okWide_int hu hval;exact one _ rfl (λcs h=>by cases h) (λfs h=>by rw[hu] at h; cases h)
 .obtain⟨n,rfl⟩:=okWide_bool hu hval;exact one _ rfl (λcs h=>by cases h) (λfs h=>by rw[hu] at h; cases h)
 .obtain⟨n,rfl⟩:=okWide_string hu hval;exact one _ rfl (λcs h=>by cases h) (λfs h=>by rw[hu] at h; cases h)
 .obtain⟨a,l,c,rfl,-⟩:=okWide_slice hu hval;exact one _ rfl (λcs h=>by cases h) (λfs h=>by rw[hu] at h; cases h)
 .unfold Value.okWide at hval;rw[hu] at hval;obtain⟨cs,rfl,hsz,-⟩:=hval;refine⟨.agg xs,.agg xs cs (by simpa [Value.cells] using h1.1) (λj c u hc hu=>(h1.2 j c u hc (by simpa [Value.cells] using hu)).2) (λj c u hc hu=>(h1.2 j c u hc (by simpa [Value.cells] using hu)).1),.inl ⟨xs,rfl,h2,fs,hu⟩⟩
theorem Qyi(hl:laidOutB P=true){W W' : World}(hb:Below W.heap.size W W'):∀ {ts:List TypeId} {vs:List Value} {ds:List (DataW H)} {ps:List MemPlace},(∀ t ∈ ts,P.readableRec t=true/\t<P.types.size)->DataW.TrodAll enc P W 0 (λ_=>true) true ts vs ds ps->(∀ x ∈ ps,x.block<W.heap.size) ->
  DataW.TrodAll enc P W' 0 (λb=>decide (b<W.heap.size)) true ts vs ds ps
 | [],[],[],ps,_,h,_=>h
 | t::ts,v::vs,d::ds,ps,hr,h,hlt=>by
  obtain⟨p,q,h1,h2,rfl⟩:=h;exact⟨p,q,Below.trod hl (hr t (by simp)).1 (hr t (by simp)).2 h1 hb (λx hx=>hlt x (by simp[hx])),Qyi hl hb (λt ht=>hr t (by simp[ht])) h2 (λx hx=>hlt x (by simp[hx])),rfl⟩
 | [],[],_::_,_,_,h,_=>h.elim
 | [],_::_,_,_,_,h,_=>h.elim
 | _::_,[],_,_,_,h,_=>h.elim
 | _::_,_::_,[],_,_,h,_=>h.elim
theorem Qant{f:Func}{s:ChangeSpec}{apart fresh handsOn:Bool}{W W' : World}{args:Array Value}{v:Value}{ds gs:List (DataW H)}{before pa pv:List MemPlace}
  (hW:DataW.Whole enc P f.params.toList s.vars apart W args.toList ds gs before)
  (hres:∀ (b:Nat) (sp:Nat->Bool) (hd:Bool),DataW.TrodAll enc P W' b sp hd f.resultTypes.toList (v.resultList f.resultTypes.size) (s.fn H (ds++gs)).results [])
  (hargs:DataW.TrodAll enc P W' 0 (λb=>decide (b<W.heap.size)) true f.params.toList args.toList (s.fn H (ds++gs)).args pa)
  (hvars:DataW.TrodVars enc P W' (λb=>decide (b<W.heap.size)) s.vars (s.fn H (ds++gs)).vars pv)
  (hb:Below W.heap.size W W'):s.post enc P f apart fresh handsOn false W args v W' :=
 ⟨ds,gs,before,[],pa,pv,hW,hres _ _ _,hargs,hvars,hb.frame _,λh=>by cases h⟩
theorem Qavl{C:Nat->Nat->Prop}{x0 x1 x2:V}{v0 v1 v2:Value}(h0:VRel C w x0 v0)(h1:VRel C w x1 v1)(h2:VRel C w x2 v2):∀ (j:Nat) x u,[x0,x1,x2][j]? = some x->(#[v0,v1,v2])[j]? = some u->VRel C w x u:=λj x u hx hu=>by
 match j with
 | 0=>simp at hx hu; subst hx; subst hu; exact h0
 | 1=>simp at hx hu; subst hx; subst hu; exact h1
 | 2=>simp at hx hu; subst hx; subst hu; exact h2
 | j+3=>simp at hx
theorem Ty.asInt{t:TypeId}{xs:List V}{k:IntKind}(h:Ty P t xs)(hu:P.underlying t=some (.int k)):∃ n,xs=[.v (.int k n)]/\(Lit.int k n).wf=true:=by
 cases h with
 | int _ k' n h1 h2=>rw[hu] at h1; cases h1; exact⟨n,rfl,h2⟩
 | bool _ b h1=>rw[hu] at h1; cases h1
 | str _ s h1=>rw[hu] at h1; cases h1
 | slice _ e es h1=>rw[hu] at h1; cases h1
 | struct _ fs xs h1=>rw[hu] at h1; cases h1
theorem Ty.asStr{t:TypeId}{xs:List V}(h:Ty P t xs)(hu:P.underlying t=some .string):∃ l:List UInt8,xs=[.v (Qd4 l)]/\l.length<=maxLen:=by
 cases h with
 | int _ k' n h1 h2=>rw[hu] at h1; cases h1
 | bool _ b h1=>rw[hu] at h1; cases h1
 | str _ s h1 h2=>exact⟨s.data.toList,rfl,by simpa using h2⟩
 | slice _ e es h1=>rw[hu] at h1; cases h1
 | struct _ fs xs h1=>rw[hu] at h1; cases h1
theorem Ty.asSlice{t e:TypeId}{xs:List V}(h:Ty P t xs)(hu:P.underlying t=some (.slice e)):∃ es,xs=[.sl false es]/\(∀ x ∈ es,Ty P e x)/\es.length<=maxLen:=by
 cases h with
 | int _ k' n h1 h2=>rw[hu] at h1; cases h1
 | bool _ b h1=>rw[hu] at h1; cases h1
 | str _ s h1=>rw[hu] at h1; cases h1
 | slice _ e' es h1 h2 h3 h4=>rw[hu] at h1; cases h1; exact⟨es,rfl,h2,h4⟩
 | struct _ fs xs h1=>rw[hu] at h1; cases h1
end
end Go.Proofs.YtfgegilhjlnohaaGreat
end

noncomputable section
namespace Go.Proofs.YtfgegilhjlnohaaGreat
open Go.ChangeShapes Go.WideShapes Go.ChangeAt Go.RowKit
open Go.ChangeMaps (setBlock shut_map_nil open_string shut_string keptBut_setBlock frozen?_setBlock heap_setBlock_same)
theorem Qaqa{α : Type}(c : α -> List V):∀ es:List (List V),(∀ x ∈ es,∃ v,x=c v)->∃ l:List α,es=l.map c
 | [],_=>⟨[],rfl⟩
 | x::r,h=>by
  obtain⟨v,rfl⟩:=h x (by simp);obtain⟨l,rfl⟩:=Qaqa c r λy hy=>h y (by simp[hy])
  exact⟨v::l,rfl⟩
theorem Qaa6{α : Type}(c : α -> List V)(P : α -> Prop):∀ es:List (List V),(∀ x ∈ es,∃ v,x=c v/\P v)->∃ l:List α,es=l.map c/\∀ x ∈ l,P x
 | [],_=>⟨[],rfl,by simp⟩
 | x::r,h=>by
  obtain⟨v,rfl,hv⟩:=h x (by simp);obtain⟨l,rfl,hl⟩:=Qaa6 c P r λy hy=>h y (by simp[hy])
  exact⟨v::l,rfl,λy hy=>by rcases List.mem_cons.1 hy with rfl | hy; exact hv; exact hl y hy⟩
theorem Qahb{Q:Qab->Prop}:∀ {l:List Qab},(∀ x ∈ l,allN Q x)->allL Q l
 | [],_=>by rw[allL]; trivial
 | x::r,h=>by rw[allL]; exact⟨h x (by simp),Qahb λy hy=>h y (by simp[hy])⟩
set_option maxRecDepth 100000 in
theorem Qtx{xs:List V}(h:Ty Tryz.prog 9 xs):∃ v:List UInt8,xs=cStr v/\v.length<=9223372036854775807:=by
 obtain⟨l,rfl,hl⟩:=h.asStr Tryz.underlying9;exact⟨l,rfl,hl⟩
set_option maxRecDepth 100000 in
theorem Q31{xs:List V}(h:Ty Tryz.prog 35 xs):∃ v:Int,xs=cInt v /\ -9223372036854775808<=v/\v<=9223372036854775807:=by
 obtain⟨n,rfl,hw⟩:=h.asInt Tryz.underlying35;refine⟨n,rfl,?_⟩;simp[Lit.wf,IntKind.min,IntKind.max,IntKind.signed,IntKind.bits] at hw;omega
set_option maxRecDepth 100000 in
theorem Qauj{xs:List V}(h:Ty Tryz.prog 3 xs):∃ v:Int,xs=cInt v /\ -9223372036854775808<=v/\v<=9223372036854775807:=by
 obtain⟨n,rfl,hw⟩:=h.asInt Tryz.underlying3;refine⟨n,rfl,?_⟩;simp[Lit.wf,IntKind.min,IntKind.max,IntKind.signed,IntKind.bits] at hw;omega
set_option maxRecDepth 100000 in
theorem Qaet:∀ {t:TypeId} {xs:List V},Ty Tryz.prog t xs->(t=38->∃ v:Qab,xs=Qaa v/\allN rngN v)/\(t=36->∃ l:List Qab,xs=cSl Qaa l/\allL rngN l):=by
 have hu0:=Tryz.underlying38;have hu1:=Tryz.underlying36;intro t xs h
 induction h with
 | int t k n hu=>exact⟨λe=>(by subst e; rw[hu0] at hu; cases hu),λe=>(by subst e; rw[hu1] at hu; cases hu)⟩
 | bool t b hu=>exact⟨λe=>(by subst e; rw[hu0] at hu; cases hu),λe=>(by subst e; rw[hu1] at hu; cases hu)⟩
 | str t s hu=>exact⟨λe=>(by subst e; rw[hu0] at hu; cases hu),λe=>(by subst e; rw[hu1] at hu; cases hu)⟩
 | slice t e es hu _ _ _ ih =>
  refine⟨λe=>(by subst e; rw[hu0] at hu; cases hu),λe=>?_⟩;subst e;rw[hu1] at hu;cases hu;obtain⟨l,rfl,hl⟩:=Qaa6 Qaa (allN rngN) es λx hx=>(ih x hx).1 rfl
  exact⟨l,rfl,Qahb hl⟩
 | struct t fs xs hu hl hf ih =>
  refine⟨λe=>?_,λe=>(by subst e; rw[hu1] at hu; cases hu)⟩;subst e;rw[hu0] at hu;cases hu;have hl:xs.length=7:=hl
  match xs,hl with
  | [a0,a1,a2,a3,a4,a5,a6],_ =>
   have h0:Ty Tryz.prog 35 [a0]:=hf _ (List.mem_of_getElem? (i:=0) rfl);obtain⟨v0,e0,g0⟩:=Q31 h0;have h1:Ty Tryz.prog 9 [a1]:=hf _ (List.mem_of_getElem? (i:=1) rfl);obtain⟨v1,e1,g1⟩:=Qtx h1;have h2:Ty Tryz.prog 9 [a2]:=hf _ (List.mem_of_getElem? (i:=2) rfl);obtain⟨v2,e2,g2⟩:=Qtx h2;have h3:Ty Tryz.prog 3 [a3]:=hf _ (List.mem_of_getElem? (i:=3) rfl);obtain⟨v3,e3,g3⟩:=Qauj h3;have h4:Ty Tryz.prog 36 [a4]:=hf _ (List.mem_of_getElem? (i:=4) rfl);obtain⟨v4,e4,g4⟩:=(ih _ (List.mem_of_getElem? (i:=4) rfl)).2 rfl;have e4:[a4]=cSl Qaa v4:=e4;have h5:Ty Tryz.prog 36 [a5]:=hf _ (List.mem_of_getElem? (i:=5) rfl);obtain⟨v5,e5,g5⟩:=(ih _ (List.mem_of_getElem? (i:=5) rfl)).2 rfl;have e5:[a5]=cSl Qaa v5:=e5;have h6:Ty Tryz.prog 36 [a6]:=hf _ (List.mem_of_getElem? (i:=6) rfl);obtain⟨v6,e6,g6⟩:=(ih _ (List.mem_of_getElem? (i:=6) rfl)).2 rfl;have e6:[a6]=cSl Qaa v6:=e6;refine⟨⟨v0,v1,v2,v3,v4,v5,v6⟩,?_,(Qox _ _).2 ⟨g3,g4,g5,g6⟩⟩;rw[Qao];show [a0]++[a1]++[a2]++[a3]++[a4]++[a5]++[a6]=_;rw[e0,e1,e2,e3,e4,e5,e6];rfl
theorem Q6g{xs:List V}(h:Ty Tryz.prog 36 xs):∃ v:(List Qab),xs=(cSl Qaa) v/\v.length<=9223372036854775807/\allL rngN v:=by
 obtain⟨es,rfl,h1,h2⟩:=h.asSlice Tryz.underlying36;obtain⟨l,rfl,hl⟩:=Qaa6 Qaa (allN rngN) es λx hx=>(Qaet (h1 x hx)).1 rfl
 exact⟨l,rfl,by rw[List.length_map] at h2; exact h2,Qahb hl⟩
set_option maxRecDepth 100000 in
theorem Qaeu{xs:List V}(h:Ty Tryz.prog 56 xs):∃ v:Qae,xs=Qaf v/\(allL rngN v.L):=by
 have hu0:=Tryz.underlying56;cases h with
 | int _ k n hu=>rw[hu0] at hu; cases hu
 | bool _ b hu=>rw[hu0] at hu; cases hu
 | str _ s hu=>rw[hu0] at hu; cases hu
 | slice _ e es hu=>rw[hu0] at hu; cases hu
 | struct _ fs xs hu hl hf =>
  rw[hu0] at hu;cases hu;have hl:xs.length=2:=hl
  match xs,hl with
  | [a0,a1],_ =>
   have h0:Ty Tryz.prog 9 [a0]:=hf _ (List.mem_of_getElem? (i:=0) rfl);obtain⟨v0,e0,-⟩:=Qtx h0;have h1:Ty Tryz.prog 36 [a1]:=hf _ (List.mem_of_getElem? (i:=1) rfl);obtain⟨v1,e1,g1⟩:=Q6g h1;refine⟨⟨v0,v1⟩,?_,g1.2⟩;show [a0]++[a1]=_;rw[e0,e1];rfl
set_option maxRecDepth 100000 in
theorem Q32{xs:List V}(h:Ty Tryz.prog 22 xs):∃ v:(List Qae),xs=(cSl Qaf) v/\v.length<=9223372036854775807/\∀ x ∈ v,(allL rngN x.L):=by
 obtain⟨es,rfl,h1,h2⟩:=h.asSlice Tryz.underlying22;obtain⟨l,rfl,hl⟩:=Qaa6 Qaf (λx=>(allL rngN x.L)) es λx hx=>Qaeu (h1 x hx)
 exact⟨l,rfl,by rw[List.length_map] at h2; exact h2,hl⟩
set_option maxRecDepth 100000 in
theorem Qaev{xs:List V}(h:Ty Tryz.prog 29 xs):∃ v:(List (List UInt8)),xs=(cSl cStr) v/\v.length<=9223372036854775807:=by
 obtain⟨es,rfl,h1,h2⟩:=h.asSlice Tryz.underlying29;obtain⟨l,rfl⟩:=Qaqa cStr es λx hx=>by
  obtain⟨v,hv,-⟩:=Qtx (h1 x hx);exact⟨v,hv⟩
 exact⟨l,rfl,by rw[List.length_map] at h2; exact h2⟩
set_option maxRecDepth 100000 in
theorem Qvb(x0:V)(x1:V)(x2:V)(y0:Qans Tryz.prog 22 x0)(y1:Qans Tryz.prog 9 x1)(y2:Qans Tryz.prog 29 x2):PCall Tryz.prog 9 [x0,x1,x2] (.p (bV true)):=by
 obtain⟨z0,ez0,hz0⟩:∃ v:(List Qae),[x0]=(cSl Qaf) v/\v.length<=9223372036854775807/\(∀ x ∈ v,(allL rngN x.L)):=by
  rcases y0 with ⟨xs,_,_,fs,h⟩ | ⟨h,-⟩
  .rw[Tryz.underlying22] at h; cases h
  .exact Q32 h
 cases ez0;obtain⟨z1,ez1,hz1⟩:∃ v:(List UInt8),[x1]=cStr v/\v.length<=9223372036854775807:=by
  rcases y1 with ⟨xs,_,_,fs,h⟩ | ⟨h,-⟩
  .rw[Tryz.underlying9] at h; cases h
  .exact Qtx h
 cases ez1;obtain⟨z2,ez2,hz2⟩:∃ v:(List (List UInt8)),[x2]=(cSl cStr) v/\v.length<=9223372036854775807:=by
  rcases y2 with ⟨xs,_,_,fs,h⟩ | ⟨h,-⟩
  .rw[Tryz.underlying29] at h; cases h
  .exact Qaev h
 cases ez2;have hlaw:Qcq z0 z1 z2=some true:=by
  apply Q6f<;>first | omega | exact hz0.1 | exact hz0.2 | exact hz0 | exact hz1.1 | exact hz1.2 | exact hz1 | exact hz2.1 | exact hz2.2 | exact hz2
 exact Qnr z0 z1 z2 true hlaw
theorem Qnp:Frag Tryz.prog [22,56,9,36,38,35,3,29]=true:=by decide +kernel
theorem Q33:laidOutB Tryz.prog=true:=by kernel_rfl
set_option maxRecDepth 100000 in
theorem Qyj(os:Os)(started:os.Started)(H:Type)(enc:TypeId×Value->H) :
  ReturnsInHanded {} Tryz.checked os 9 .any (Rows.inferChecksSpec.pre6 enc Tryz.prog Tryz.f9 Rows.inferChecksRow.domain false) (Rows.inferChecksSpec.post enc Tryz.prog Tryz.f9 false true false false):=by
 refine returnsInHanded_of_change_shaped (C:=Tryz.checked) Tryz.own started (by kernel_rfl) Tryz.func9
  (ChangeSpec.witness6 (enc:=enc) (C:=Tryz.checked) false ⟨#[],#[.slice none 0 0,.string ByteArray.empty,.slice none 0 0],[]⟩ 8 (by kernel_rfl) (by kernel_rfl) (by kernel_rfl) (by kernel_rfl)) ?_
 intro W base args ds gs before hval0 hW hcnd _ hsh _;have hval:∀ (j:Nat) t v,Tryz.f9.params[j]? = some t->args[j]? = some v->Value.okWide Tryz.prog W .any base t v:=hval0;have hW' := hW;obtain⟨p,q,hA0,hV,rfl,hfz,hnd⟩:=hW;have hA:DataW.TrodAll enc Tryz.prog W 0 (λ_=>true) true Tryz.f9.params.toList args.toList ds p:=hA0;rw[Tryz.params9] at hA hval;have hA2:=hA;obtain⟨v0,v1,v2,d0,d1,d2,p0,p1,p2,rfl,rfl,rfl,h0,h1,h2⟩:=trodAll_three hA;obtain⟨rfl,rfl⟩:=trodVars_none hV;obtain⟨x0,r0,y0⟩:=Qaa5 Qnp (by decide) (hval 0 22 v0 rfl rfl) h0;obtain⟨x1,r1,y1⟩:=Qaa5 Qnp (by decide) (hval 1 9 v1 rfl rfl) h1;obtain⟨x2,r2,y2⟩:=Qaa5 Qnp (by decide) (hval 2 29 v2 rfl rfl) h2;clear hA0 hval0;simp only[List.append_nil] at hW';have hgl:GlobOk (λ_ _=>True) W:=⟨λb hb=>by
  obtain⟨m,hm⟩:∃ m,W.cell? ⟨0,0,none⟩=some (.int .i64 m):=Tryz.laysM219.s1_3 W hsh;simp only[Qakq,List.mem_singleton] at hb;subst hb;exact⟨m,trivial,hm⟩,λx hx=>by simp[Qasg] at hx⟩
 refine((Qvb x0 x1 x2 y0 y1 y2).out (λ_ _=>True) W #[v0,v1,v2] hgl rfl (Qavl r0 r1 r2)).mono λe W' ⟨u,he,hd,hg⟩=>?_
 have hu:u = .bool true:=by cases hd with | p _ _ hd=>cases hd; rfl
 subst hu; subst he;exact⟨_,rfl,Qant (pv:=[]) hW' (λ_ _ _=>trodAll_mk1 (shut_bool Tryz.underlying4 _)) (Qyi Q33 hg (of_decide_eq_true (by kernel_rfl)) hA2 (λx hx=>by simpa using hW'.lt x hx)) rfl hg⟩
theorem inferChecks_holds:Rows.InferChecksSaid :=
 OpenClaim.holds_of_wide 9 Tryz.f9 rfl rfl rfl rfl rfl rfl rfl ⟨rfl,rfl,rfl,rfl,rfl⟩ rfl rfl rfl rfl rfl (by kernel_rfl) Tryz.func9 (by kernel_rfl)
  (of_decide_eq_true (by kernel_rfl)) (by unfold Func.isWrapper; first | (rw[if_pos (by decide +kernel)]; kernel_rfl) | (rw[if_neg (by decide +kernel)]; exact⟨rfl,rfl⟩))
  (λos started H enc _=>Qyj os started H enc)
#print axioms inferChecks_holds
end Go.Proofs.YtfgegilhjlnohaaGreat
end
