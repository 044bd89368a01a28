/- Part 10 of 13. -/
import Derived.Test.YtfgegilhjlnohaaGreatMgInferChecks9
import Derived.Lib.SlicesCompact

noncomputable section
namespace Go.Proofs.YtfgegilhjlnohaaGreat
open Go.RowKit
set_option linter.unusedSimpArgs false
set_option linter.unusedVariables false
theorem Qamw(l:List Qab)(k:Nat)(h:k+1<l.length):litB (l.drop (k+1))=(l[k+1].Kind==8):=by
 rw[Qcb h]; rfl
section
variable (n:Nat) (hn:n<900000000) (ih:∀ x:Qab,nn x<=n->allN okNd x->Qtb x=some (Q5j x))
include hn ih
theorem Qaq7(l:List Qab)(h:nns l<=n)(ho:allL okNd l)(top:Bool):∀ k,k<=l.length->Qhi l top k=some (if Qbq (l.drop k) (!top) then .inl () else .inr ()):=by
 have hl:=Qfd l;refine upto ?_ λk hk ihk=>?_
 .rw[Qhi]; simp[Qbq]
 .have hx:=Qev (List.getElem_mem hk);have ha:=Qqk (List.getElem_mem hk) ho;have htx:=((Qox okNd l[k]).1 ha).1.tx;rw[Qhi,Qa4 (by omega),ihk];simp only[ltI,hk,decide_true,if_true,Qa3,getE hk,Qad,ih l[k] (by omega) ha,Qas8 k l.length hk (by omega),tEnd l[k].Text (by omega)];rw[Qcb hk,Qbq,Qajx];rw[Qamv hk];cases hs:Q5j l[k] with
  | false=>rfl
  | true =>
   cases h8:(l[k].Kind==8) with
   | false=>simp
   | true =>
    by_cases hlast:k+1=l.length
    .have e1:(k+1==l.length)=true:=beq_iff_eq.2 hlast;have e2:litB (l.drop (k+1))=false:=by rw[List.drop_eq_nil_of_le (by omega)]; rfl
     rw[e1,e2];cases top<;>cases endB l[k].Text<;>simp
    .have e1:(k+1==l.length)=false:=beq_eq_false_iff_ne.2 hlast;have hk1:k+1<l.length:=by omega
     rw[e1,Qamw l k hk1,getE hk1];simp only[Qad];cases (l[k+1].Kind==8)<;>cases endB l[k].Text<;>cases top<;>simp
theorem Qamx(l:List Qab)(h:nns l<=n)(ho:allL okNd l)(top:Bool):Qix l top=some (Qbq l (!top)):=by
 have:=Qaq7 n hn ih l h ho top 0 (by omega);rw[Qix,show(0:Int)=((0:Nat):Int) from rfl,this,List.drop_zero];cases Qbq l (!top)<;>rfl
end
theorem Qauu:∀ n (x:Qab),n<900000000->nn x<=n->allN okNd x->Qtb x=some (Q5j x):=by
 intro n
 induction n with
 | zero=>intro x _ h; have:=Qjh x; omega
 | succ n ih =>
  intro x hb h ho;rw[Qie] at h;obtain⟨hq,ho1,ho2,ho3⟩:=(Qox okNd x).1 ho;have hnm:=hq.nm;have htx:=hq.tx;have ih' := λy=>ih y (by omega)
  have t1:=Qamx n (by omega) ih' x.Then (by omega) ho2 false;have t2:=Qamx n (by omega) ih' x.Else (by omega) ho3 false;have e2:(x.N != 0) = !(x.N==0):=rfl;rw[Qtb,Qiw,Qql,Qaq2 x.Name (by omega),tHas x.Text (by omega),t1,t2];simp only[Qad,gI,e2,zI,oneI];obtain⟨ex,hex,hex2⟩:∃ ex:Bool,Qdl x.L=ex/\(x.L.length==1->(idx x.L 0>>=λy=>Qft y)=some ex):=by
   refine⟨_,rfl,λhl=>?_⟩;obtain⟨y,hy⟩:=List.length_eq_one_iff.1 (by simpa using hl:x.L.length=1);have hy1:nn y<=n:=by have:=Qev (show y ∈ x.L by rw[hy]; simp); omega
   have hy2:allN okNd y:=Qqk (show y ∈ x.L by rw[hy]; simp) ho1;rw[hy];simp only[Qaqs,List.getElem?_cons_zero,Qad,Qaus n y (by omega) hy1 hy2,Qdl,Bool.and_true]
  rw[hex];have hidx:∀ (f:Bool->Option Bool) (g:Qab->Option Bool),x.L.length=1->(∀ y,g y=Qft y>>=f)->(idx x.L 0>>=g)=f ex:=λf g hl hg=>by
   have:=hex2 (by simpa using hl);obtain⟨y,hy⟩:=List.length_eq_one_iff.1 hl;rw[hy] at this ⊢;simp only[Qaqs,List.getElem?_cons_zero,Qad] at this ⊢;rw[hg,this,Qad]
  have nw:Qhu x.Name=true->(x.Name==[])=false:=λh=>Q94 (Q24 h)
  by_cases k8:x.Kind=8
  .simp only[k8,beq_self_eq_true,if_true];generalize (x.Name==[])=a1;generalize (x.Text==[])=a2;generalize (x.N==0)=a3;generalize zl x.L=a4;generalize zl x.Then=a5;generalize zl x.Else=a6;generalize hasB x.Text=hh;cases a1<;>(try (cases a2<;>cases hh<;>rfl))<;>cases a2<;>(try (cases hh<;>rfl))<;>cases a3<;>(try (cases hh<;>rfl))<;>cases a4<;>(try (cases hh<;>rfl))<;>cases a5<;>(try (cases hh<;>rfl))<;>cases a6<;>cases hh<;>rfl
  have b8:(x.Kind==8)=false:=beq_eq_false_iff_ne.2 k8;have hE:x.L.length=1->(idx x.L 0>>=λy=>Qft y>>=λb=>if b=true then if Qbq x.Then (!false)=true then some (Qbq x.Else (!false)) else some false else some false)=some (ex&&(Qbq x.Then true&&Qbq x.Else true)):=λhl=>by
   rw[hidx (λb=>if b=true then if Qbq x.Then (!false)=true then some (Qbq x.Else (!false)) else some false else some false) _ hl λy=>rfl];show(if ex=true then if Qbq x.Then true=true then some (Qbq x.Else true) else some false else some false)=_;cases ex<;>cases Qbq x.Then true<;>rfl
  have hb5:zl x.Then=true->Qbq x.Then true=true:=λh=>by rw[Qxr h,Qadq]
  have hb6:zl x.Else=true->Qbq x.Else true=true:=λh=>by rw[Qxr h,Qadq]
  have half:∀ w th ot nmd:Bool,(if(w==nmd)=true then if((!x.Name==[])==w&&((!x.Text==[])==false&&((!x.N==0)==false&&((!zl x.Then)==th&&((!zl x.Else)==ot&&(x.L.length==1&&true))))))=true then
    idx x.L 0>>=λy=>Qft y>>=λb=>if b=true then if Qbq x.Then (!false)=true then some (Qbq x.Else (!false)) else some false else some false else some false else some false) =
    some ((w==nmd)&&(((!x.Name==[])==w)&&((x.Text==[])&&((x.N==0)&&(((!zl x.Then)==th)&&(((!zl x.Else)==ot)&&((x.L.length==1)&&(ex&&(Qbq x.Then true&&Qbq x.Else true))))))))):=λw th ot nmd=>by
   have e0:∀ b:Bool,((!b)==false)=b:=λb=>by cases b<;>rfl
   simp only[e0];cases hl:(x.L.length==1) with
   | true =>
    rw[hE (by simpa using hl)];generalize (ex&&(Qbq x.Then true&&Qbq x.Else true))=q;generalize ((!x.Name==[])==w)=q1;generalize (x.Text==[])=q2;generalize (x.N==0)=q3;generalize ((!zl x.Then)==th)=q4;generalize ((!zl x.Else)==ot)=q5;generalize (w==nmd)=q6;cases q6<;>(try rfl)<;>cases q1<;>(try rfl)<;>cases q2<;>(try rfl)<;>cases q3<;>(try rfl)<;>cases q4<;>(try rfl)<;>cases q5<;>rfl
   | false =>
    generalize ((!x.Name==[])==w)=q1;generalize (x.Text==[])=q2;generalize (x.N==0)=q3;generalize ((!zl x.Then)==th)=q4;generalize ((!zl x.Else)==ot)=q5;generalize (w==nmd)=q6;cases q6<;>(try rfl)<;>cases q1<;>(try rfl)<;>cases q2<;>(try rfl)<;>cases q3<;>(try rfl)<;>cases q4<;>(try rfl)<;>cases q5<;>rfl
  have bnd:∀ m:Option Bool,(m>>=λo=>some o)=m:=λm=>by cases m<;>rfl
  simp only[b8,Bool.false_eq_true,if_false];by_cases k9:x.Kind=9
  .simp only[k9,beq_self_eq_true,if_true,Qad,show((9:Int)==11)=false from rfl,show((9:Int)==12)=false from rfl,show((9:Int)==13)=false from rfl,Bool.false_eq_true,if_false,bnd];have hh:=half false false false false;simp only[beq_self_eq_true,if_true,Bool.true_and] at hh;rw[hh];have e0:∀ b:Bool,((!b)==false)=b:=λb=>by cases b<;>rfl
   simp only[e0];cases h5:zl x.Then with
   | false=>generalize (x.Name==[])=a1; generalize (x.Text==[])=a2; generalize (x.N==0)=a3; cases a1<;>cases a2<;>cases a3<;>simp
   | true=>cases h6:zl x.Else with
    | false=>generalize (x.Name==[])=a1; generalize (x.Text==[])=a2; generalize (x.N==0)=a3; cases a1<;>cases a2<;>cases a3<;>simp
    | true =>
     rw[hb5 h5,hb6 h6];generalize (x.Name==[])=a1; generalize (x.Text==[])=a2; generalize (x.N==0)=a3; generalize (x.L.length==1)=l1;cases a1<;>cases a2<;>cases a3<;>cases l1<;>cases ex<;>rfl
  have b9:(x.Kind==9)=false:=beq_eq_false_iff_ne.2 k9;simp only[b9,Bool.false_eq_true,if_false];by_cases k10:x.Kind=10
  .simp only[k10,beq_self_eq_true,if_true,Qad,show((10:Int)==11)=false from rfl,show((10:Int)==12)=false from rfl,show((10:Int)==13)=false from rfl,Bool.false_eq_true,if_false,bnd];have hh:=half false (!zl x.Then) (!zl x.Else) false;simp only[beq_self_eq_true,if_true,Bool.true_and] at hh ⊢;rw[hh];have e0:∀ b:Bool,((!b)==false)=b:=λb=>by cases b<;>rfl
   simp only[e0];generalize (x.Name==[])=a1; generalize (x.Text==[])=a2; generalize (x.N==0)=a3; generalize (x.L.length==1)=l1; generalize zl x.Then=a5; generalize zl x.Else=a6; generalize Qbq x.Then true=bt; generalize Qbq x.Else true=be;cases a5<;>cases a6<;>cases a1<;>cases a2<;>cases a3<;>cases l1<;>cases ex<;>cases bt<;>cases be<;>rfl
  have b10:(x.Kind==10)=false:=beq_eq_false_iff_ne.2 k10;simp only[b10,Bool.false_eq_true,if_false];have e11:(if(x.Kind==11)=true then some (x.Kind==11) else some (x.Kind==12):Option Bool)=some (x.Kind==11||x.Kind==12):=by cases (x.Kind==11)<;>rfl
  rw[e11];cases h11:(x.Kind==11||x.Kind==12) with
  | true =>
   have e12:(if(x.Kind==11)=true then some true else if(x.Kind==12)=true then some true else some (x.Kind==13):Option Bool)=some true:=by
    revert h11; cases (x.Kind==11)<;>cases (x.Kind==12)<;>intro h<;>first | rfl | cases h
   rw[e12];simp only[Qad,if_true,bnd];rw[half (Qhu x.Name) (!zl x.Then) false true];have e0:∀ b:Bool,((!b)==false)=b:=λb=>by cases b<;>rfl
   simp only[e0];cases hn:Qhu x.Name with
   | false=>rfl
   | true =>
    rw[nw hn];cases h6:zl x.Else with
    | false=>generalize (x.Text==[])=a2; generalize (x.N==0)=a3; generalize zl x.Then=a5; cases a2<;>cases a3<;>cases a5<;>simp
    | true =>
     rw[hb6 h6];generalize (x.Text==[])=a2; generalize (x.N==0)=a3; generalize (x.L.length==1)=l1; generalize zl x.Then=a5; generalize Qbq x.Then true=bt;cases a5<;>cases a2<;>cases a3<;>cases l1<;>cases ex<;>cases bt<;>rfl
  | false =>
   have e12:(if(x.Kind==11)=true then some true else if(x.Kind==12)=true then some true else some (x.Kind==13):Option Bool)=some (x.Kind==13):=by
    revert h11; cases (x.Kind==11)<;>cases (x.Kind==12)<;>intro h<;>first | rfl | cases h
   rw[e12];simp only[Qad,Bool.false_eq_true,if_false];by_cases k13:x.Kind=13
   .simp only[k13,beq_self_eq_true,if_true,Qad,bnd];rw[half (Qhu x.Name) false false true];have e0:∀ b:Bool,((!b)==false)=b:=λb=>by cases b<;>rfl
    simp only[e0];cases hn:Qhu x.Name with
    | false=>rfl
    | true =>
     rw[nw hn];cases h5:zl x.Then with
     | false=>generalize (x.Text==[])=a2; generalize (x.N==0)=a3; cases a2<;>cases a3<;>simp
     | true=>cases h6:zl x.Else with
      | false=>generalize (x.Text==[])=a2; generalize (x.N==0)=a3; cases a2<;>cases a3<;>simp
      | true =>
       rw[hb5 h5,hb6 h6];generalize (x.Text==[])=a2; generalize (x.N==0)=a3; generalize (x.L.length==1)=l1;cases a2<;>cases a3<;>cases l1<;>cases ex<;>rfl
   .have b13:(x.Kind==13)=false:=beq_eq_false_iff_ne.2 k13;simp only[b13,Bool.false_eq_true,if_false,Qad]
section
variable (n:Nat) (hn:n<900000000) (ih:∀ x:Qab,nn x<=n->allN okNd x->Qxk x=some (Q5j x))
include hn ih
theorem Qaq8(l:List Qab)(h:nns l<=n)(ho:allL okNd l)(inn:Bool):∀ k,k<=l.length->Qgg l inn k=some (if Qbq (l.drop k) inn then .inl () else .inr ()):=by
 have hl:=Qfd l;refine upto ?_ λk hk ihk=>?_
 .rw[Qgg]; simp[Qbq]
 .have hx:=Qev (List.getElem_mem hk);have ha:=Qqk (List.getElem_mem hk) ho;have htx:=((Qox okNd l[k]).1 ha).1.tx;rw[Qgg,Qa4 (by omega),ihk];simp only[ltI,hk,decide_true,if_true,Qa3,getE hk,Qad,ih l[k] (by omega) ha,Qas8 k l.length hk (by omega)];rw[Qcb hk,Qbq,Qajx];rw[Qamv hk];cases hs:Q5j l[k] with
  | false=>rfl
  | true =>
   cases h8:(l[k].Kind==8) with
   | false =>
    have:(l[k].Kind != 8)=true:=by rw[bne,h8]; rfl
    rw[this];simp
   | true =>
    have h8' : (l[k].Kind != 8)=false:=by rw[bne,h8]; rfl
    rw[h8', rEnd l[k].Text (by omega) (Qamu hs (by simpa using h8))];by_cases hlast:k+1=l.length
    .have e1:(k+1==l.length)=true:=beq_iff_eq.2 hlast;have e2:litB (l.drop (k+1))=false:=by rw[List.drop_eq_nil_of_le (by omega)]; rfl
     rw[e1,e2];cases inn<;>cases endB l[k].Text<;>simp
    .have e1:(k+1==l.length)=false:=beq_eq_false_iff_ne.2 hlast;have hk1:k+1<l.length:=by omega
     rw[e1,Qamw l k hk1,getE hk1];simp only[Qad];cases (l[k+1].Kind==8)<;>cases endB l[k].Text<;>cases inn<;>simp
theorem Qamy(l:List Qab)(h:nns l<=n)(ho:allL okNd l)(inn:Bool):Qjd l inn=some (Qbq l inn):=by
 have:=Qaq8 n hn ih l h ho inn 0 (by omega);rw[Qjd,show(0:Int)=((0:Nat):Int) from rfl,this,List.drop_zero];cases Qbq l inn<;>rfl
end
theorem Qauv:∀ n (x:Qab),n<900000000->nn x<=n->allN okNd x->Qxk x=some (Q5j x):=by
 intro n
 induction n with
 | zero=>intro x _ h; have:=Qjh x; omega
 | succ n ih =>
  intro x hb h ho;rw[Qie] at h;obtain⟨hq,ho1,ho2,ho3⟩:=(Qox okNd x).1 ho;have hnm:=hq.nm;have htx:=hq.tx;have hll:=Qfd x.L;have ih' := λy=>ih y (by omega)
  have t1:=Qamy n (by omega) ih' x.Then (by omega) ho2 true;have t2:=Qamy n (by omega) ih' x.Else (by omega) ho3 true;have hex:=Qapu n (λy hy=>Qaut n y (by omega) hy) x.L (by omega) ho1 (by omega);rw[Qxk,Qql,Qaq3 x.Name (by omega),Qaq5 x.Text (by omega),t1,t2,hex];simp only[Qad,oneI,Qas7,Qao3];have e1:(if(x.L.length==1)=true then some (Qdl x.L) else some false:Option Bool)=some (x.L.length==1&&Qdl x.L):=by cases (x.L.length==1)<;>rfl
  rw[e1];simp only[Qad];generalize (x.L.length==1&&Qdl x.L)=one;by_cases k8:x.Kind=8
  .have e10:(x.Kind==10)=false:=beq_eq_false_iff_ne.2 (by omega);simp only[e10];simp only[k8,beq_self_eq_true,if_true];generalize (x.Name==[])=a1;generalize (x.Text==[])=a2;generalize (x.N==0)=a3;generalize zl x.L=a4;generalize zl x.Then=a5;generalize zl x.Else=a6;generalize hasB x.Text=hh;cases a2<;>(try rfl)<;>cases hh<;>(try rfl)<;>cases a1<;>(try rfl)<;>cases a3<;>rfl
  have b8:(x.Kind==8)=false:=beq_eq_false_iff_ne.2 k8;simp only[b8,Bool.false_eq_true,if_false];by_cases k10:x.Kind=10
  .simp only[k10,beq_self_eq_true,if_true,show((10:Int)==9)=false from rfl,Bool.false_eq_true,if_false];generalize (x.Name==[])=a1;generalize (x.Text==[])=a2;generalize (x.N==0)=a3;generalize Qbq x.Then true=bt;generalize Qbq x.Else true=be;generalize zl x.L=a4;generalize zl x.Then=a5;generalize zl x.Else=a6;cases one<;>(try rfl)<;>cases bt<;>(try rfl)<;>cases be<;>(try rfl)<;>cases a1<;>(try rfl)<;>cases a2<;>(try rfl)<;>cases a3<;>rfl
  have b10:(x.Kind==10)=false:=beq_eq_false_iff_ne.2 k10;simp only[b10,Bool.false_eq_true,if_false];have e11:(if(x.Kind==11)=true then some (x.Kind==11) else some (x.Kind==12):Option Bool)=some (x.Kind==11||x.Kind==12):=by cases (x.Kind==11)<;>rfl
  rw[e11];simp only[Qad];have nw:Qhu x.Name=true->(x.Name==[])=false:=λh=>Q94 (Q24 h)
  generalize (x.Kind==9)=k9;generalize (x.Kind==11||x.Kind==12)=k11;generalize (x.Kind==13)=k13;generalize (x.Name==[])=a1;generalize Qhu x.Name=nm;generalize (x.Text==[])=a2;generalize (x.N==0)=a3;generalize Qbq x.Then true=bt;generalize Qbq x.Else true=be;generalize zl x.L=a4;generalize zl x.Then=a5;generalize zl x.Else=a6;cases k9
  .cases k11
   .cases k13
    .rfl
    .cases nm<;>(try rfl)<;>cases one<;>(try rfl)<;>cases a2<;>(try rfl)<;>cases a3<;>rfl
   .cases nm<;>(try rfl)<;>cases one<;>(try rfl)<;>cases bt<;>(try rfl)<;>cases a2<;>(try rfl)<;>cases a3<;>rfl
  .cases one<;>(try rfl)<;>cases a1<;>(try rfl)<;>cases a2<;>(try rfl)<;>cases a3<;>rfl
def maxD(l:List (Qab×Int))(m:Int):Int:=l.foldl (λm x=>if x.2>m then x.2 else m) m
theorem Q09(a b:List (Qab×Int))(m:Int):maxD (a++b) m=maxD b (maxD a m):=by unfold maxD; rw[List.foldl_append]
theorem Qapv(x1:List Qab×Int):∀ (l:List (Qab×Int)) (m:Int),Qgr x1 l m=some (maxD l m)
 | [],m=>by rw[Qgr]; rfl
 | x::r,m=>by rw[Qgr,Qapv x1 r]; rfl
theorem Qamz(x1:List Qab×Int):∀ (l:List (Qab×Int)) (m:Nat),m+l.length<9223372036854775807->Qfa x1 l m=some ((m+l.length:Nat):Int)
 | [],m,_=>by rw[Qfa]; rfl
 | x::r,m,h=>by
  simp at h;rw[Qfa,Qa4 (by omega),Qamz x1 r (m+1) (by omega)];simp; omega
theorem Qao4(p0:List Qab)(p1 v12:Int)(x3:Qab)(v28:Int)(x7:List Qab×Int):∀ l:List (Qab×Int),Qfb p0 p1 v12 x3 v28 x7 l=some (l,())
 | []=>by rw[Qfb]
 | x::r=>by
  obtain⟨⟨k,s,t,n,a,b,c⟩,d⟩:=x;rw[Qfb,Qao4 p0 p1 v12 x3 v28 x7 r]; rfl
def Qao5(d:Nat)(k dep:Nat)(o:Option (List (Qab×Int)×Unit)):Prop:=∃ out,o=some (out,())/\out.length=k/\∀ m:Int,(d:Int)-1<=m->maxD out m=max m ((d:Int)-1+dep)
section
variable (n:Nat) (ih:∀ (l:List Qab) (d:Nat),nns l<=n->n+d<=1000000000->Qao5 d (nns l) (dps l) (Qfy l d))
include ih
theorem Qauw(l:List Qab)(d:Nat)(v:Int)(x:Qab)(hx:nn x<=n+1)(hd:n+1+d<=1000000000) :
  Qao5 (d+1) (nns x.L+nns x.Then+nns x.Else) (max (dps x.L) (max (dps x.Then) (dps x.Else))) (Qcg l d v x 0):=by
 rw[Qie] at hx;have ed:wr ((d:Int)+1)=((d+1:Nat):Int):=Qa4 (by omega);obtain⟨o1,a1,a2,a3⟩:=ih x.L (d+1) (by omega) (by omega);obtain⟨o2,b1,b2,b3⟩:=ih x.Then (d+1) (by omega) (by omega);obtain⟨o3,c1,c2,c3⟩:=ih x.Else (d+1) (by omega) (by omega);have s3:Qcg l d v x 3=some ([],()):=by rw[Qcg]; rfl
 have s2:Qcg l d v x 2=some (o3++[],()):=by
  rw[Qcg];have e:wr ((2:Int)+1)=3:=by rw[Qhc (by omega) (by omega)]; rfl
  have g:idx ([x.L,x.Then,x.Else]:List (List Qab)) 2=some x.Else:=Qafx _ 2;rw[g,e,s3];simp only[Qad,Qk2,ed,c1,Qao4,show decide ((2:Int)<3)=true from rfl,if_true]
 have s1:Qcg l d v x 1=some (o2++(o3++[]),()):=by
  rw[Qcg];have e:wr ((1:Int)+1)=2:=by rw[Qhc (by omega) (by omega)]; rfl
  have g:idx ([x.L,x.Then,x.Else]:List (List Qab)) 1=some x.Then:=Qafx _ 1;rw[g,e,s2];simp only[Qad,Qk2,ed,b1,Qao4,show decide ((1:Int)<3)=true from rfl,if_true]
 have s0:Qcg l d v x 0=some (o1++(o2++(o3++[])),()):=by
  rw[Qcg];have e:wr ((0:Int)+1)=1:=by rw[Qhc (by omega) (by omega)]; rfl
  have g:idx ([x.L,x.Then,x.Else]:List (List Qab)) 0=some x.L:=Qafx _ 0;rw[g,e,s1];simp only[Qad,Qk2,ed,a1,Qao4,show decide ((0:Int)<3)=true from rfl,if_true]
 refine⟨_,s0,by simp; omega,λm hm=>?_⟩;rw[List.append_nil,Q09,Q09,a3 m hm,b3 _ (by omega),c3 _ (by omega)];omega
theorem Qaux(l:List Qab)(d:Nat)(hl:nns l<=n+1)(hd:n+1+d<=1000000000):∀ k,k<=l.length->Qao5 d (nns (l.drop k)) (dps (l.drop k)) (Qfc l d k):=by
 have hlen:=Qfd l;refine upto ?_ λk hk ihk=>?_
 .rw[Qfc,List.drop_length];refine⟨[],by simp,by simp[nns],λm hm=>?_⟩;simp[maxD,dps]; omega
 .have hx:=Qev (List.getElem_mem hk);obtain⟨o1,a1,a2,a3⟩:=Qauw n ih l d k l[k] (by omega) hd;obtain⟨o2,b1,b2,b3⟩:=ihk;rw[Qfc,Qa4 (by omega)];simp only[ltI,hk,decide_true,if_true,Qa3,getE hk,Qad,a1,b1];rw[Qcb hk];refine⟨_,rfl,?_,λm hm=>?_⟩
  .simp[nns,Qie,a2,b2]; omega
  .show maxD ([(l[k],(d:Int))]++(o1++o2)) m=_;have e0:maxD [(l[k],(d:Int))] m=max m d:=by
    show(if(d:Int)>m then(d:Int) else m)=_;split<;>omega
   rw[Q09,Q09,e0,a3 _ (by omega),b3 _ (by omega),dps,Qamq];omega
end
theorem tAll:∀ n (l:List Qab) (d:Nat),nns l<=n->n+d<=1000000000->Qao5 d (nns l) (dps l) (Qfy l d):=by
 intro n
 induction n with
 | zero =>
  intro l d h _;have hl:l=[]:=List.eq_nil_of_length_eq_zero (by have:=Qfd l; omega);subst hl;rw[Qfy,Qfc];refine⟨[],by simp,by simp[nns],λm hm=>?_⟩;simp[maxD,dps]; omega
 | succ n ih =>
  intro l d h hd;obtain⟨o,a1,a2,a3⟩:=Qaux n ih l d h hd 0 (by omega);rw[List.drop_zero] at a2 a3;refine⟨o,?_,a2,a3⟩;rw[Qfy,show(0:Int)=((0:Nat):Int) from rfl,a1];simp
theorem Qauy(l:List Qab)(h:nns l<=900000000):Qs9 l=some (dps l:Int):=by
 obtain⟨o,a1,a2,a3⟩:=tAll 900000000 l 1 h (by omega);rw[Qs9,Qk2];simp only[Qad];rw[show(1:Int)=((1:Nat):Int) from rfl,a1];simp only[Qad,Qapv];rw[a3 0 (by omega)];congr 1;omega
theorem Qas9(l:List Qab)(h:nns l<=900000000):Qpm l=some (nns l:Int):=by
 obtain⟨o,a1,a2,a3⟩:=tAll 900000000 l 1 h (by omega);have:=Qamz (l,((1:Nat):Int)) o 0 (by omega);rw[Qpm,Qk2];simp only[Qad];rw[show(1:Int)=((1:Nat):Int) from rfl,a1];simp only[Qad];rw[show(0:Int)=((0:Nat):Int) from rfl,this];simp[a2]
theorem Qam0:∀ m (l:List Qab),nns l<=m->dps l<=nns l:=by
 intro m
 induction m with
 | zero =>
  intro l h;have hl:l=[]:=List.eq_nil_of_length_eq_zero (by have:=Qfd l; omega);subst hl; simp[dps]
 | succ m ihm =>
  intro l
  induction l with
  | nil=>intro _; simp[dps]
  | cons x r ihr =>
   intro h;rw[nns,Qie] at h;have h1:=ihm x.L (by omega);have h2:=ihm x.Then (by omega);have h3:=ihm x.Else (by omega);have h4:=ihr (by omega);rw[dps,Qamq,nns,Qie];omega
section
variable (n:Nat) (hn:n<=900000000) (ih:∀ l:List Qab,nns l<=n->Qe6 l=some (dps l:Int)/\Qdv l=some (nns l:Int))
include hn ih
theorem Qata(l:List Qab)(h:nns l<=n+1):∀ k,k<=l.length->∀ v:Nat,v<=1000000000->Qe7 l v k=some ((max v (dps (l.drop k)):Nat):Int):=by
 have hl:=Qfd l;refine upto ?_ λk hk ihk=>?_
 .intro v _; rw[Qe7]; simp[dps]
 .intro v hv;have hx:=Qev (List.getElem_mem hk);rw[Qie] at hx;have d1:=Qam0 _ l[k].L (Nat.le_refl _);have d2:=Qam0 _ l[k].Then (Nat.le_refl _);have d3:=Qam0 _ l[k].Else (Nat.le_refl _);have em:(if(dps l[k].Else:Int)>(if(dps l[k].Then:Int)>(dps l[k].L:Int) then(dps l[k].Then:Int) else(dps l[k].L:Int)) then(dps l[k].Else:Int) else(if(dps l[k].Then:Int)>(dps l[k].L:Int) then(dps l[k].Then:Int) else(dps l[k].L:Int)))=((max (dps l[k].L) (max (dps l[k].Then) (dps l[k].Else)):Nat):Int):=by
   split<;>split at * <;> omega
  rw[Qe7,Qa4 (by omega)];simp only[ltI,hk,decide_true,if_true,Qa3,getE hk,Qad,(ih l[k].L (by omega)).1,(ih l[k].Then (by omega)).1,(ih l[k].Else (by omega)).1];rw[em];have ew:wr (1+((max (dps l[k].L) (max (dps l[k].Then) (dps l[k].Else)):Nat):Int))=((dp l[k]:Nat):Int):=by
   rw[Qhc (by omega) (by omega),Qamq]; omega
  rw[ew];have ei:(if((dp l[k]:Nat):Int)>(v:Int) then((dp l[k]:Nat):Int) else(v:Int))=((max v (dp l[k]):Nat):Int):=by split<;>omega
  have hdp:dp l[k]<=1000000000:=by rw[Qamq]; omega
  rw[ei,ihk (max v (dp l[k])) (by omega),Qcb hk,dps];congr 2;omega
theorem Qaq9(l:List Qab)(h:nns l<=n+1):∀ k,k<=l.length->∀ v:Nat,v+nns (l.drop k)<=1000000000->Qd7 l v k=some ((v+nns (l.drop k):Nat):Int):=by
 have hl:=Qfd l;refine upto ?_ λk hk ihk=>?_
 .intro v _; rw[Qd7]; simp[nns]
 .intro v hv;have hx:=Qev (List.getElem_mem hk);rw[Qie] at hx;rw[Qcb hk,nns,Qie] at hv;rw[Qd7,Qa4 (i:=k) (by omega)];simp only[ltI,hk,decide_true,if_true,Qa3,getE hk,Qad,(ih l[k].L (by omega)).2,(ih l[k].Then (by omega)).2,(ih l[k].Else (by omega)).2];have ew:wr ((wr ((wr ((wr ((v:Int)+1))+(nns l[k].L:Int)))+(nns l[k].Then:Int)))+(nns l[k].Else:Int))=((v+nn l[k]:Nat):Int):=by
   rw[Qhc (n:=(v:Int)+1) (by omega) (by omega),Qhc (n:=(v:Int)+1+(nns l[k].L:Int)) (by omega) (by omega),Qhc (n:=(v:Int)+1+(nns l[k].L:Int)+(nns l[k].Then:Int)) (by omega) (by omega),Qhc (by omega) (by omega),Qie];omega
  rw[ew,ihk (v+nn l[k]) (by rw[Qie]; omega),Qcb hk,nns];congr 2;omega
end
theorem rDC:∀ n (l:List Qab),n<=900000000->nns l<=n->Qe6 l=some (dps l:Int)/\Qdv l=some (nns l:Int):=by
 intro n
 induction n with
 | zero =>
  intro l _ h;have hl:l=[]:=List.eq_nil_of_length_eq_zero (by have:=Qfd l; omega);subst hl;rw[Qe6,Qdv,Qe7,Qd7];simp[dps,nns]
 | succ n ih =>
  intro l hn h;have h1:=Qata n (by omega) (λl hl=>ih l (by omega) hl) l h 0 (by omega) 0 (by omega);have h2:=Qaq9 n (by omega) (λl hl=>ih l (by omega) hl) l h 0 (by omega) 0 (by rw[List.drop_zero]; omega);rw[Qe6,Qdv,show(0:Int)=((0:Nat):Int) from rfl,h1,h2];simp
def isP (l:List Qab):Bool:=decide (dps l<=12)&&(decide (nns l<=1024)&&Qbq l false)
theorem tIs(l:List Qab)(h:nns l<=800000000)(ho:allL okNd l):Q21 l=some (isP l):=by
 have e1:decide ((dps l:Int)<=12)=decide (dps l<=12):=leN _ 12;have e2:decide ((nns l:Int)<=1024)=decide (nns l<=1024):=leN _ 1024;have hb:=Qamx 800000000 (by omega) (λx hx=>Qauu 800000000 x (by omega) hx) l h ho true;rw[Q21,Qauy l (by omega),Qas9 l (by omega),hb,isP];simp only[Qad,e1,e2];cases decide (dps l<=12)<;>cases decide (nns l<=1024)<;>rfl
theorem rIs(l:List Qab)(h:nns l<=800000000)(ho:allL okNd l):Qadh l=some (isP l):=by
 have e1:decide ((dps l:Int)<=12)=decide (dps l<=12):=leN _ 12;have e2:decide ((nns l:Int)<=1024)=decide (nns l<=1024):=leN _ 1024;have hb:=Qamy 800000000 (by omega) (λx hx=>Qauv 800000000 x (by omega) hx) l h ho false;obtain⟨hd,hc⟩:=rDC 800000000 l (by omega) h;rw[Qadh,hd,hc,hb,isP];simp only[Qad,e1,e2];cases decide (dps l<=12)<;>cases decide (nns l<=1024)<;>cases Qbq l false<;>rfl
abbrev room:Nat:=100000000000
section
end
def Qcs(c:UInt8):Bool:=decide (128<=c.toNat)&&decide (c.toNat<192)
def Qjx(n:Nat):Bool:=decide (n<=1114111) && !(decide (55296<=n)&&decide (n<=57343))
def Qao6(c:UInt8)(r:List UInt8):Nat×Nat :=
  if c.toNat<128 then(c.toNat,1)
  else if 192<=c.toNat/\c.toNat<224 then
   match r with
   | c1::_=>if Qcs c1=true/\128<=(c.toNat-192)*64+(c1.toNat-128) then((c.toNat-192)*64+(c1.toNat-128),2) else(65533,1)
   | _=>(65533,1)
  else if 224<=c.toNat/\c.toNat<240 then
   match r with
   | c1::c2::_=>if Qcs c1=true/\Qcs c2=true/\2048<=((c.toNat-224)*64+(c1.toNat-128))*64+(c2.toNat-128)/\Qjx (((c.toNat-224)*64+(c1.toNat-128))*64+(c2.toNat-128))=true then(((c.toNat-224)*64+(c1.toNat-128))*64+(c2.toNat-128),3) else(65533,1)
   | _=>(65533,1)
  else if 240<=c.toNat/\c.toNat<248 then
   match r with
   | c1::c2::c3::_=>if Qcs c1=true/\Qcs c2=true/\Qcs c3=true/\65536<=(((c.toNat-240)*64+(c1.toNat-128))*64+(c2.toNat-128))*64+(c3.toNat-128)/\Qjx ((((c.toNat-240)*64+(c1.toNat-128))*64+(c2.toNat-128))*64+(c3.toNat-128))=true then((((c.toNat-240)*64+(c1.toNat-128))*64+(c2.toNat-128))*64+(c3.toNat-128),4) else(65533,1)
   | _=>(65533,1)
  else(65533,1)
def Qle:List UInt8->Nat×Nat
 | []=>(0,0)
 | c::r=>Qao6 c r
theorem Q25{n:Int}(h1 : -2147483648<=n)(h2:n<=2147483647):IntKind.i32.wrap n=n:=by
 simp[IntKind.wrap,IntKind.bits,IntKind.signed];omega
theorem Qatb{n:Int}(h1:0<=n)(h2:n<=255):IntKind.u8.wrap n=n:=by
 simp[IntKind.wrap,IntKind.bits,IntKind.signed];omega
theorem Qauz:∀ c:Fin 256,bits .and .u8 ((c.1:Nat):Int) 63=((c.1 % 64:Nat):Int):=by decide +kernel
theorem Qatc:∀ c:Fin 256,(bits .and .u8 ((c.1:Nat):Int) 192 != 128) = !(decide (128<=c.1)&&decide (c.1<192)):=by decide +kernel
theorem Qau0:∀ c:Fin 256,bits .and .u8 ((c.1:Nat):Int) 31=((c.1 % 32:Nat):Int):=by decide +kernel
theorem Qau1:∀ c:Fin 256,bits .and .u8 ((c.1:Nat):Int) 15=((c.1 % 16:Nat):Int):=by decide +kernel
theorem and7:∀ c:Fin 256,bits .and .u8 ((c.1:Nat):Int) 7=((c.1 % 8:Nat):Int):=by decide +kernel
theorem or64(a b:Nat)(ha:a<1000000)(hb:b<64):bits .or .i32 (IntKind.i32.wrap ((a:Int)*2 ^ (min (6:Int).toNat (IntKind.i32.bits)))) (IntKind.i32.wrap (b:Int))=((a*64+b:Nat):Int):=by
 have e1:IntKind.i32.wrap ((a:Int)*2 ^ (min (6:Int).toNat (IntKind.i32.bits)))=((a*64:Nat):Int):=by
  have:(min (6:Int).toNat (IntKind.i32.bits))=6:=rfl;rw[this,Q25 (by omega) (by omega)]; omega
 rw[e1,Q25 (by omega) (by omega)];have e2:(2:Nat) ^ 6*a+b=2 ^ 6*a ||| b:=Nat.two_pow_add_eq_or_of_lt (by omega) a
 have e3:a*64 ||| b=a*64+b:=by
  have:(2:Nat) ^ 6*a=a*64:=by omega
  rw[this] at e2; omega
 show IntKind.i32.wrap ((BitVec.ofInt 32 ((a*64:Nat):Int) ||| BitVec.ofInt 32 (b:Int)).toNat:Int)=_;rw[BitVec.toNat_or,BitVec.ofInt_natCast,BitVec.ofInt_natCast,BitVec.toNat_ofNat,BitVec.toNat_ofNat,Nat.mod_eq_of_lt (by omega),Nat.mod_eq_of_lt (by omega),e3,Q25 (by omega) (by omega)]
theorem b63(c:UInt8):bits .and .u8 (c.toNat:Int) 63=((c.toNat % 64:Nat):Int):=Qauz ⟨c.toNat,c.toNat_lt⟩
theorem b192(c:UInt8):(bits .and .u8 (c.toNat:Int) 192 != 128) = !Qcs c:=Qatc ⟨c.toNat,c.toNat_lt⟩
theorem b31(c:UInt8):bits .and .u8 (c.toNat:Int) 31=((c.toNat % 32:Nat):Int):=Qau0 ⟨c.toNat,c.toNat_lt⟩
theorem b15(c:UInt8):bits .and .u8 (c.toNat:Int) 15=((c.toNat % 16:Nat):Int):=Qau1 ⟨c.toNat,c.toNat_lt⟩
theorem b7(c:UInt8):bits .and .u8 (c.toNat:Int) 7=((c.toNat % 8:Nat):Int):=and7 ⟨c.toNat,c.toNat_lt⟩
theorem Qao7{c:UInt8}(h:Qcs c=true):c.toNat % 64=c.toNat-128:=by
 unfold Qcs at h;simp at h;omega
def Q26:Nat->List UInt8->Nat->Option Nat
 | 0,_,v=>some v
 | _+1,[],_=>none
 | m+1,c::r,v=>if Qcs c=true then Q26 m r (v*64+(c.toNat-128)) else none
set_option maxRecDepth 20000 in
theorem Qatd(l:List UInt8)(m:Nat)(hm:m<=l.length)(hm3:m<=3):∀ (d k v:Nat),k+d=m->((k=0->v<64)/\(k<=1->v<4096)/\(k<=2->v<262144)) ->
  Qid l m v k=some (match Q26 d (l.drop k) v with | some n =>.inl (n:Int) | none =>.inr ()):=by
 intro d
 induction d with
 | zero =>
  intro k v hk _;rw[Qid,ltI,decide_eq_false (by omega:¬ k<m)];rfl
 | succ d ih =>
  intro k v hk hv;have hkl:k<l.length:=by omega
  have:decide ((k:Int)<(m:Int))=true:=decide_eq_true (by omega);rw[Qid];simp only[this,if_true,Qa3,getE hkl,Qad,b192,b63];rw[or64 v _ (by omega) (Nat.mod_lt _ (by omega)),Qa4 (by omega),Qcb hkl];unfold Q26;cases hc:Qcs l[k] with
  | false=>rfl
  | true =>
   rw[Qao7 hc];have hlt:l[k].toNat-128<64:=by unfold Qcs at hc; simp at hc; omega
   have hv2:(k+1=0->v*64+(l[k].toNat-128)<64)/\(k+1<=1->v*64+(l[k].toNat-128)<4096)/\(k+1<=2->v*64+(l[k].toNat-128)<262144):=by omega
   simp only[Bool.not_true,Bool.false_eq_true,if_false,if_true];exact ih (k+1) _ (by omega) hv2
theorem Qau2(l:List UInt8)(m v:Nat)(hm3:m<=3)(hv:v<64):Quc l v m=some (match (if l.length<m then none else Q26 m l v) with | some n=>((n:Int),true) | none=>(0,false)):=by
 rw[Quc,ltI];by_cases h:l.length<m
 .rw[decide_eq_true h,if_pos h]; rfl
 .rw[decide_eq_false h,if_neg h];have:=Qatd l m (by omega) hm3 m 0 v (by omega) (by omega);rw[List.drop_zero] at this;rw[show(0:Int)=((0:Nat):Int) from rfl,this];cases Q26 m l v<;>rfl
theorem tIsR(n:Nat):Q65 (n:Int)=some (Qjx n):=by
 have a:decide ((n:Int) >= 0)=true:=decide_eq_true (by omega);have b:decide ((n:Int)<=1114111)=decide (n<=1114111):=by
  by_cases h:n<=1114111
  .rw[decide_eq_true h,decide_eq_true (by omega)]
  .rw[decide_eq_false h,decide_eq_false (by omega)]
 rw[Q65,a,b,Qjx];by_cases h1:n<55296
 .rw[decide_eq_true (show(n:Int)<55296 by omega),decide_eq_true (show n<=1114111 by omega),decide_eq_false (show ¬ 55296<=n by omega)]; rfl
 .rw[decide_eq_false (show ¬ (n:Int)<55296 by omega),decide_eq_true (show 55296<=n by omega)];by_cases h2:n<=57343
  .rw[decide_eq_false (show ¬ (n:Int)>57343 by omega),decide_eq_true h2,decide_eq_true (show n<=1114111 by omega)]; rfl
  .rw[decide_eq_true (show(n:Int)>57343 by omega),decide_eq_false h2];cases decide (n<=1114111)<;>rfl
theorem rIsR(n:Nat):Qn3 (n:Int)=some (Qjx n):=by
 have a:decide ((n:Int) >= 0)=true:=decide_eq_true (by omega);have b:decide ((n:Int)<=1114111)=decide (n<=1114111):=by
  by_cases h:n<=1114111
  .rw[decide_eq_true h,decide_eq_true (by omega)]
  .rw[decide_eq_false h,decide_eq_false (by omega)]
 have c:decide ((n:Int) >= 55296)=decide (55296<=n):=by
  by_cases h:55296<=n
  .rw[decide_eq_true h,decide_eq_true (by omega)]
  .rw[decide_eq_false h,decide_eq_false (by omega)]
 have d:decide ((n:Int)<=57343)=decide (n<=57343):=by
  by_cases h:n<=57343
  .rw[decide_eq_true h,decide_eq_true (by omega)]
  .rw[decide_eq_false h,decide_eq_false (by omega)]
 rw[Qn3,a,b,c,d,Qjx];cases decide (n<=1114111)<;>cases decide (55296<=n)<;>cases decide (n<=57343)<;>rfl
theorem ltC(c:UInt8)(k:Nat):decide ((c.toNat:Int)<(k:Int))=decide (c.toNat<k):=ltI _ _
theorem geC(c:UInt8)(k:Nat):decide ((c.toNat:Int) >= (k:Int))=decide (k<=c.toNat):=by
 by_cases h:k<=c.toNat
 .rw[decide_eq_true h,decide_eq_true (by omega)]
 .rw[decide_eq_false h,decide_eq_false (by omega)]
def endP(o:Option Nat)(least m:Nat):Nat×Nat:=match o with
 | some n=>if least<=n/\Qjx n=true then(n,m+1) else(65533,1)
 | none=>(65533,1)
set_option maxRecDepth 20000 in
theorem Qau3(s:List UInt8)(k:Nat)(hk:k<s.length)(hs:s.length<9223372036854775807):Qxm s k=some (((Qle (s.drop k)).1:Int),((Qle (s.drop k)).2:Int)):=by
 have d1:decide ((k:Int)<0)=false:=decide_eq_false (by omega);have d2:decide ((k:Int) >= (s.length:Int))=false:=decide_eq_false (by omega);have hc:=s[k].toNat_lt;have hr:cutL s (wr ((k:Int)+1)) (s.length:Int)=some (s.drop (k+1)):=by
  rw[Qa4 (by omega),Qmx (by omega) (by omega) (by omega)];simp
 rw[Qxm,d1,d2,hr,Qcb hk];have l128:=ltC s[k] 128;have g192:=geC s[k] 192;have l224:=ltC s[k] 224;have g224:=geC s[k] 224;have l240:=ltC s[k] 240;have g240:=geC s[k] 240;have l248:=ltC s[k] 248;have b1:∀ a b:Bool,(if a=true then some b else some false:Option Bool)=some (a&&b):=λa b=>by cases a<;>rfl
 simp only[Bool.false_eq_true,if_false,Qad,Qa3,getE hk];rw[show(128:Int)=((128:Nat):Int) from rfl,show(192:Int)=((192:Nat):Int) from rfl,show(224:Int)=((224:Nat):Int) from rfl,show(240:Int)=((240:Nat):Int) from rfl,show(248:Int)=((248:Nat):Int) from rfl,l128,g192,l224,g224,l240,g240,l248];simp only[b1,Qad];rw[Qle];unfold Qao6;have fin:∀ (v least m:Nat),m<=3->v<64->(Quc (s.drop (k+1)) (v:Int) (m:Int)>>=λx10 =>
   (if(!x10.2)=true then some true else if decide (x10.1<(least:Int))=true then some true else Q65 x10.1>>=λx12=>some (!x12):Option Bool)>>=λo11 =>
   if o11=true then some ((65533:Int),(1:Int)) else some (x10.1,wr ((m:Int)+1))) =
   some (((endP (if(s.drop (k+1)).length<m then none else Q26 m (s.drop (k+1)) v) least m).1:Int),((endP (if(s.drop (k+1)).length<m then none else Q26 m (s.drop (k+1)) v) least m).2:Int)):=λv least m hm hv=>by
  rw[Qau2 _ m v hm hv];cases (if(s.drop (k+1)).length<m then none else Q26 m (s.drop (k+1)) v) with
  | none=>rfl
  | some n =>
   simp only[Qad,Bool.not_true,Bool.false_eq_true,if_false,ltI,tIsR,endP];by_cases h1:n<least
   .rw[decide_eq_true h1,if_neg (λh=>absurd h.1 (by omega):¬ (least<=n/\Qjx n=true))]; rfl
   .rw[decide_eq_false h1];cases hrn:Qjx n with
    | true=>rw[if_pos (⟨by omega,rfl⟩:least<=n/\true=true),Qa4 (by omega)]; rfl
    | false=>rw[if_neg (λh=>by cases h.2:¬ (least<=n/\false=true))]; rfl
 by_cases h1:s[k].toNat<128
 .rw[decide_eq_true h1,if_pos h1];simp only[if_true,Qad];rw[Q25 (by omega) (by omega)]; rfl
 rw[decide_eq_false h1,if_neg h1];simp only[Bool.false_eq_true,if_false];have cc:∀ c:UInt8,Qcs c=true->c.toNat-128<64:=λc h=>by unfold Qcs at h; simp at h; omega
 by_cases h2:192<=s[k].toNat/\s[k].toNat<224
 .rw[decide_eq_true h2.1,decide_eq_true h2.2,if_pos h2,b31];simp only[Bool.and_true,if_true,Qad];rw[Q25 (by omega) (by omega)];have f:=fin (s[k].toNat % 32) 128 1 (by omega) (by omega);rw[show((1:Nat):Int)=1 from rfl] at f;rw[f];have e:s[k].toNat % 32=s[k].toNat-192:=by omega
  rw[e];cases s.drop (k+1) with
  | nil=>rfl
  | cons c1 r1 =>
   simp only[List.length_cons,if_neg (by omega:¬ r1.length+1<1),Q26];cases h:Qcs c1 with
   | false=>rfl
   | true =>
    have:=cc c1 h;have hr:Qjx ((s[k].toNat-192)*64+(c1.toNat-128))=true:=by unfold Qjx; rw[decide_eq_true (by omega),decide_eq_false (by omega)]; rfl
    simp only[if_true,endP,hr,and_true,true_and]
 rw[if_neg h2];have d2:(decide (192<=s[k].toNat)&&decide (s[k].toNat<224))=false:=by
  rw[Bool.and_eq_false_iff];by_cases h:192<=s[k].toNat
  .exact .inr (decide_eq_false (by omega))
  .exact .inl (decide_eq_false h)
 rw[d2];simp only[Bool.false_eq_true,if_false];by_cases h3:224<=s[k].toNat/\s[k].toNat<240
 .rw[decide_eq_true h3.1,decide_eq_true h3.2,if_pos h3,b15];simp only[Bool.and_true,if_true,Qad];rw[Q25 (by omega) (by omega)];have f:=fin (s[k].toNat % 16) 2048 2 (by omega) (by omega);rw[show((2:Nat):Int)=2 from rfl,show((2048:Nat):Int)=2048 from rfl] at f;rw[f];have e:s[k].toNat % 16=s[k].toNat-224:=by omega
  rw[e]
  match s.drop (k+1) with
  | []=>rfl
  | [c1]=>rfl
  | c1::c2::r1 =>
   simp only[List.length_cons,if_neg (by omega:¬ r1.length+1+1<2),Q26];cases h:Qcs c1 with
   | false=>rfl
   | true =>
    cases h' : Qcs c2 with
    | false=>simp[endP]
    | true=>simp only[if_true,endP,true_and]
 rw[if_neg h3];have d3:(decide (224<=s[k].toNat)&&decide (s[k].toNat<240))=false:=by
  rw[Bool.and_eq_false_iff];by_cases h:224<=s[k].toNat
  .exact .inr (decide_eq_false (by omega))
  .exact .inl (decide_eq_false h)
 rw[d3];simp only[Bool.false_eq_true,if_false];by_cases h4:240<=s[k].toNat/\s[k].toNat<248
 .rw[decide_eq_true h4.1,decide_eq_true h4.2,if_pos h4,b7];simp only[Bool.and_true,if_true,Qad];rw[Q25 (by omega) (by omega)];have f:=fin (s[k].toNat % 8) 65536 3 (by omega) (by omega);rw[show((3:Nat):Int)=3 from rfl,show((65536:Nat):Int)=65536 from rfl] at f;rw[f];have e:s[k].toNat % 8=s[k].toNat-240:=by omega
  rw[e]
  match s.drop (k+1) with
  | []=>rfl
  | [c1]=>rfl
  | [c1,c2]=>rfl
  | c1::c2::c3::r1 =>
   simp only[List.length_cons,if_neg (by omega:¬ r1.length+1+1+1<3),Q26];cases h:Qcs c1 with
   | false=>rfl
   | true =>
    cases h' : Qcs c2 with
    | false=>simp[endP]
    | true =>
     cases h'' : Qcs c3 with
     | false=>simp[endP]
     | true=>simp only[if_true,endP,true_and]
 rw[if_neg h4];have d4:(decide (240<=s[k].toNat)&&decide (s[k].toNat<248))=false:=by
  rw[Bool.and_eq_false_iff];by_cases h:240<=s[k].toNat
  .exact .inr (decide_eq_false (by omega))
  .exact .inl (decide_eq_false h)
 rw[d4];rfl
theorem Q68(l:List UInt8)(h:l≠[]):1<=(Qle l).2/\(Qle l).2<=l.length:=by
 cases l with
 | nil=>exact absurd rfl h
 | cons c r =>
  rw[Qle];unfold Qao6;split
  .simp
  .split
   .split
    .split<;>simp
    .simp
   .split
    .split
     .split<;>simp
     .simp
    .split
     .split
      .split<;>simp
      .simp
     .simp
def Qrb(n:Nat):List Nat :=
 if n<128 then [n] else if n<2048 then [192+n / 64,128+n % 64] else if n<65536 then [224+n / 4096,128+n / 64 % 64,128+n % 64] else [240+n / 262144,128+n / 4096 % 64,128+n / 64 % 64,128+n % 64]
theorem Qao8(l:List Nat)(h:∀ x ∈ l,x<256)(m:List UInt8):(l.map UInt8.ofNat==m)=decide (l=m.map UInt8.toNat):=by
 have key:l.map UInt8.ofNat=m↔l=m.map UInt8.toNat:=by
  constructor
  .intro e;subst e;rw[List.map_map]
   conv=>lhs; rw[<-List.map_id l]
   refine List.map_congr_left λx hx=>?_
   have:=h x hx;show x=(UInt8.ofNat x).toNat
   rw[UInt8.toNat_ofNat', Nat.mod_eq_of_lt this]
  .intro e;subst e;rw[List.map_map]
   conv=>rhs; rw[<-List.map_id m]
   exact List.map_congr_left λx _=>by simp
 by_cases he:l.map UInt8.ofNat=m
 .rw[decide_eq_true (key.1 he),beq_iff_eq]; exact he
 .rw[decide_eq_false (λk=>he (key.2 k)),beq_eq_false_iff_ne]; exact he
theorem Qaig(l:List Nat)(h:∀ x ∈ l,x<256):b2s (l.map λx:Nat=>(x:Int))=some (l.map UInt8.ofNat):=by
 unfold b2s;rw[if_pos]
 .rw[List.map_map]; rfl
 .rw[List.all_eq_true];intro n hn;obtain⟨x,hx,rfl⟩:=List.mem_map.1 hn;have:=h x hx;simp only[decide_eq_true_eq];omega
theorem td(n k:Nat):((n:Int).tdiv (k:Int))=((n / k:Nat):Int):=by rw[Int.tdiv_eq_ediv_of_nonneg (by omega)]; rfl
theorem tm(n k:Nat):((n:Int).tmod (k:Int))=((n % k:Nat):Int):=by rw[Int.tmod_eq_emod_of_nonneg (by omega)]; rfl
theorem wrN(n:Nat)(h:n<9000000000000):wr (n:Int)=(n:Int):=Qhc (by omega) (by omega)
theorem u8N(n:Nat)(h:n<256):IntKind.u8.wrap (n:Int)=(n:Int):=Qatb (by omega) (by omega)
set_option maxRecDepth 20000 in
theorem Qate(n:Nat)(h:Qjx n=true):Qnd (n:Int)=some ((Qrb n).map UInt8.ofNat):=by
 have hn:n<=1114111:=by unfold Qjx at h; rw[Bool.and_eq_true] at h; exact of_decide_eq_true h.1
 have a1:decide ((n:Int)<128)=decide (n<128):=ltI n 128;have a2:decide ((n:Int)<2048)=decide (n<2048):=ltI n 2048;have a3:decide ((n:Int)<65536)=decide (n<65536):=ltI n 65536;have d64:(n:Int).tdiv 64=((n / 64:Nat):Int):=td n 64;have m64:(n:Int).tmod 64=((n % 64:Nat):Int):=tm n 64;have d4096:(n:Int).tdiv 4096=((n / 4096:Nat):Int):=td n 4096;have d262:(n:Int).tdiv 262144=((n / 262144:Nat):Int):=td n 262144;have w1:∀ a b:Nat,a+b<256->IntKind.u8.wrap (wr ((a:Int)+(b:Int)))=((a+b:Nat):Int):=λa b h=>by
  rw[Qhc (by omega) (by omega),Qatb (by omega) (by omega)]; rfl
 rw[Qnd,rIsR,h];simp only[Qad,Bool.not_true,Bool.false_eq_true,if_false,a1,a2,a3,d64,m64,d4096,d262];rw[wrN (n / 64) (by omega),wrN (n / 4096) (by omega),wrN (n / 262144) (by omega)];have t64:(((n / 64:Nat):Int)).tmod 64=((n / 64 % 64:Nat):Int):=tm (n / 64) 64;have t4096:(((n / 4096:Nat):Int)).tmod 64=((n / 4096 % 64:Nat):Int):=tm (n / 4096) 64;rw[t64,t4096];unfold Qrb;by_cases h1:n<128
 .rw[decide_eq_true h1,if_pos h1,u8N n (by omega)];simp only[if_true];have:=Qaig [n] (by simp; omega);simp only[List.map_cons,List.map_nil] at this;rw[this]; rfl
 rw[decide_eq_false h1,if_neg h1];by_cases h2:n<2048
 .rw[decide_eq_true h2,if_pos h2];have e1:=w1 192 (n / 64) (by omega);have e2:=w1 128 (n % 64) (by omega);have:=Qaig [192+n / 64,128+n % 64] (by simp; omega);simp only[List.map_cons,List.map_nil] at this;simp only[Bool.false_eq_true,if_false,if_true];rw[show(192:Int)=((192:Nat):Int) from rfl,show(128:Int)=((128:Nat):Int) from rfl,e1,e2,this]; rfl
 rw[decide_eq_false h2,if_neg h2];by_cases h3:n<65536
 .rw[decide_eq_true h3,if_pos h3];have e1:=w1 224 (n / 4096) (by omega);have e2:=w1 128 (n / 64 % 64) (by omega);have e3:=w1 128 (n % 64) (by omega);have:=Qaig [224+n / 4096,128+n / 64 % 64,128+n % 64] (by simp; omega);simp only[List.map_cons,List.map_nil] at this;simp only[Bool.false_eq_true,if_false,if_true];rw[show(224:Int)=((224:Nat):Int) from rfl,show(128:Int)=((128:Nat):Int) from rfl,e1,e2,e3,this]; rfl
 rw[decide_eq_false h3,if_neg h3];have e0:=w1 240 (n / 262144) (by omega);have e1:=w1 128 (n / 4096 % 64) (by omega);have e2:=w1 128 (n / 64 % 64) (by omega);have e3:=w1 128 (n % 64) (by omega);have:=Qaig [240+n / 262144,128+n / 4096 % 64,128+n / 64 % 64,128+n % 64] (by simp; omega);simp only[List.map_cons,List.map_nil] at this;simp only[Bool.false_eq_true,if_false];rw[show(240:Int)=((240:Nat):Int) from rfl,show(128:Int)=((128:Nat):Int) from rfl,e0,e1,e2,e3,this]; rfl
theorem Qam1(n:Nat)(h:n<=1114111):∀ x ∈ Qrb n,x<256:=by
 unfold Qrb;split
 .simp; omega
 .split
  .simp; omega
  .split<;>simp<;>omega
theorem Qau4(s:List UInt8)(k m:Nat)(hm:k+m<=s.length)(hs:s.length<9000000000000)(n:Int) :
  ( if(decide (n >= 0))=true then
    Qn3 n>>=λx11 =>
    if x11=true then
     Qnd n>>=λx12 =>
     cutL s k (wr ((k:Int)+m))>>=λx13 =>
     some (x12==x13)
    else
     some false
   else
    some false:Option Bool)=some (decide (0<=n)&&(Qjx n.toNat&&decide (Qrb n.toNat=((s.take (k+m)).drop k).map UInt8.toNat))):=by
 have e:wr ((k:Int)+m)=((k+m:Nat):Int):=by rw[Qhc (by omega) (by omega)]; rfl
 by_cases h:0<=n
 .obtain⟨v,rfl⟩:∃ v:Nat,n=v:=⟨n.toNat,by omega⟩;rw[decide_eq_true (show(v:Int) >= 0 by omega),rIsR,e,Qmx (by omega) (by omega) (by omega)];simp only[if_true,Qad,Int.toNat_natCast,Bool.true_and];cases hr:Qjx v with
  | false=>rfl
  | true =>
   have hv:v<=1114111:=by unfold Qjx at hr; rw[Bool.and_eq_true] at hr; exact of_decide_eq_true hr.1
   rw[Qate v hr];simp only[if_true,Qad,Qao8 _ (Qam1 v hv),Bool.true_and]
 .rw[decide_eq_false (show ¬ n >= 0 from h)]; rfl
theorem wr64(a b:Int)(ha : -3000000<=a)(ha2:a<=3000000)(hb:0<=b)(hb2:b<=255):wr ((wr ((wr (64*a))+(wr b)))-128)=64*a+b-128:=by
 rw[Qhc (n:=64*a) (by omega) (by omega),Qhc (n:=b) (by omega) (by omega),Qhc (n:=64*a+b) (by omega) (by omega),Qhc (by omega) (by omega)]
def addN(a:Int)(c:UInt8):Int:=64*a+c.toNat-128
theorem rL2(s:List UInt8)(k:Nat)(v6:List Int)(m:Nat)(hm:k+m<=s.length)(hm4:m<=4)(hs:s.length<9000000000000):∀ d (i:Nat) (v:Int),i+d=m->1<=i->(i=1 -> -300<=v/\v<=300)->(i=2 -> -30000<=v/\v<=30000)->(i=3 -> -3000000<=v/\v<=3000000) ->
  Qee s k v6 m v i=some (((s.drop (k+i)).take d).foldl addN v):=by
 intro d
 induction d with
 | zero =>
  intro i v hi _ _ _ _;rw[Qee,ltI,decide_eq_false (by omega:¬ i<m)];simp
 | succ d ih =>
  intro i v hi hi1 h1 h2 h3;have hk:k+i<s.length:=by omega
  have e1:wr ((k:Int)+i)=((k+i:Nat):Int):=by rw[Qhc (by omega) (by omega)]; rfl
  have hc:=s[k+i].toNat_lt;have hb : -3000000<=v/\v<=3000000:=by omega
  rw[Qee,ltI,decide_eq_true (by omega:i<m),e1,Qa4 (by omega)];simp only[if_true,Qa3,getE hk,Qad];rw[wr64 v _ hb.1 hb.2 (by omega) (by omega),Qcb hk,List.take_succ_cons,List.foldl_cons];exact ih (i+1) (addN v s[k+i]) (by omega) (by omega) (by omega) (by unfold addN; omega) (by unfold addN; omega)
def Q27:List Int:=[0,0,192,224,240]
def numN(c:UInt8)(r:List UInt8)(m:Nat):Int:=(r.take (m-1)).foldl addN ((c.toNat:Int)-(Q27[m]?.getD 0))
def tstB(c:UInt8)(r:List UInt8)(m:Nat):Bool:=decide (0<=numN c r m)&&(Qjx (numN c r m).toNat&&decide (Qrb (numN c r m).toNat=((c::r).take m).map UInt8.toNat))
theorem rL1(s:List UInt8)(k:Nat)(hk:k<s.length)(hs:s.length<9000000000000)(m:Nat)(h1:1<=m)(h4:m<=4) :
  Qc4 s k Q27 m=if k+m<=s.length then(if tstB s[k] (s.drop (k+1)) m=true then some (.inr (numN s[k] (s.drop (k+1)) m,(m:Int))) else Qc4 s k Q27 ((m+1:Nat):Int)) else some (.inl ()):=by
 have e0:wr ((s.length:Int)-k)=((s.length-k:Nat):Int):=by rw[Qhc (by omega) (by omega)]; omega
 have a4:decide ((m:Int)<=4)=true:=decide_eq_true (by omega);have hc:=s[k].toNat_lt;rw[Qc4,e0,a4];by_cases hm:k+m<=s.length
 .have a5:decide ((m:Int)<=((s.length-k:Nat):Int))=true:=decide_eq_true (by omega);obtain⟨ld,hld,hl0,hl1⟩:∃ ld:Int,Q27[m]? = some ld/\0<=ld/\ld<=240:=by
   match m,h1,h4 with
   | 1,_,_=>exact⟨0,rfl,by omega,by omega⟩
   | 2,_,_=>exact⟨192,rfl,by omega,by omega⟩
   | 3,_,_=>exact⟨224,rfl,by omega,by omega⟩
   | 4,_,_=>exact⟨240,rfl,by omega,by omega⟩
  have ew:wr ((wr (s[k].toNat:Int))-ld)=(s[k].toNat:Int)-ld:=by rw[Qhc (n:=(s[k].toNat:Int)) (by omega) (by omega),Qhc (by omega) (by omega)]
  have h2:=rL2 s k Q27 m hm h4 hs (m-1) 1 ((s[k].toNat:Int)-ld) (by omega) (by omega) (by omega) (by omega) (by omega);have en:numN s[k] (s.drop (k+1)) m=((s.drop (k+1)).take (m-1)).foldl addN ((s[k].toNat:Int)-ld):=by rw[numN,hld]; rfl
  rw[<-en,show((1:Nat):Int)=1 from rfl] at h2;have ht:=Qau4 s k m hm hs (numN s[k] (s.drop (k+1)) m);have et:((s.take (k+m)).drop k)=((s[k]::s.drop (k+1)).take m):=by rw[<-Qcb hk,List.drop_take]; congr 1; omega
  rw[et] at ht;rw[a5,if_pos hm,Qa4 (by omega)];simp only[if_true,Qad,Qa3,getE hk,hld,ew,h2];rw[ht];rfl
 .have a5:decide ((m:Int)<=((s.length-k:Nat):Int))=false:=decide_eq_false (by omega);rw[a5,if_neg hm];rfl
theorem tst1(c:UInt8)(r:List UInt8):tstB c r 1=decide (c.toNat<128)/\numN c r 1=(c.toNat:Int):=by
 have hc:=c.toNat_lt;have en:numN c r 1=(c.toNat:Int):=by simp[numN,Q27]
 refine⟨?_,en⟩;have hr:Qjx c.toNat=true:=by unfold Qjx; rw[decide_eq_true (by omega),decide_eq_false (by omega)]; rfl
 rw[tstB,en,decide_eq_true (by omega),Int.toNat_natCast,hr];simp only[Bool.true_and,List.take_succ_cons,List.take_zero,List.map_cons,List.map_nil];unfold Qrb;by_cases h:c.toNat<128
 .rw[decide_eq_true h,if_pos h]; simp
 .rw[decide_eq_false h,if_neg h,if_pos (by omega)];simp
theorem tst2(c c1:UInt8)(r:List UInt8):tstB c (c1::r) 2=decide ((192<=c.toNat/\c.toNat<224)/\Qcs c1=true/\128<=(c.toNat-192)*64+(c1.toNat-128))/\numN c (c1::r) 2=64*((c.toNat:Int)-192)+c1.toNat-128:=by
 have hc:=c.toNat_lt;have hc1:=c1.toNat_lt;have en:numN c (c1::r) 2=64*((c.toNat:Int)-192)+c1.toNat-128:=by simp[numN,Q27,addN]
 refine⟨?_,en⟩;rw[tstB,en];simp only[List.take_succ_cons,List.take_zero,List.map_cons,List.map_nil];have hcont:Qcs c1=true↔(128<=c1.toNat/\c1.toNat<192):=by unfold Qcs; simp
 by_cases hn:0<=64*((c.toNat:Int)-192)+c1.toNat-128
 .obtain⟨n,hn2⟩:∃ n:Nat,64*((c.toNat:Int)-192)+c1.toNat-128=n:=⟨(64*((c.toNat:Int)-192)+c1.toNat-128).toNat,by omega⟩;rw[hn2,Int.toNat_natCast,decide_eq_true (by omega),Bool.true_and];have hlt:n<5000:=by omega
  have hr:Qjx n=true:=by unfold Qjx; rw[decide_eq_true (by omega),decide_eq_false (by omega)]; rfl
  rw[hr,Bool.true_and];congr 1;apply propext;rw[hcont];unfold Qrb;by_cases h1:n<128
  .rw[if_pos h1];constructor
   .intro h; simp at h
   .intro h; omega
  .rw[if_neg h1];by_cases h2:n<2048
   .rw[if_pos h2];simp only[List.cons.injEq,and_true];omega
   .rw[if_neg h2,if_pos (by omega)];constructor
    .intro h; simp at h
    .intro h; omega
 .rw[decide_eq_false hn,Bool.false_and,decide_eq_false];rw[hcont]; omega
theorem tst3(c c1 c2:UInt8)(r:List UInt8):tstB c (c1::c2::r) 3=decide ((224<=c.toNat/\c.toNat<240)/\Qcs c1=true/\Qcs c2=true/\2048<=((c.toNat-224)*64+(c1.toNat-128))*64+(c2.toNat-128)/\Qjx (((c.toNat-224)*64+(c1.toNat-128))*64+(c2.toNat-128))=true) /\
  numN c (c1::c2::r) 3=64*(64*((c.toNat:Int)-224)+c1.toNat-128)+c2.toNat-128:=by
 have hc:=c.toNat_lt;have hc1:=c1.toNat_lt;have hc2:=c2.toNat_lt;have en:numN c (c1::c2::r) 3=64*(64*((c.toNat:Int)-224)+c1.toNat-128)+c2.toNat-128:=by simp[numN,Q27,addN]
 refine⟨?_,en⟩;rw[tstB,en];simp only[List.take_succ_cons,List.take_zero,List.map_cons,List.map_nil];have hcont:Qcs c1=true↔(128<=c1.toNat/\c1.toNat<192):=by unfold Qcs; simp
 have hcont2:Qcs c2=true↔(128<=c2.toNat/\c2.toNat<192):=by unfold Qcs; simp
 by_cases hn:0<=64*(64*((c.toNat:Int)-224)+c1.toNat-128)+c2.toNat-128
 .obtain⟨n,hn2⟩:∃ n:Nat,64*(64*((c.toNat:Int)-224)+c1.toNat-128)+c2.toNat-128=n:=⟨(64*(64*((c.toNat:Int)-224)+c1.toNat-128)+c2.toNat-128).toNat,by omega⟩;rw[hn2,Int.toNat_natCast,decide_eq_true (by omega),Bool.true_and];have hlt:n<200000:=by omega
  have key:Qrb n=[c.toNat,c1.toNat,c2.toNat]↔((224<=c.toNat/\c.toNat<240)/\(128<=c1.toNat/\c1.toNat<192)/\(128<=c2.toNat/\c2.toNat<192)/\2048<=n):=by
   unfold Qrb;by_cases h1:n<128
   .rw[if_pos h1];exact⟨λh=>by simp at h,λh=>by omega⟩
   rw[if_neg h1];by_cases h2:n<2048
   .rw[if_pos h2];exact⟨λh=>by simp at h,λh=>by omega⟩
   rw[if_neg h2];by_cases h3:n<65536
   .rw[if_pos h3];simp only[List.cons.injEq,and_true];omega
   .rw[if_neg h3];exact⟨λh=>by simp at h,λh=>by omega⟩
  rw[Bool.eq_iff_iff];simp only[Bool.and_eq_true,decide_eq_true_eq];rw[key,hcont,hcont2];constructor
  .rintro ⟨hr,a,b,c', d⟩;have e:((c.toNat-224)*64+(c1.toNat-128))*64+(c2.toNat-128)=n:=by omega
   exact⟨a,b,c', by omega,by rw[e]; exact hr⟩
  .rintro ⟨a,b,c', d,hr⟩;have e:((c.toNat-224)*64+(c1.toNat-128))*64+(c2.toNat-128)=n:=by omega
   rw[e] at hr d;exact⟨hr,a,b,c', d⟩
 .rw[decide_eq_false hn,Bool.false_and,decide_eq_false];rw[hcont,hcont2]; omega
theorem tst4(c c1 c2 c3:UInt8)(r:List UInt8):tstB c (c1::c2::c3::r) 4=decide ((240<=c.toNat/\c.toNat<248)/\Qcs c1=true/\Qcs c2=true/\Qcs c3=true/\65536<=(((c.toNat-240)*64+(c1.toNat-128))*64+(c2.toNat-128))*64+(c3.toNat-128)/\Qjx ((((c.toNat-240)*64+(c1.toNat-128))*64+(c2.toNat-128))*64+(c3.toNat-128))=true) /\
  numN c (c1::c2::c3::r) 4=64*(64*(64*((c.toNat:Int)-240)+c1.toNat-128)+c2.toNat-128)+c3.toNat-128:=by
 have hc:=c.toNat_lt;have hc1:=c1.toNat_lt;have hc2:=c2.toNat_lt;have hc3:=c3.toNat_lt;have en:numN c (c1::c2::c3::r) 4=64*(64*(64*((c.toNat:Int)-240)+c1.toNat-128)+c2.toNat-128)+c3.toNat-128:=by simp[numN,Q27,addN]
 refine⟨?_,en⟩;rw[tstB,en];simp only[List.take_succ_cons,List.take_zero,List.map_cons,List.map_nil];have hcont:Qcs c1=true↔(128<=c1.toNat/\c1.toNat<192):=by unfold Qcs; simp
 have hcont2:Qcs c2=true↔(128<=c2.toNat/\c2.toNat<192):=by unfold Qcs; simp
 have hcont3:Qcs c3=true↔(128<=c3.toNat/\c3.toNat<192):=by unfold Qcs; simp
 by_cases hn:0<=64*(64*(64*((c.toNat:Int)-240)+c1.toNat-128)+c2.toNat-128)+c3.toNat-128
 .obtain⟨n,hn2⟩:∃ n:Nat,64*(64*(64*((c.toNat:Int)-240)+c1.toNat-128)+c2.toNat-128)+c3.toNat-128=n:=⟨(64*(64*(64*((c.toNat:Int)-240)+c1.toNat-128)+c2.toNat-128)+c3.toNat-128).toNat,by omega⟩;rw[hn2,Int.toNat_natCast,decide_eq_true (by omega),Bool.true_and];have key:Qjx n=true->(Qrb n=[c.toNat,c1.toNat,c2.toNat,c3.toNat]↔((240<=c.toNat/\c.toNat<248)/\(128<=c1.toNat/\c1.toNat<192)/\(128<=c2.toNat/\c2.toNat<192)/\(128<=c3.toNat/\c3.toNat<192)/\65536<=n)):=λhr=>by
   have hlt:n<=1114111:=by unfold Qjx at hr; rw[Bool.and_eq_true] at hr; exact of_decide_eq_true hr.1
   unfold Qrb;by_cases h1:n<128
   .rw[if_pos h1];exact⟨λh=>by simp at h,λh=>by omega⟩
   rw[if_neg h1];by_cases h2:n<2048
   .rw[if_pos h2];exact⟨λh=>by simp at h,λh=>by omega⟩
   rw[if_neg h2];by_cases h3:n<65536
   .rw[if_pos h3];exact⟨λh=>by simp at h,λh=>by omega⟩
   .rw[if_neg h3];simp only[List.cons.injEq,and_true];omega
  rw[Bool.eq_iff_iff];simp only[Bool.and_eq_true,decide_eq_true_eq];rw[hcont,hcont2,hcont3];constructor
  .rintro ⟨hr,hb⟩;obtain⟨a,b,c', d', d⟩:=(key hr).1 hb;have e:(((c.toNat-240)*64+(c1.toNat-128))*64+(c2.toNat-128))*64+(c3.toNat-128)=n:=by omega
   exact⟨a,b,c', d', by omega,by rw[e]; exact hr⟩
  .rintro ⟨a,b,c', d', d,hr⟩;have e:(((c.toNat-240)*64+(c1.toNat-128))*64+(c2.toNat-128))*64+(c3.toNat-128)=n:=by omega
   rw[e] at hr d;exact⟨hr,(key hr).2 ⟨a,b,c', d', d⟩⟩
 .rw[decide_eq_false hn,Bool.false_and,decide_eq_false];rw[hcont,hcont2,hcont3]; omega
theorem Qau5(s:List UInt8)(k:Nat)(hk:k<s.length)(hs:s.length<9000000000000):Qmc s k=some (((Qle (s.drop k)).1:Int),((Qle (s.drop k)).2:Int)):=by
 have d1:decide ((k:Int)<0)=false:=decide_eq_false (by omega);have d2:decide ((k:Int) >= (s.length:Int))=false:=decide_eq_false (by omega);have hc:=s[k].toNat_lt;have l1:=rL1 s k hk hs 1 (by omega) (by omega);have l2:=rL1 s k hk hs 2 (by omega) (by omega);have l3:=rL1 s k hk hs 3 (by omega) (by omega);have l4:=rL1 s k hk hs 4 (by omega) (by omega);have l5:Qc4 s k Q27 ((4+1:Nat):Int)=some (.inl ()):=by
  rw[Qc4,show decide (((4+1:Nat):Int)<=4)=false from rfl];simp only[Bool.false_eq_true,if_false,Qad]
 have hdl:(s.drop (k+1)).length=s.length-(k+1):=List.length_drop;rw[Qmc,d1,d2,Qcb hk,Qle];show(Qc4 s k Q27 ((1:Nat):Int)>>=_)=_;rw[l1,if_pos (by omega),(tst1 _ _).1,(tst1 _ _).2,l2];unfold Qao6;by_cases h1:s[k].toNat<128
 .rw[decide_eq_true h1,if_pos rfl,if_pos h1]; rfl
 rw[decide_eq_false h1,if_neg (by decide),if_neg h1];generalize hr:s.drop (k+1)=r at *
 match r with
 | [] =>
  simp at hdl;rw[if_neg (by omega)];simp
 | [c1] =>
  simp at hdl;have hc1:=c1.toNat_lt;rw[if_pos (by omega),(tst2 _ _ _).1,(tst2 _ _ _).2,l3,if_neg (by omega:¬ k+3<=s.length)];dsimp only;by_cases h2:192<=s[k].toNat/\s[k].toNat<224
  .rw[if_pos h2];by_cases h3:Qcs c1=true/\128<=(s[k].toNat-192)*64+(c1.toNat-128)
   .have h4:128<=c1.toNat:=by have:=h3.1; unfold Qcs at this; simp at this; exact this.1
    rw[decide_eq_true ⟨h2,h3⟩,if_pos rfl,if_pos h3];simp only[Qad];congr 2;omega
   .rw[decide_eq_false (λh=>h3 h.2),if_neg (by decide),if_neg h3]; rfl
  .rw[decide_eq_false (λh=>h2 h.1),if_neg (by decide),if_neg h2];simp
 | [c1,c2] =>
  simp at hdl;have hc1:=c1.toNat_lt;have hc2:=c2.toNat_lt;rw[if_pos (by omega),(tst2 _ _ _).1,(tst2 _ _ _).2,l3,if_pos (by omega:k+3<=s.length),(tst3 _ _ _ _).1,(tst3 _ _ _ _).2,l4,if_neg (by omega:¬ k+4<=s.length)];dsimp only;by_cases h2:192<=s[k].toNat/\s[k].toNat<224
  .rw[if_pos h2];by_cases h3:Qcs c1=true/\128<=(s[k].toNat-192)*64+(c1.toNat-128)
   .have h4:128<=c1.toNat:=by have:=h3.1; unfold Qcs at this; simp at this; exact this.1
    rw[decide_eq_true ⟨h2,h3⟩,if_pos rfl,if_pos h3];simp only[Qad];congr 2;omega
   .rw[decide_eq_false (λh=>h3 h.2),if_neg (by decide),if_neg h3,decide_eq_false (λh=>by have:=h.1; omega),if_neg (by decide)]; rfl
  .rw[decide_eq_false (λh=>h2 h.1),if_neg (by decide),if_neg h2];by_cases h5:224<=s[k].toNat/\s[k].toNat<240
   .rw[if_pos h5];by_cases h6:Qcs c1=true/\Qcs c2=true/\2048<=((s[k].toNat-224)*64+(c1.toNat-128))*64+(c2.toNat-128)/\Qjx (((s[k].toNat-224)*64+(c1.toNat-128))*64+(c2.toNat-128))=true
    .have h4:128<=c1.toNat:=by have:=h6.1; unfold Qcs at this; simp at this; exact this.1
     have h4' : 128<=c2.toNat:=by have:=h6.2.1; unfold Qcs at this; simp at this; exact this.1
     rw[decide_eq_true ⟨h5,h6⟩,if_pos rfl,if_pos h6];simp only[Qad];congr 2;omega
    .rw[decide_eq_false (λh=>h6 h.2),if_neg (by decide),if_neg h6]; rfl
   .rw[decide_eq_false (λh=>h5 h.1),if_neg (by decide),if_neg h5];simp
 | c1::c2::c3::r =>
  simp at hdl;have hc1:=c1.toNat_lt;have hc2:=c2.toNat_lt;have hc3:=c3.toNat_lt;rw[if_pos (by omega),(tst2 _ _ _).1,(tst2 _ _ _).2,l3,if_pos (by omega:k+3<=s.length),(tst3 _ _ _ _).1,(tst3 _ _ _ _).2,l4,if_pos (by omega:k+4<=s.length),(tst4 _ _ _ _ _).1,(tst4 _ _ _ _ _).2,l5];dsimp only;by_cases h2:192<=s[k].toNat/\s[k].toNat<224
  .rw[if_pos h2];by_cases h3:Qcs c1=true/\128<=(s[k].toNat-192)*64+(c1.toNat-128)
   .have h4:128<=c1.toNat:=by have:=h3.1; unfold Qcs at this; simp at this; exact this.1
    rw[decide_eq_true ⟨h2,h3⟩,if_pos rfl,if_pos h3];simp only[Qad];congr 2;omega
   .rw[decide_eq_false (λh=>h3 h.2),if_neg (by decide),if_neg h3,decide_eq_false (λh=>by have:=h.1; omega),if_neg (by decide),decide_eq_false (λh=>by have:=h.1; omega),if_neg (by decide)]; rfl
  .rw[decide_eq_false (λh=>h2 h.1),if_neg (by decide),if_neg h2];by_cases h5:224<=s[k].toNat/\s[k].toNat<240
   .rw[if_pos h5];by_cases h6:Qcs c1=true/\Qcs c2=true/\2048<=((s[k].toNat-224)*64+(c1.toNat-128))*64+(c2.toNat-128)/\Qjx (((s[k].toNat-224)*64+(c1.toNat-128))*64+(c2.toNat-128))=true
    .have h4:128<=c1.toNat:=by have:=h6.1; unfold Qcs at this; simp at this; exact this.1
     have h4' : 128<=c2.toNat:=by have:=h6.2.1; unfold Qcs at this; simp at this; exact this.1
     rw[decide_eq_true ⟨h5,h6⟩,if_pos rfl,if_pos h6];simp only[Qad];congr 2;omega
    .rw[decide_eq_false (λh=>h6 h.2),if_neg (by decide),if_neg h6,decide_eq_false (λh=>by have:=h.1; omega),if_neg (by decide)]; rfl
   .rw[decide_eq_false (λh=>h5 h.1),if_neg (by decide),if_neg h5];by_cases h7:240<=s[k].toNat/\s[k].toNat<248
    .rw[if_pos h7];by_cases h8:Qcs c1=true/\Qcs c2=true/\Qcs c3=true/\65536<=(((s[k].toNat-240)*64+(c1.toNat-128))*64+(c2.toNat-128))*64+(c3.toNat-128)/\Qjx ((((s[k].toNat-240)*64+(c1.toNat-128))*64+(c2.toNat-128))*64+(c3.toNat-128))=true
     .have h4:128<=c1.toNat:=by have:=h8.1; unfold Qcs at this; simp at this; exact this.1
      have h4' : 128<=c2.toNat:=by have:=h8.2.1; unfold Qcs at this; simp at this; exact this.1
      have h4'' : 128<=c3.toNat:=by have:=h8.2.2.1; unfold Qcs at this; simp at this; exact this.1
      rw[decide_eq_true ⟨h7,h8⟩,if_pos rfl,if_pos h8];simp only[Qad];congr 2;omega
     .rw[decide_eq_false (λh=>h8 h.2),if_neg (by decide),if_neg h8]; rfl
    .rw[decide_eq_false (λh=>h7 h.1),if_neg (by decide),if_neg h7];rfl
def utfF:Nat->List UInt8->Bool
 | 0,_=>true
 | n+1,l=>match l with
  | []=>true
  | _::_=>if(Qle l).1=65533/\(Qle l).2=1 then false else utfF n (l.drop (Qle l).2)
theorem Qadr(n:Nat)(l:List UInt8)(h:l≠[]):utfF (n+1) l=if(Qle l).1=65533/\(Qle l).2=1 then false else utfF n (l.drop (Qle l).2):=by
 cases l with
 | nil=>exact absurd rfl h
 | cons c r=>rfl
theorem badI(p:Nat×Nat):(if(((p.1:Nat):Int)==65533)=true then some (((p.2:Nat):Int)==1) else some false:Option Bool)=some (decide (p.1=65533/\p.2=1)):=by
 have a:=eqN p.1 65533;have b:=eqN p.2 1;rw[show(65533:Int)=((65533:Nat):Int) from rfl,show(1:Int)=((1:Nat):Int) from rfl,a,b];by_cases h1:p.1=65533
 .rw[beq_iff_eq.2 h1,if_pos rfl];by_cases h2:p.2=1
  .rw[beq_iff_eq.2 h2,decide_eq_true ⟨h1,h2⟩]
  .rw[beq_eq_false_iff_ne.2 h2,decide_eq_false (λh=>h2 h.2)]
 .rw[beq_eq_false_iff_ne.2 h1,if_neg (by decide),decide_eq_false (λh=>h1 h.1)]
theorem rIsU(s:List UInt8)(hs:s.length<9000000000000):∀ n k,k<=s.length->s.length-k<=n->Qla s k=some (if utfF n (s.drop k)=true then .inl () else .inr ()):=by
 intro n
 induction n with
 | zero =>
  intro k h1 h2;rw[Qla,ltI,decide_eq_false (by omega:¬ k<s.length)];rfl
 | succ n ih =>
  intro k h1 h2;by_cases hk:k<s.length
  .have hne:s.drop k≠[]:=by rw[Qcb hk]; exact List.cons_ne_nil _ _
   obtain⟨z1,z2⟩:=Q68 _ hne;rw[List.length_drop] at z2;have ew:wr ((k:Int)+((Qle (s.drop k)).2:Int))=((k+(Qle (s.drop k)).2:Nat):Int):=by rw[Qhc (by omega) (by omega)]; rfl
   rw[Qla,ltI,decide_eq_true hk,Qau5 s k hk hs];simp only[if_true,Qad];rw[badI (Qle (s.drop k)),ew,ih _ (by omega) (by omega),Qadr n _ hne,List.drop_drop];by_cases hb:(Qle (s.drop k)).1=65533/\(Qle (s.drop k)).2=1
   .rw[decide_eq_true hb,if_pos hb]; rfl
   .rw[decide_eq_false hb,if_neg hb]; rfl
  .rw[Qla,ltI,decide_eq_false hk,List.drop_eq_nil_of_le (by omega)];rfl
theorem tIsU(s:List UInt8)(x1:List UInt8)(hs:s.length<9000000000000):∀ n k,k<=s.length->s.length-k<=n->∃ out,Qe1 s k=some (out,())/\Qlc x1 out=some (if utfF n (s.drop k)=true then .inl () else .inr ()):=by
 intro n
 induction n with
 | zero =>
  intro k h1 h2;rw[Qe1,ltI,decide_eq_false (by omega:¬ k<s.length)];refine⟨[],rfl,?_⟩;rw[Qlc]; rfl
 | succ n ih =>
  intro k h1 h2;by_cases hk:k<s.length
  .have hne:s.drop k≠[]:=by rw[Qcb hk]; exact List.cons_ne_nil _ _
   obtain⟨z1,z2⟩:=Q68 _ hne;rw[List.length_drop] at z2;have ew:wr ((k:Int)+((Qle (s.drop k)).2:Int))=((k+(Qle (s.drop k)).2:Nat):Int):=by rw[Qhc (by omega) (by omega)]; rfl
   obtain⟨out,o1,o2⟩:=ih (k+(Qle (s.drop k)).2) (by omega) (by omega);rw[Qe1,ltI,decide_eq_true hk,Qau3 s k hk (by omega)];simp only[if_true,Qad];rw[ew,o1];refine⟨_,rfl,?_⟩;rw[Qlc];simp only;rw[badI (Qle (s.drop k)),o2,Qadr n _ hne,List.drop_drop];by_cases hb:(Qle (s.drop k)).1=65533/\(Qle (s.drop k)).2=1
   .rw[decide_eq_true hb,if_pos hb]; rfl
   .rw[decide_eq_false hb,if_neg hb]; rfl
  .rw[Qe1,ltI,decide_eq_false hk,List.drop_eq_nil_of_le (by omega)];refine⟨[],rfl,?_⟩;rw[Qlc]; rfl
theorem rUtf(s:List UInt8)(hs:s.length<9000000000000):Qada s=some (utfF s.length s):=by
 have:=rIsU s hs s.length 0 (by omega) (by omega);rw[Qada,show(0:Int)=((0:Nat):Int) from rfl,this,List.drop_zero];cases utfF s.length s<;>rfl
theorem tUtf(s:List UInt8)(hs:s.length<9000000000000):Qadm s=some (utfF s.length s):=by
 obtain⟨out,o1,o2⟩:=tIsU s s hs s.length 0 (by omega) (by omega);rw[List.drop_zero] at o2;rw[Qadm,Q9y];simp only[Qad];rw[Qxn,show(0:Int)=((0:Nat):Int) from rfl,o1];simp only[Qad,List.append_nil,o2];cases utfF s.length s<;>rfl
def qb(c:UInt8):List UInt8:=if c=10 then [92,110] else if c=9 then [92,116] else if c=34\/c=92 then [92,c] else [c]
def qs(s:List UInt8):List UInt8:=s.flatMap qb
theorem Qam2(c:UInt8):(qb c).length<=2:=by unfold qb; split; simp; split; simp; split<;>simp
theorem Qapw:∀ s:List UInt8,(qs s).length<=2*s.length
 | []=>by simp[qs]
 | c::r=>by
  have:=Qapw r;have:=Qam2 c;simp[qs] at *;omega
theorem eqC(c:UInt8)(k:Nat)(hk:k<256):((c.toNat:Int)==(k:Int))=decide (c=UInt8.ofNat k):=by
 rw[eqN];by_cases h:c.toNat=k
 .rw[beq_iff_eq.2 h,decide_eq_true];apply UInt8.toNat_inj.1;rw[h,UInt8.toNat_ofNat', Nat.mod_eq_of_lt hk]
 .rw[beq_eq_false_iff_ne.2 h,decide_eq_false];intro e; apply h; rw[e,UInt8.toNat_ofNat', Nat.mod_eq_of_lt hk]
theorem Qara(s:List UInt8)(hs:s.length<=1000000):∀ k,k<=s.length->∀ acc:List Int,acc.length<=2*k+1->Qdb s acc k=some (acc++s2b (qs (s.drop k))):=by
 refine upto ?_ λk hk ih=>?_
 .intro acc _;rw[Qdb]; simp[qs,s2b]
 .intro acc ha;have e10:=eqC s[k] 10 (by omega);have e9:=eqC s[k] 9 (by omega);have e34:=eqC s[k] 34 (by omega);have e92:=eqC s[k] 92 (by omega);rw[Qdb,Qa4 (by omega)];simp only[ltI,hk,decide_true,if_true,Qa3,getE hk,Qad];rw[show(10:Int)=((10:Nat):Int) from rfl,show(9:Int)=((9:Nat):Int) from rfl,show(34:Int)=((34:Nat):Int) from rfl,show(92:Int)=((92:Nat):Int) from rfl,e10,e9,e34,e92];have eq:qs (s.drop k)=qb s[k]++qs (s.drop (k+1)):=by rw[Qcb hk]; rfl
  have step:∀ w:List UInt8,qb s[k]=w->(appL 1 acc (s2b w)>>=λx=>Qdb s x ((k+1:Nat):Int))=some (acc++s2b (qs (s.drop k))):=λw hw=>by
   have hl:w.length<=2:=by rw[<-hw]; exact Qam2 _
   rw[Qf0 (by rw[Q23]; omega) (by rw[Q23]; omega),Qad,ih _ (by rw[List.length_append,Q23]; omega),eq,hw,Qaq0,List.append_assoc]
  by_cases h10:s[k]=10
  .rw[decide_eq_true (show s[k]=UInt8.ofNat 10 from h10)];exact step [92,110] (by unfold qb; rw[if_pos h10])
  have h10' : decide (s[k]=UInt8.ofNat 10)=false:=decide_eq_false h10;rw[h10'];by_cases h9:s[k]=9
  .rw[decide_eq_true (show s[k]=UInt8.ofNat 9 from h9)];exact step [92,116] (by unfold qb; rw[if_neg h10,if_pos h9])
  have h9' : decide (s[k]=UInt8.ofNat 9)=false:=decide_eq_false h9;rw[h9'];have e:(if decide (s[k]=UInt8.ofNat 34)=true then some (decide (s[k]=UInt8.ofNat 34)) else some (decide (s[k]=UInt8.ofNat 92)):Option Bool)=some (decide (s[k]=34\/s[k]=92)):=by
   by_cases h:s[k]=34
   .rw[decide_eq_true (show s[k]=UInt8.ofNat 34 from h),decide_eq_true (show s[k]=34\/s[k]=92 from .inl h)]; rfl
   .rw[decide_eq_false (show ¬ s[k]=UInt8.ofNat 34 from h)];by_cases h' : s[k]=92
    .rw[decide_eq_true (show s[k]=UInt8.ofNat 92 from h'),decide_eq_true (show s[k]=34\/s[k]=92 from .inr h')]; rfl
    .rw[decide_eq_false (show ¬ s[k]=UInt8.ofNat 92 from h'),decide_eq_false (show ¬ (s[k]=34\/s[k]=92) from λq=>q.elim h h')]; rfl
  simp only[Bool.false_eq_true,if_false];rw[e];simp only[Qad];by_cases h34:s[k]=34\/s[k]=92
  .rw[decide_eq_true h34];exact step [92,s[k]] (by unfold qb; rw[if_neg h10,if_neg h9,if_pos h34])
  .rw[decide_eq_false h34];exact step [s[k]] (by unfold qb; rw[if_neg h10,if_neg h9,if_neg h34])
theorem Qarb(s:List UInt8)(hs:s.length<=1000000):∀ k,k<=s.length->∀ acc:List UInt8,acc.length<=2*k+1->Qe0 s acc k=some (if(s.drop k).any (· == 13)=true then .inr () else .inl (acc++qs (s.drop k))):=by
 refine upto ?_ λk hk ih=>?_
 .intro acc _;rw[Qe0]; simp[qs]
 .intro acc ha;have ec:cutL s k (wr ((k:Int)+1))=some [s[k]]:=by
   rw[Qa4 (by omega),Qmx (by omega) (by omega) (by omega),Int.toNat_natCast,Int.toNat_natCast];congr 1;rw[List.drop_take,Qcb hk];have:k+1-k=1:=by omega
   rw[this]; rfl
  have eq:qs (s.drop k)=qb s[k]++qs (s.drop (k+1)):=by rw[Qcb hk]; rfl
  have eany:(s.drop k).any (· == 13)=(s[k]==13||(s.drop (k+1)).any (· == 13)):=by rw[Qcb hk]; rfl
  have e1:∀ b:UInt8,(([s[k]]:List UInt8)==[b])=decide (s[k]=b):=λb=>by
   rw[List.cons_beq_cons];by_cases h:s[k]=b
   .rw[decide_eq_true h,beq_iff_eq.2 h]; rfl
   .rw[decide_eq_false h,beq_eq_false_iff_ne.2 h]; rfl
  have hq:=Qam2 s[k];rw[Qe0,ec,Qa4 (by omega),eany,eq];simp only[ltI,hk,decide_true,if_true,Qad,e1];by_cases h13:s[k]=13
  .rw[decide_eq_true h13,beq_iff_eq.2 h13]; rfl
  rw[decide_eq_false h13,beq_eq_false_iff_ne.2 h13];have n1:need (([92]:List UInt8).length+[s[k]].length<=9223372036854775807)=some ():=Qsa (by simp);have step:∀ w:List UInt8,qb s[k]=w->(need (acc.length+w.length<=9223372036854775807)>>=λ_=>Qe0 s (acc++w) ((k+1:Nat):Int))=some (if(s.drop (k+1)).any (· == 13)=true then .inr () else .inl (acc++(qb s[k]++qs (s.drop (k+1))))):=λw hw=>by
   rw[Qsa (by rw[<-hw]; omega),Qad,ih _ (by rw[List.length_append,<-hw]; omega),hw,List.append_assoc]
  simp only[Bool.false_eq_true,if_false,Bool.false_or,n1,Qad];by_cases h10:s[k]=10
  .rw[decide_eq_true h10];exact step [92,110] (by unfold qb; rw[if_pos h10])
  rw[decide_eq_false h10];by_cases h9:s[k]=9
  .rw[decide_eq_true h9];exact step [92,116] (by unfold qb; rw[if_neg h10,if_pos h9])
  rw[decide_eq_false h9];by_cases h34:s[k]=34
  .rw[decide_eq_true h34];exact step ([92]++[s[k]]) (by unfold qb; rw[if_neg h10,if_neg h9,if_pos (show s[k]=34\/s[k]=92 from .inl h34)]; rfl)
  rw[decide_eq_false h34];by_cases h92:s[k]=92
  .rw[decide_eq_true h92];exact step ([92]++[s[k]]) (by unfold qb; rw[if_neg h10,if_neg h9,if_pos (show s[k]=34\/s[k]=92 from .inr h92)]; rfl)
  .rw[decide_eq_false h92];exact step [s[k]] (by unfold qb; rw[if_neg h10,if_neg h9,if_neg (show ¬ (s[k]=34\/s[k]=92) from λq=>q.elim h34 h92)])
theorem Qatf:∀ s:List UInt8,decide (Lib.indexByte s 13 >= 0)=s.any (· == 13)
 | []=>rfl
 | c::r=>by
  have ih:=Qatf r;have hg:=Lib.indexByte_ge r 13;unfold Lib.indexByte;rw[List.any_cons];cases hc:(c==13) with
  | true=>rfl
  | false =>
   simp only[Bool.false_eq_true,if_false,Bool.false_or];rw[<-ih];by_cases h1:Lib.indexByte r 13 = -1
   .rw[h1]; rfl
   .rw[if_neg (by simpa using h1),decide_eq_true (by omega),decide_eq_true (by omega)]
def quoV(s:List UInt8):List UInt8×Bool:=if utfF s.length s=true/\s.any (· == 13)=false then([34]++qs s++[34],true) else([],false)
theorem Qapx(s:List UInt8)(hs:s.length<=1000000):Qld s=some (quoV s)/\Qne s=some (quoV s)/\(quoV s).1.length<=2*s.length+2:=by
 unfold quoV;have hl:=Qapw s;have t:=Qara s hs 0 (by omega) [34] (by simp);have r:=Qarb s hs 0 (by omega) [34] (by simp);rw[List.drop_zero] at t r;have e13:decide (Lib.indexByte s (13:Int).toNat.toUInt8 >= 0)=s.any (· == 13):=Qatf s;refine⟨?_,?_,?_⟩
 .rw[Qld,tUtf s (by omega),Qhh,Qb8];simp only[Qad,e13];cases hu:utfF s.length s with
  | false=>rfl
  | true =>
   cases ha:s.any (· == 13) with
   | true=>rfl
   | false =>
    simp only[Bool.not_true,Bool.false_eq_true,if_false,Qad,if_true,and_self];rw[show(0:Int)=((0:Nat):Int) from rfl,t];simp only[Qad];rw[Qf0 (by simp[Q23]; omega) (by simp[Q23]; omega),Qad];have e:[34]++s2b (qs s)++[34]=s2b ([34]++qs s++[34]):=by simp[s2b]
    rw[e,Qaq1];rfl
 .rw[Qne,rUtf s (by omega)];cases hu:utfF s.length s with
  | false=>rfl
  | true =>
   simp only[Qad,Bool.not_true,Bool.false_eq_true,if_false];rw[show(0:Int)=((0:Nat):Int) from rfl,r];cases ha:s.any (· == 13) with
   | true=>rfl
   | false =>
    simp only[Bool.false_eq_true,if_false,Qad,and_self,if_true];rw[Qsa (by simp; omega)];rfl
 .split
  .simp; omega
  .simp
theorem Qam3(s:List UInt8)(hs:s.length<=1000000):∃ q,Qld s=some q/\Qne s=some q/\q.1.length<=2*s.length+2:=⟨_,Qapx s hs⟩
def rngN(x:Qab):Prop := -9223372036854775808<=x.N/\x.N<=9223372036854775807
def Qam4(g:List Qab->Nat->List Qab×Nat):Prop:=∀ (l:List Qab) (n:Nat),allL rngN l->allL rngN (g l n).1
theorem Qajy{g:List Qab->Nat->List Qab×Nat}(hg:Qam4 g):Qam4 (Qn6 g):=λl=>by
 induction l with
 | nil=>intro n _; simp[Qn6,allL]
 | cons x r ih =>
  intro n h;rw[allL,Qox] at h;obtain⟨⟨hq,h1,h2,h3⟩,h4⟩:=h;unfold Qn6;split
  .simp[allL]
  .rw[allL,Qox];exact⟨⟨hq,hg _ _ h1,hg _ _ h2,hg _ _ h3⟩,ih _ h4⟩
theorem Q69:∀ d,Qam4 (Qht d)
 | 0=>λl n _=>by simp[Qht,allL]
 | d+1=>Qajy (Q69 d)
theorem Q7a(x:Qab)(h1:x.Name.length<=40)(h2:x.Text.length<=60)(h3:rngN x):okNd x:=by
 refine⟨by omega,by omega,h3,λ_=>?_⟩;obtain⟨q,q1,q2,-⟩:=Qam3 x.Text (by omega);exact⟨q,q1,q2⟩
abbrev Nm:=List UInt8
def up(l:List Nm):Prop:=l.Pairwise (· < ·)
theorem bl:∀ x y:Nm,Op.bytesLess x y=decide (x<y)
 | [],[]=>by simp[Op.bytesLess]
 | _::_,[]=>by simp[Op.bytesLess]
 | [],_::_=>by simp[Op.bytesLess]
 | a::x,b::y=>by
  rw[Op.bytesLess,bl x y];simp only[List.cons_lt_cons_iff];by_cases h1:a<b<;>by_cases h2:a=b<;>by_cases h3:x<y<;>simp[h1,h2,h3]
theorem nlt{a b:Nm}(h:a<b):¬ b<a:=λk=>List.lt_irrefl a (List.lt_trans h k)
theorem Qam5{a b:Nm}(h:¬ a<b)(k:¬ b<a):a=b:=List.le_antisymm k h
theorem Qk3{l:List Nm}(h:up l):l.Nodup:=List.Pairwise.imp (λ{a b} (h:a<b) (e:a=b)=>List.lt_irrefl a (by rw[<-e] at h; exact h)) h
theorem Qzt{a b:List Nm}(ha:up a)(hb:up b)(h:∀ x,x ∈ a↔x ∈ b):a=b :=
 List.Perm.eq_of_pairwise (λ_ _ _ _ h1 h2=>absurd h2 (nlt h1)) ha hb ((List.perm_ext_iff_of_nodup (Qk3 ha) (Qk3 hb)).2 h)
def insS(s:Nm):List Nm->List Nm
 | []=>[s]
 | x::r=>if s=x then x::r else if Op.bytesLess s x then s::x::r else x::insS s r
theorem Qn7(s:Nm):∀ (l:List Nm) (x:Nm),x ∈ insS s l↔x=s\/x ∈ l
 | [],x=>by simp[insS]
 | y::r,x=>by
  unfold insS;split
  .rename_i h; subst h; simp
  .split
   .simp
   .simp only[List.mem_cons,Qn7 s r];constructor
    .rintro (h | h | h)
     .exact .inr (.inl h)
     .exact .inl h
     .exact .inr (.inr h)
    .rintro (h | h | h)
     .exact .inr (.inl h)
     .exact .inl h
     .exact .inr (.inr h)
theorem Qyy(s:Nm):∀ {l:List Nm},up l->up (insS s l)
 | [],_=>by simp[insS,up]
 | y::r,h=>by
  obtain⟨h1,h2⟩:=List.pairwise_cons.1 h;unfold insS;split
  .exact h
  .rename_i hne;split
   .rename_i hl;rw[bl] at hl;have hl:=of_decide_eq_true hl;exact List.pairwise_cons.2 ⟨λz hz=>by
     rcases List.mem_cons.1 hz with rfl | hz
     .exact hl
     .exact List.lt_trans hl (h1 z hz),h⟩
   .rename_i hl;rw[bl] at hl;have hl:¬ s<y:=by simpa using hl
    refine List.pairwise_cons.2 ⟨λz hz=>?_,Qyy s h2⟩;rcases (Qn7 s r z).1 hz with rfl | hz
    .exact Classical.byContradiction λk=>hne (Qam5 hl k)
    .exact h1 z hz
def upL(l:List Nm):List Nm:=l.foldr insS []
theorem Qgt:∀ {l:List Nm} {x:Nm},x ∈ upL l↔x ∈ l
 | [],x=>Iff.rfl
 | y::r,x=>by
  show x ∈ insS y (upL r)↔_;rw[Qn7,Qgt (l:=r),List.mem_cons]
theorem Qji:∀ l:List Nm,up (upL l)
 | []=>List.Pairwise.nil
 | y::r=>Qyy y (Qji r)
theorem Qads{l:List Nm}(h:up l):upL l=l:=Qzt (Qji l) h λ_=>Qgt
theorem Qaih{a b:List Nm}(h:∀ x,x ∈ a↔x ∈ b):upL a=upL b:=Qzt (Qji a) (Qji b) λx=>by rw[Qgt,Qgt]; exact h x
theorem Qam6(l:List Nm):(upL l).length<=l.length:=by
 refine List.Nodup.length_le_of_subset (Qk3 (Qji l)) λx hx=>Qgt.1 hx
theorem Qapy{l:List Nm}:(l.mergeSort λx y=>decide (x<=y)).Pairwise (· <= ·):=by
 have:=List.pairwise_mergeSort (le:=λx y:Nm=>decide (x<=y)) (λa b c h1 h2=>by
  simp only[decide_eq_true_eq] at *;exact List.le_trans h1 h2) (λa b=>by
  simp only[Bool.or_eq_true,decide_eq_true_eq];exact List.le_total a b) l
 exact this.imp λh=>of_decide_eq_true h
theorem Qarc{a b:Nm}(h:a<=b)(hne:a≠b):a<b:=Classical.byContradiction λk=>hne (Qam5 k h)
theorem Qam7{l:List Nm}(h:l.Nodup):(l.mergeSort λx y=>decide (x<=y))=upL l:=by
 have hn:=(List.mergeSort_perm l (λx y:Nm=>decide (x<=y))).nodup_iff.2 h;refine Qzt (List.Pairwise.imp₂ (λ{a b} h1 h2=>Qarc h1 h2) Qapy hn) (Qji l) λx=>by rw[List.mem_mergeSort,Qgt]
theorem Q28(zs:List Nm)(hz:zs.Pairwise (· <= ·)):∀ m,m<=zs.length->up (Lib.compactUpTo zs.toArray m)/\∀ x,x ∈ Lib.compactUpTo zs.toArray m↔x ∈ zs.take m
 | 0,_=>by simp[Lib.compactUpTo,up]
 | m+1,hm=>by
  obtain⟨h1,h2⟩:=Q28 zs hz m (by omega);have e:zs.toArray[m]! = zs[m]:=by simp[show m<zs.length by omega]
  rw[Lib.compactUpTo_succ,e,List.take_succ_eq_append_getElem (by omega)];by_cases hk:Lib.keeps zs.toArray m=true
  .rw[if_pos hk];refine⟨List.pairwise_append.2 ⟨h1,by simp,λa ha b hb=>?_⟩,λx=>by simp only[List.mem_append,h2]⟩;simp only[List.mem_singleton] at hb;subst hb;have ha:=(h2 a).1 ha;obtain⟨j,hj,rfl⟩:=List.mem_iff_getElem.1 ha;have hj2:j<m:=by simp at hj; omega
   rw[List.getElem_take];have hkk:m=0\/zs.toArray[m]! ≠ zs.toArray[m-1]! := by simpa [Lib.keeps] using hk
   have hne:zs[m]≠zs[m-1]:=by
    rcases hkk with h | h
    .omega
    .have e2:zs.toArray[m-1]! = zs[m-1]:=by simp[show m-1<zs.length by omega]
     rwa [e,e2] at h
   have hle:zs[m-1]<=zs[m]:=List.pairwise_iff_getElem.1 hz (m-1) m (by omega) (by omega) (by omega);have hlt:=Qarc hle (Ne.symm hne);by_cases hjm:j=m-1
   .subst hjm; exact hlt
   .have hle2:zs[j]<=zs[m-1]:=List.pairwise_iff_getElem.1 hz j (m-1) (by omega) (by omega) (by omega);by_cases he:zs[j]=zs[m-1]
    .rw[he]; exact hlt
    .exact List.lt_trans (Qarc hle2 he) hlt
  .rw[if_neg hk,List.append_nil];refine⟨h1,λx=>?_⟩;rw[h2,List.mem_append];refine⟨.inl,λh=>h.elim id λh=>?_⟩;simp only[List.mem_singleton] at h;subst h;have hkk:¬ (m=0\/zs.toArray[m]! ≠ zs.toArray[m-1]!):=by simpa [Lib.keeps] using hk
   have h0:m≠0:=λh=>hkk (.inl h)
   have e2:zs.toArray[m-1]! = zs[m-1]:=by simp[show m-1<zs.length by omega]
   have hq:zs[m]=zs[m-1]:=by
    refine Classical.byContradiction λk=>hkk (.inr ?_)
    rwa [e,e2]
   rw[hq];exact List.mem_iff_getElem.2 ⟨m-1,by simp; omega,by rw[List.getElem_take]⟩
theorem Qajz(l:List Nm):Lib.compact (l.mergeSort λx y=>decide (x<=y))=upL l:=by
 obtain⟨h1,h2⟩:=Q28 _ (Qapy (l:=l)) _ (Nat.le_refl _);exact Qzt h1 (Qji l) λx=>by
  show x ∈ Lib.compactUpTo _ _↔_;rw[h2,List.take_length,List.mem_mergeSort,Qgt]
mutual
def usN:Qab->List Nm
 | ⟨k,nm,_,_,_,t,e⟩=>(if k==13 then [nm] else [])++(usL t++usL e)
def usL:List Qab->List Nm
 | []=>[]
 | x::r=>usN x++usL r
end
theorem Qgu(x:Qab):usN x=(if x.Kind==13 then [x.Name] else [])++(usL x.Then++usL x.Else):=by cases x; rw[usN]
theorem Q95:∀ n (l:List Qab),nns l<=n->(usL l).length<=nns l:=by
 intro n
 induction n with
 | zero=>intro l h; cases l with
  | nil=>simp[usL,nns]
  | cons x r=>rw[nns] at h; have:=Qjh x; omega
 | succ n ih =>
  intro l
  induction l with
  | nil=>intro _; simp[usL,nns]
  | cons x r ihr =>
   intro h;rw[nns] at h;have h1:=Qie x;have h2:=ih x.Then (by omega);have h3:=ih x.Else (by omega);have h4:=ihr (by omega);rw[usL,Qgu,nns,List.length_append,List.length_append,List.length_append];split<;>simp<;>omega
def Qpr(l:List Qab):List Nm:=upL (usL l)
theorem Q29{n:Nat}{l:List Qab}(h:nns l<=n):(Qpr l).length<=n:=Nat.le_trans (Qam6 _) (Nat.le_trans (Q95 n l h) h)
def fndT(l:List Qae)(s:Nm):Option Qae:=l.find? (·.Name==s)
abbrev nms(l:List Qae):List Nm:=l.map (·.Name)
def suc(l:List Qae)(s:Nm):List Nm:=match fndT l s with | none=>[] | some x=>Qpr x.L
theorem Qzu(l:List Qae)(s:Nm):up (suc l s):=by
 unfold suc;split
 .exact List.Pairwise.nil
 .exact Qji _
theorem Q3a{l:List Qae}{s:Nm}:(fndT l s).isSome=true↔s ∈ nms l:=by
 unfold fndT;rw[List.find?_isSome];simp only[beq_iff_eq,List.mem_map]
theorem Qao9{l:List Qae}(hn:(nms l).Nodup){x:Qae}(h:x ∈ l):fndT l x.Name=some x:=by
 unfold fndT
 induction l with
 | nil=>cases h
 | cons y r ih =>
  rw[show nms (y::r)=y.Name::nms r from rfl,List.nodup_cons] at hn;rw[List.find?_cons];rcases List.mem_cons.1 h with rfl | h
  .simp
  .have hne:¬ y.Name=x.Name:=λe=>hn.1 (by rw[e]; exact List.mem_map.2 ⟨x,h,rfl⟩)
   have:(y.Name==x.Name)=false:=by simpa using hne
   rw[this];exact ih hn.2 h
theorem Qard{l:List Qae}(hn:(nms l).Nodup){x:Qae}(h:x ∈ l):suc l x.Name=Qpr x.L:=by
 unfold suc; rw[Qao9 hn h]
def closed(l:List Qae):Prop:=∀ s,∀ u ∈ suc l s,u ∈ nms l
def rnd(l:List Qae)(o:List Nm):List Nm:=upL (o++o.flatMap (suc l))
def clo(l:List Qae):Nat->List Nm->List Nm
 | 0,o=>o
 | n+1,o=>clo l n (rnd l o)
theorem Qqm{l:List Qae}{o:List Nm}{x:Nm}:x ∈ rnd l o↔x ∈ o\/∃ s ∈ o,x ∈ suc l s:=by
 unfold rnd;rw[Qgt,List.mem_append,List.mem_flatMap]
theorem Qapz(l:List Qae):∀ n {o:List Nm},up o->up (clo l n o)
 | 0,_,h=>h
 | n+1,_,_=>Qapz l n (Qji _)
theorem Qam8(l:List Qae):∀ n {o:List Nm} {x:Nm},x ∈ o->x ∈ clo l n o
 | 0,_,_,h=>h
 | n+1,_,_,h=>Qam8 l n (Qqm.2 (.inl h))
theorem Qadt(l:List Qae){C:Nm->Prop}(hC:∀ s,C s->∀ u ∈ suc l s,C u):∀ n {o:List Nm},(∀ x ∈ o,C x)->∀ x ∈ clo l n o,C x
 | 0,_,h=>h
 | n+1,o,h=>Qadt l hC n λx hx=>by
  rcases Qqm.1 hx with hx | ⟨s,hs,hx⟩
  .exact h x hx
  .exact hC s (h s hs) x hx
theorem Qam9{l:List Qae}:∀ n {o:List Nm},rnd l o=o->clo l n o=o
 | 0,_,_=>rfl
 | n+1,o,h=>by rw[clo,h,Qam9 n h]
theorem Qap0{a b:List Nm}(ha:a.Nodup)(h:∀ x ∈ a,x ∈ b)(hl:b.length<=a.length):∀ x ∈ b,x ∈ a:=λx hx=>Classical.byContradiction λk=>by
 have:=List.Nodup.length_le_of_subset (List.nodup_cons.2 ⟨k,ha⟩) (l₂ := b) λy hy=>by
  rcases List.mem_cons.1 hy with rfl | hy
  .exact hx
  .exact h y hy
 simp at this; omega
theorem Q7b{l:List Qae}(hc:closed l):∀ n {o:List Nm},up o->(∀ x ∈ o,x ∈ nms l)->(nms l).length<=n+o.length->rnd l (clo l n o)=clo l n o
 | 0,o,hu,hN,hn=>by
  have hr:∀ x ∈ rnd l o,x ∈ nms l:=λx hx=>by
   rcases Qqm.1 hx with hx | ⟨s,_,hx⟩
   .exact hN x hx
   .exact hc s x hx
  have hlen:=List.Nodup.length_le_of_subset (Qk3 (Qji (o++o.flatMap (suc l)))) (l₂ := nms l) λx hx=>hr x hx
  exact Qzt (Qji _) hu λx=>⟨Qap0 (Qk3 hu) (λx hx=>Qqm.2 (.inl hx)) (Nat.le_trans hlen (by omega)) x,λhx=>Qqm.2 (.inl hx)⟩
 | n+1,o,hu,hN,hn=>by
  by_cases he:rnd l o=o
  .rw[Qam9 (n+1) he,he]
  .rw[clo];have hr:∀ x ∈ rnd l o,x ∈ nms l:=λx hx=>by
    rcases Qqm.1 hx with hx | ⟨s,_,hx⟩
    .exact hN x hx
    .exact hc s x hx
   refine Q7b hc n (Qji _) hr ?_;have:o.length<(rnd l o).length:=Nat.lt_of_not_le λhle=>he (Qzt (Qji _) hu λx=>⟨Qap0 (Qk3 hu) (λx hx=>Qqm.2 (.inl hx)) hle x,λhx=>Qqm.2 (.inl hx)⟩)
   omega
def froP(l:List Qae)(o:List Nm):List Nm:=clo l l.length o
theorem Qwn{l:List Qae}(hc:closed l){o:List Nm}(hu:up o)(hN:∀ x ∈ o,x ∈ nms l):∀ s ∈ froP l o,∀ u ∈ suc l s,u ∈ froP l o:=λs hs u hu' => by
 have:=Q7b hc l.length hu hN (by simp);rw[froP,<-this];exact Qqm.2 (.inr ⟨s,hs,hu'⟩)
theorem Qaii{l:List Qae}{o:List Nm}{x:Nm}(h:x ∈ o):x ∈ froP l o:=Qam8 l _ h
theorem Qyz{l:List Qae}{C:Nm->Prop}(hC:∀ s,C s->∀ u ∈ suc l s,C u){o:List Nm}(h:∀ x ∈ o,C x):∀ x ∈ froP l o,C x:=Qadt l hC _ h
theorem Qagf{l:List Qae}{o:List Nm}(h:up o):up (froP l o):=Qapz l _ h
theorem Qaj0{l:List Qae}(hc:closed l){o:List Nm}(h:∀ x ∈ o,x ∈ nms l):∀ x ∈ froP l o,x ∈ nms l:=Qyz (λs _ u hu=>hc s u hu) h
theorem Qaij{l:List Qae}(hc:closed l){o:List Nm}(hu:up o)(h:∀ x ∈ o,x ∈ nms l):(froP l o).length<=l.length:=by
 have:=List.Nodup.length_le_of_subset (Qk3 (Qagf (l:=l) hu)) (l₂ := nms l) λx hx=>Qaj0 hc h x hx
 simpa using this
def reaP(l:List Qae)(s:Nm):List Nm:=froP l (suc l s)
theorem Qh4{l:List Qae}(hc:closed l)(hr:∀ s ∈ nms l,s ∉ reaP l s){s u:Nm}(hu:u ∈ suc l s):(reaP l u).length<(reaP l s).length:=by
 have hu1:u ∈ reaP l s:=Qaii hu;have hsub:∀ x ∈ u::reaP l u,x ∈ reaP l s:=λx hx=>by
  rcases List.mem_cons.1 hx with rfl | hx
  .exact hu1
  .refine Qyz (C:=λx=>x ∈ reaP l s) (λt ht v hv=>Qwn hc (Qzu l s) (hc s) t ht v hv) (λx hx=>?_) x hx;exact Qwn hc (Qzu l s) (hc s) u hu1 x hx
 have:=List.Nodup.length_le_of_subset (List.nodup_cons.2 ⟨hr u (hc s u hu),Qk3 (Qagf (Qzu l u))⟩) hsub;exact this
theorem inL(l:List Nm)(s:Nm)(hl:l.length<9223372036854775807):∀ k,k<=l.length->Qnh l s k=some (if s ∈ l.drop k then .inr () else .inl ()):=by
 refine upto ?_ λk hk ih=>?_
 .rw[Qnh]; simp
 .rw[Qnh,Qcb hk];simp only[ltI,hk,decide_true,if_true,Qa3,getE hk,Qad];by_cases h:l[k]=s
  .simp[h]
  .have h2:¬ s=l[k]:=λe=>h e.symm
   simp only[beq_iff_eq,h,if_false,Qa4 (show k<9223372036854775807 by omega),ih,List.mem_cons,h2,false_or]
theorem rIn(l:List Nm)(s:Nm)(hl:l.length<9223372036854775807):Q2z l s=some (decide (s ∈ l)):=by
 have:=inL l s hl 0 (by omega);rw[Q2z,show(0:Int)=((0:Nat):Int) from rfl,this];by_cases h:s ∈ l<;>simp[h]
theorem Qau6(l:List Nm)(s:Nm)(hl:l.length<9223372036854775807):∀ k,k<=l.length->Qib l s k=some ((k+((l.drop k).takeWhile (Op.bytesLess · s)).length:Nat):Int):=by
 refine upto ?_ λk hk ih=>?_
 .rw[Qib]; simp
 .rw[Qib,Qcb hk];simp only[ltI,hk,decide_true,if_true,Qa3,getE hk,Qad];cases hb:Op.bytesLess l[k] s with
  | true =>
   simp only[if_true,Qa4 (show k<9223372036854775807 by omega),ih,List.takeWhile_cons,hb,List.length_cons];congr 2; omega
  | false=>simp only[Bool.false_eq_true,if_false,List.takeWhile_cons,hb,List.length_nil,Nat.add_zero]
theorem Qana(s:Nm):∀ l:List Nm,up l->s ∉ l->l.take (l.takeWhile (Op.bytesLess · s)).length++s::l.drop (l.takeWhile (Op.bytesLess · s)).length=insS s l
 | [],_,_=>by simp[insS]
 | x::r,h,hs=>by
  obtain⟨h1,h2⟩:=List.pairwise_cons.1 h;have hne:¬ s=x:=λe=>hs (by rw[e]; simp)
  have hr:s ∉ r:=λe=>hs (List.mem_cons_of_mem _ e)
  rw[List.takeWhile_cons,insS,if_neg hne];cases hb:Op.bytesLess x s with
  | true =>
   have hlt:=of_decide_eq_true ((bl x s).symm.trans hb);have hn:Op.bytesLess s x=false:=by rw[bl]; exact decide_eq_false (nlt hlt)
   simp only[if_true,List.length_cons,List.take_succ_cons,List.drop_succ_cons,hn,Bool.false_eq_true,if_false,List.cons_append,Qana s r h2 hr]
  | false =>
   have hlt:=of_decide_eq_false ((bl x s).symm.trans hb);have hn:Op.bytesLess s x=true:=by
    rw[bl];exact decide_eq_true (Classical.byContradiction λk=>hne (Qam5 k hlt))
   simp[hn]
theorem Qare(l:List Nm)(s:Nm)(h:up l)(hl:l.length<=1000000):Qqh l s=some (insS s l):=by
 rw[Qqh,rIn l s (by omega),Qad];by_cases hs:s ∈ l
 .rw[if_pos (by simpa using hs)];exact congrArg some (Qzt h (Qyy s h) λx=>by rw[Qn7]; exact⟨.inr,λk=>k.elim (λe=>e ▸ hs) id⟩)
 .rw[if_neg (by simpa using hs),show(0:Int)=((0:Nat):Int) from rfl,Qau6 l s (by omega) 0 (by omega),Qad];simp only[List.drop_zero,Nat.zero_add];have e:=Qana s l h hs;have hm:(l.takeWhile (Op.bytesLess · s)).length<=l.length:=(List.takeWhile_sublist _).length_le;generalize (l.takeWhile (Op.bytesLess · s)).length=m at e hm ⊢;rw[Qmx (by omega) (by omega) (by omega),Qad,Qf0 (by simp; omega) (by simp; omega),Qad,Qf0 (by simp; omega) (by simp; omega),Qad,Qmx (by omega) (by omega) (by omega),Qad,Qf0 (by simp; omega) (by simp; omega),Qad];have e2:[]++List.drop (Int.toNat ((0:Nat):Int)) (List.take (Int.toNat (m:Int)) l)++[s]++List.drop (Int.toNat (m:Int)) (List.take (Int.toNat (l.length:Int)) l)=insS s l:=by
   rw[<-e]; simp
  rw[e2,Qsa,Qad];rw[List.length_map,List.length_map,<-e];simp; omega
theorem Qaik(s:Nm)(l:List Nm):(insS s l).length<=l.length+1:=by
 induction l with
 | nil=>simp[insS]
 | cons x r ih =>
  unfold insS;split
  .simp
  .split
   .simp
   .simp; omega
theorem Qatg(p0:List Qab)(v4:Int)(x9 x:List Nm)(hx:x.length<=1000):∀ k,k<=x.length->∀ v:List Nm,up v->v.length+(x.length-k)<=100000->Qgk p0 v4 x9 x v k=some (upL (v++x.drop k)):=by
 refine upto ?_ λk hk ih=>?_
 .intro v hv _;rw[Qgk];simp[Qads hv]
 .intro v hv hb;rw[Qgk,Qcb hk];simp only[ltI,hk,decide_true,if_true,Qa3,getE hk,Qad];have:=Qaik x[k] v;rw[Qare v _ hv (by omega),Qad,Qa4 (by omega),ih _ (Qyy _ hv) (by omega)];refine congrArg some (Qaih λy=>?_);simp only[List.mem_append,Qn7,List.mem_cons];constructor
  .rintro ((h | h) | h)
   .exact .inr (.inl h)
   .exact .inl h
   .exact .inr (.inr h)
  .rintro (h | h | h)
   .exact .inl (.inr h)
   .exact .inl (.inl h)
   .exact .inr h
theorem Qath(l:List Qab)(n:Nat)(hn:n<=1000)(ih:∀ m:List Qab,nns m<=n->Qep m=some (Qpr m))(hl:nns l<=n+1) :
  ∀ k,k<=l.length->∀ v:List Nm,up v->v.length+nns (l.drop k)<=10000->Qgl l v k=some (upL (v++usL (l.drop k))):=by
 have hlen:l.length<=1001:=Nat.le_trans (Qfd l) (by omega);refine upto ?_ λk hk ih2=>?_
 .intro v hv _;rw[Qgl];simp[usL,Qads hv]
 .intro v hv hb;rw[Qcb hk,nns,Qie] at hb;rw[Qgl,Qcb hk];have hm:=Qev (List.getElem_mem hk);have e1:=Qie l[k];simp only[ltI,hk,decide_true,if_true,Qa3,getE hk,Qad];have hT:=ih l[k].Then (by omega);have hE:=ih l[k].Else (by omega);have lT:=Q29 (Nat.le_refl (nns l[k].Then));have lE:=Q29 (Nat.le_refl (nns l[k].Else));have key:∀ v' : List Nm,up v' -> v'.length<=v.length+1->(∀ x,x ∈ v' ↔ x ∈ v\/x ∈ (if l[k].Kind==13 then [l[k].Name] else [])) ->
    (Qep l[k].Then>>=λx7=>Qep l[k].Else>>=λx9=>appL 16 x7 x9>>=λx10=>(Qgk l k x9 x10 v' 0)>>=λo11=>Qgl l o11 (wr ((k:Int)+1)))=some (upL (v++usL (l[k]::l.drop (k+1)))):=λv' hv' hl' hm' => by
   rw[hT,Qad,hE,Qad,Qf0 (by omega) (by omega),Qad];have h2:=Qatg l k (Qpr l[k].Else) (Qpr l[k].Then++Qpr l[k].Else) (by rw[List.length_append]; omega) 0 (by omega) v' hv' (by rw[List.length_append]; omega);rw[show((0:Nat):Int)=0 from rfl] at h2;rw[h2,Qad,Qa4 (by omega)];have hlu:=Qam6 (v' ++ (Qpr l[k].Then++Qpr l[k].Else).drop 0);rw[List.drop_zero,List.length_append,List.length_append] at hlu;rw[List.drop_zero,ih2 _ (Qji _) (by omega)];refine congrArg some (Qaih λx=>?_);simp only[List.mem_append,Qgt,hm', usL,Qgu,Qpr];constructor
   .rintro (((h | h) | h | h) | h)
    .exact .inl h
    .exact .inr (.inl (.inl h))
    .exact .inr (.inl (.inr (.inl h)))
    .exact .inr (.inl (.inr (.inr h)))
    .exact .inr (.inr h)
   .rintro (h | (h | h | h) | h)
    .exact .inl (.inl (.inl h))
    .exact .inl (.inl (.inr h))
    .exact .inl (.inr (.inl h))
    .exact .inl (.inr (.inr h))
    .exact .inr h
  by_cases hk13:(l[k].Kind==13)=true
  .rw[if_pos hk13,Qare v _ hv (by omega),Qad,Qad];refine key _ (Qyy _ hv) (Qaik _ _) λx=>?_
   rw[if_pos hk13,Qn7,List.mem_singleton,or_comm]
  .rw[if_neg hk13,Qad];refine key _ hv (by omega) λx=>?_
   rw[if_neg hk13]; simp
theorem Qarf:∀ n (l:List Qab),n<=1000->nns l<=n->Qep l=some (Qpr l)
 | 0,l,_,h=>by
  cases l with
  | nil=>rw[Qep,Qgl]; simp[Qpr,usL,upL]
  | cons x r=>rw[nns] at h; have:=Qjh x; omega
 | n+1,l,hn,h=>by
  have:=Qath l n (by omega) (λm hm=>Qarf n m (by omega) hm) h 0 (by omega) [] List.Pairwise.nil (by simp; omega);rw[show((0:Nat):Int)=0 from rfl] at this;rw[Qep,this];simp[Qpr]
theorem Qati:∀ n (l:List Qab) (h:List Nm),n<=1000->nns l<=n->h.length<=9000->Qdj l h=some (h++usL l):=by
 have key:∀ n (l:List Qab) (h:List Nm),n<=1000->nns l<=n->h.length+nns l<=10000->Qdj l h=some (h++usL l):=by
  intro n
  induction n with
  | zero =>
   intro l h _ hl _;cases l with
   | nil=>rw[Qdj,Qdx]; simp[usL]
   | cons x r=>rw[nns] at hl; have:=Qjh x; omega
  | succ n ih =>
   intro l h hn hl hb;have hlen:l.length<=1001:=Nat.le_trans (Qfd l) (by omega);have main:∀ k,k<=l.length->∀ v:List Nm,v.length+nns (l.drop k)<=10000->Qdx l k v=some (v++usL (l.drop k)):=by
    refine upto ?_ λk hk ih2=>?_
    .intro v _;rw[Qdx];simp[usL]
    .intro v hb;rw[Qcb hk,nns,Qie] at hb;rw[Qdx,Qcb hk];have hm:=Qev (List.getElem_mem hk);have e1:=Qie l[k];simp only[ltI,hk,decide_true,if_true,Qa3,getE hk,Qad];have lT:=Q95 _ _ (Nat.le_refl (nns l[k].Then));have lE:=Q95 _ _ (Nat.le_refl (nns l[k].Else));by_cases hk13:(l[k].Kind==13)=true
     .rw[if_pos hk13,Qf0 (by simp; omega) (by simp; omega),Qad,Qad,ih _ _ (by omega) (by omega) (by simp; omega),Qad,ih _ _ (by omega) (by omega) (by simp; omega),Qad,Qa4 (by omega),ih2 _ (by simp; omega),usL,Qgu,if_pos hk13];simp
     .rw[if_neg hk13,Qad,ih _ _ (by omega) (by omega) (by omega),Qad,ih _ _ (by omega) (by omega) (by simp; omega),Qad,Qa4 (by omega),ih2 _ (by simp; omega),usL,Qgu,if_neg hk13];simp
   have:=main 0 (by omega) h (by simpa using hb);rw[show((0:Nat):Int)=0 from rfl] at this;rw[Qdj,this];simp
 exact λn l h hn hl hb=>key n l h hn hl (by omega)
theorem Qau7(l:List Qab)(h:nns l<=1000):Qpp l=some (Qpr l):=by
 have hl:=Q95 _ l (Nat.le_refl _);rw[Qpp,Qati 1000 l [] (by omega) h (by simp),Qad,List.nil_append,Qsa (by omega),Qad,Qsa (by simp only[srtL,List.length_mergeSort]; omega),Qad];exact congrArg some (Qajz _)
theorem Qatj(l:List Qae)(s:Nm)(hl:l.length<9223372036854775807):∀ k,k<=l.length->Qe9 l s k=some (match (l.drop k).find? (·.Name==s) with | none =>.inl () | some x =>.inr x.L):=by
 refine upto ?_ λk hk ih=>?_
 .rw[Qe9]; simp
 .rw[Qe9,Qcb hk];simp only[ltI,hk,decide_true,if_true,Qa3,getE hk,Qad,List.find?_cons];cases hb:(l[k].Name==s) with
  | true=>simp
  | false =>
   simp only[Bool.false_eq_true,if_false,Qa4 (show k<9223372036854775807 by omega),ih]
theorem Qatk(l:List Qae)(s:Nm)(hl:l.length<9223372036854775807):∀ k,k<=l.length->Qia l s k=some (match (l.drop k).find? (·.Name==s) with | none =>.inl () | some x =>.inr x.L):=by
 refine upto ?_ λk hk ih=>?_
 .rw[Qia]; simp
 .rw[Qia,Qcb hk];simp only[ltI,hk,decide_true,if_true,Qa3,getE hk,Qad,List.find?_cons];cases hb:(l[k].Name==s) with
  | true=>simp
  | false =>
   simp only[Bool.false_eq_true,if_false,Qa4 (show k<9223372036854775807 by omega),ih]
def Qif(l:List Qae)(s:Nm):List Qab×Bool:=match fndT l s with | none=>([],false) | some x=>(x.L,true)
theorem Qarg(l:List Qae)(s:Nm)(hl:l.length<9223372036854775807):Qkm l s=some (Qif l s):=by
 have:=Qatj l s hl 0 (by omega);rw[show((0:Nat):Int)=0 from rfl,List.drop_zero] at this;rw[Qkm,this,Qad,Qif,fndT];cases l.find? (·.Name==s)<;>rfl
theorem Qadu(l:List Qae)(s:Nm)(hl:l.length<9223372036854775807):Qh3 l s=some (Qif l s):=by
 have:=Qatk l s hl 0 (by omega);rw[show((0:Nat):Int)=0 from rfl,List.drop_zero] at this;rw[Qh3,this,Qad,Qif,fndT];cases l.find? (·.Name==s)<;>rfl
theorem Qadv(l:List Qae)(s:Nm):(Qif l s).2=(fndT l s).isSome:=by
 unfold Qif; cases fndT l s<;>rfl
theorem Qail(l:List Qae)(s:Nm):Qpr (Qif l s).1=suc l s:=by
 unfold Qif suc;cases fndT l s with
 | none=>rfl
 | some x=>rfl
theorem Qxs{α : Type}(k x:Nm)(v : α):∀ m:List (Nm × α),mget (λa b=>a==b) k (mset (λa b=>a==b) x v m)=if k=x then some v else mget (λa b=>a==b) k m
 | []=>by
  unfold mset;rw[mget];by_cases h:k=x
  .simp[h,mget]
  .simp[h,mget]
 | p::r=>by
  have ih:=Qxs k x v r;rw[mset];by_cases hx:x=p.1
  .rw[if_pos (by simpa using hx),mget,mget];by_cases h:k=x
   .simp[h]
   .rw[if_neg h];have h2:¬ k=p.1:=λe=>h (e.trans hx.symm)
    simp[h,h2]
  .rw[if_neg (by simpa using hx),mget,ih,mget];by_cases h:k=p.1
   .have h2:¬ k=x:=λe=>hx (e.symm.trans h)
    rw[if_pos (by simpa using h),if_neg h2,if_pos (by simpa using h)]
   .simp[h]
def drwP:List Qae->List (Nm×List Nm)->List (Nm×List Nm)
 | [],m=>m
 | x::r,m=>drwP r (if(mget (λa b=>a==b) x.Name m).isSome then m else mset (λa b=>a==b) x.Name (Qpr x.L) m)
theorem Qanb(s:Nm):∀ (l:List Qae) (m:List (Nm×List Nm)),mget (λa b=>a==b) s (drwP l m)=(mget (λa b=>a==b) s m).or ((fndT l s).map λx=>Qpr x.L)
 | [],m=>by
  show mget _ s m=_;cases mget (λa b=>a==b) s m<;>rfl
 | x::r,m=>by
  rw[drwP,Qanb s r];unfold fndT;rw[List.find?_cons];by_cases hx:x.Name=s
  .have hb:(x.Name==s)=true:=by simpa using hx
   rw[hb];subst hx;cases hm:mget (λa b=>a==b) x.Name m with
   | some y=>simp[hm]
   | none=>simp[Qxs]
  .have hb:(x.Name==s)=false:=by simpa using hx
   rw[hb];split
   .rfl
   .rw[Qxs,if_neg (λe=>hx e.symm)]
def grP(l:List Qae):List (Nm×List Nm):=drwP l []
theorem Qap1(l:List Qae)(s:Nm):mget (λa b=>a==b) s (grP l)=(fndT l s).map λx=>Qpr x.L:=by
 rw[grP,Qanb]; rfl
theorem Qaim(l:List Qae)(s:Nm):(mget (λa b=>a==b) s (grP l)).getD []=suc l s:=by
 rw[Qap1,suc]; cases fndT l s<;>rfl
theorem Qarh(l:List Qae)(s:Nm):(mget (λa b=>a==b) s (grP l)).isSome=(fndT l s).isSome:=by
 rw[Qap1]; cases fndT l s<;>rfl
structure okTs (l:List Qae):Prop where
 len:l.length<=100
 nn:∀ x ∈ l,nns x.L<=100
 ok:∀ x ∈ l,allL okNd x.L
 nm:∀ x ∈ l,x.Name.length<=100
theorem Qatl(l:List Qae)(ho:okTs l):∀ k,k<=l.length->∀ m,Qdk l k m=some (drwP (l.drop k) m):=by
 have:=ho.len;refine upto ?_ λk hk ih=>?_
 .intro m; rw[Qdk]; simp[drwP]
 .intro m;rw[Qdk,Qcb hk,drwP];simp only[ltI,hk,decide_true,if_true,Qa3,getE hk,Qad];have hu:=Qau7 l[k].L (Nat.le_trans (ho.nn _ (List.getElem_mem hk)) (by omega));cases hb:(mget (λa b=>a==b) l[k].Name m).isSome with
  | true=>simp only[Bool.not_true,Bool.false_eq_true,if_false,if_true,Qa4 (show k<9223372036854775807 by omega),ih]
  | false=>simp only[Bool.not_false,if_true,Bool.false_eq_true,if_false,hu,Qad,Qa4 (show k<9223372036854775807 by omega),ih]
theorem Qatm(l:List Qae)(ho:okTs l):Qni l=some (grP l):=by
 have:=Qatl l ho 0 (by omega) [];rw[show((0:Nat):Int)=0 from rfl,List.drop_zero] at this;rw[Qni,this]; rfl
theorem Qari(l:List Nm)(s:Nm)(hl:l.length<9223372036854775807):∀ k,k<=l.length->∃ r,Qa9 l s k=some r/\((∃ j:Nat,r = .inr (j:Int))/\s ∈ l.drop k\/r = .inl ()/\s ∉ l.drop k):=by
 refine upto ?_ λk hk ih=>?_
 .refine⟨.inl (),?_,.inr ⟨rfl,by simp⟩⟩;rw[Qa9]; simp
 .rw[Qa9,Qcb hk];simp only[ltI,hk,decide_true,if_true,Qa3,getE hk,Qad];by_cases h:s=l[k]
  .exact⟨.inr (k:Int),by simp[h],.inl ⟨⟨k,rfl⟩,by rw[h]; exact List.mem_cons_self⟩⟩
  .obtain⟨r,h1,h2⟩:=ih;refine⟨r,?_,?_⟩
   .simp only[beq_iff_eq,h,if_false,Qa4 (show k<9223372036854775807 by omega),h1]
   .simpa only[List.mem_cons,h,false_or] using h2
theorem Qadw(l:List Nm)(s:Nm)(hl:l.length<9223372036854775807):Qbh l s=some (decide (s ∈ l)):=by
 obtain⟨r,h1,h2⟩:=Qari l s hl 0 (by omega);rw[show((0:Nat):Int)=0 from rfl] at h1;rw[List.drop_zero] at h2;rw[Qbh,Qcy,h1,Qad];rcases h2 with ⟨⟨j,rfl⟩,h3⟩ | ⟨rfl,h3⟩
 .have:decide ((j:Int) >= 0)=true:=decide_eq_true (by omega);simp only[Qad,this,h3,decide_true]
 .simp only[Qad,h3,decide_false];rfl
def Met(o:List Nm)(m:List (Nm×Int)):Prop:=∀ s,((mget (λa b=>a==b) s m).getD 0==0) = !decide (s ∈ o)
theorem Met.set{o:List Nm}{m:List (Nm×Int)}(h:Met o m)(x:Nm):Met (o++[x]) (mset (λa b=>a==b) x 1 m):=λs=>by
 rw[Qxs];by_cases hs:s=x
 .simp[hs]
 .rw[if_neg hs,h s];simp[hs]
theorem Qatn(g:List (Nm×List Nm))(x:List Nm)(hx:x.length<9223372036854775807):∀ k,k<=x.length->∀ m,Met (x.take k) m->∃ m', Qcj g x k m=some m' /\ Met x m' := by
 refine upto ?_ λk hk ih=>?_
 .intro m hm;rw[List.take_length] at hm;exact⟨m,by rw[Qcj]; simp,hm⟩
 .intro m hm;obtain⟨m', h1,h2⟩:=ih _ (by rw[List.take_succ_eq_append_getElem hk]; exact hm.set x[k]);refine⟨m', ?_,h2⟩;rw[Qcj];simp only[ltI,hk,decide_true,if_true,Qa3,getE hk,Qad,Qa4 (show k<9223372036854775807 by omega),h1]
theorem Qato(g:List (Nm×List Nm))(v9:Int)(x5:Nm)(ys:List Nm)(hy:(mget (λa b=>a==b) x5 g).getD []=ys)(hl:ys.length<=1000):∀ k,k<=ys.length->∀ (out:List Nm) (m:List (Nm×Int)),Met out m->out.Nodup->out.length+(ys.length-k)<=1000000 ->
  ∃ ext m', Qbx g v9 x5 out k m=some (out++ext,m')/\Met (out++ext) m' /\ (out++ext).Nodup/\(∀ x ∈ ext,x ∈ ys)/\∀ y ∈ ys.drop k,y ∈ out++ext:=by
 refine upto ?_ λk hk ih=>?_
 .intro out m hm hn _;refine⟨[],m,?_,by rwa [List.append_nil],by rwa [List.append_nil],λx hx=>(nomatch hx),by simp⟩;rw[Qbx,hy]; simp
 .intro out m hm hn hb;rw[Qbx,hy];simp only[ltI,hk,decide_true,if_true,Qa3,getE hk,Qad,hm ys[k]];by_cases hin:ys[k] ∈ out
  .obtain⟨ext,m', h1,h2,h3,h4,h5⟩:=ih out m hm hn (by omega);refine⟨ext,m', ?_,h2,h3,h4,λy hy' => ?_⟩
   .simp only[hin,decide_true,Bool.not_true,Bool.false_eq_true,if_false,Qa4 (show k<9223372036854775807 by omega),h1]
   .rw[Qcb hk] at hy';rcases List.mem_cons.1 hy' with rfl | hy'
    .exact List.mem_append_left _ hin
    .exact h5 y hy'
  .obtain⟨ext,m', h1,h2,h3,h4,h5⟩:=ih (out++[ys[k]]) _ (hm.set ys[k]) (List.nodup_append.2 ⟨hn,by simp,λa ha b hb' => by
    rw[List.mem_singleton.1 hb']; intro e; exact hin (e ▸ ha)⟩) (by simp; omega)
   refine⟨ys[k]::ext,m', ?_,?_,?_,λx hx=>?_,λy hy' => ?_⟩
   .simp only[hin,decide_false,Bool.not_false,if_true];rw[Qf0 (by simp; omega) (by simp; omega),Qad,Qa4 (by omega),h1];simp
   .simpa using h2
   .simpa using h3
   .rcases List.mem_cons.1 hx with rfl | hx
    .exact List.getElem_mem hk
    .exact h4 x hx
   .rw[Qcb hk] at hy';rcases List.mem_cons.1 hy' with rfl | hy'
    .simp
    .simpa using h5 y hy'
theorem Q96{l:List Qae}(ho:okTs l)(s:Nm):(suc l s).length<=100:=by
 unfold suc;split
 .simp
 .rename_i x hx;exact Q29 (ho.nn x (List.mem_of_find?_eq_some hx))
theorem Qatp{l:List Qae}(ho:okTs l)(hc:closed l):∀ n i (out:List Nm) (m:List (Nm×Int)),l.length<=n+i->i<=out.length->out.Nodup->(∀ x ∈ out,x ∈ nms l)->Met out m->(∀ k,(hk:k<i)->(hk2:k<out.length)->∀ u ∈ suc l out[k],u ∈ out) ->
  ∃ out' m', Qby (grP l) out i m=some (out', m')/\out'.Nodup/\(∀ x ∈ out,x ∈ out')/\(∀ s ∈ out', ∀ u ∈ suc l s,u ∈ out')/\(∀ x ∈ out', x ∈ nms l)/\∀ C:Nm->Prop,(∀ s,C s->∀ u ∈ suc l s,C u)->(∀ x ∈ out,C x)->∀ x ∈ out', C x:=by
 intro n;have hlen:=ho.len;have fin:∀ i (out:List Nm) (m:List (Nm×Int)),¬ i<out.length->out.Nodup->(∀ x ∈ out,x ∈ nms l)->(∀ k,(hk:k<i)->(hk2:k<out.length)->∀ u ∈ suc l out[k],u ∈ out) ->
   ∃ out' m', Qby (grP l) out i m=some (out', m')/\out'.Nodup/\(∀ x ∈ out,x ∈ out')/\(∀ s ∈ out', ∀ u ∈ suc l s,u ∈ out')/\(∀ x ∈ out', x ∈ nms l)/\∀ C:Nm->Prop,(∀ s,C s->∀ u ∈ suc l s,C u)->(∀ x ∈ out,C x)->∀ x ∈ out', C x:=λi out m hi hn hN hs=>by
  refine⟨out,m,?_,hn,λ_ h=>h,λs hs' u hu=>?_,hN,λC _ h=>h⟩
  .rw[Qby];simp only[ltI,hi,decide_false,Bool.false_eq_true,if_false]
  .obtain⟨k,hk,rfl⟩:=List.mem_iff_getElem.1 hs';exact hs k (by omega) hk u hu
 induction n with
 | zero =>
  intro i out m hi hio hn hN hm hs;have hle:=List.Nodup.length_le_of_subset hn (l₂ := nms l) λx hx=>hN x hx
  rw[List.length_map] at hle;exact fin i out m (by omega) hn hN hs
 | succ n ih =>
  intro i out m hi hio hn hN hm hs;by_cases hlt:i<out.length
  .have hle:=List.Nodup.length_le_of_subset hn (l₂ := nms l) λx hx=>hN x hx
   rw[List.length_map] at hle;have hsl:=Q96 ho out[i];obtain⟨ext,m1,h1,h2,h3,h4,h5⟩:=Qato (grP l) i out[i] _ (Qaim l out[i]) (by omega) 0 (by omega) out m hm hn (by omega);rw[List.drop_zero] at h5;obtain⟨out', m', g1,g2,g3,g4,g5,g6⟩:=ih (i+1) (out++ext) m1 (by omega) (by simp; omega) h3 (λx hx=>by
    rcases List.mem_append.1 hx with hx | hx
    .exact hN x hx
    .exact hc out[i] x (h4 x hx)) h2 (λk hk hk2 u hu=>by
    have hkl:k<out.length:=by omega
    rw[List.getElem_append_left hkl] at hu;by_cases hki:k=i
    .subst hki; exact h5 u hu
    .exact List.mem_append_left _ (hs k (by omega) hkl u hu))
   refine⟨out', m', ?_,g2,λx hx=>g3 x (List.mem_append_left _ hx),g4,g5,λC hC h=>g6 C hC λx hx=>?_⟩
   .rw[show((0:Nat):Int)=0 from rfl] at h1;rw[Qby];simp only[ltI,hlt,decide_true,if_true,Qa3,getE hlt,Qad,h1,Qa4 (show i<9223372036854775807 by omega),g1]
   .rcases List.mem_append.1 hx with hx | hx
    .exact h x hx
    .exact hC out[i] (h _ (List.getElem_mem hlt)) x (h4 x hx)
  .exact fin i out m hlt hn hN hs
theorem Qatq{l:List Qae}(ho:okTs l)(hc:closed l){o:List Nm}(hn:o.Nodup)(hN:∀ x ∈ o,x ∈ nms l):Qfu o (grP l)=some (froP l (upL o)):=by
 have hlen:=ho.len;have hle:=List.Nodup.length_le_of_subset hn (l₂ := nms l) λx hx=>hN x hx
 rw[List.length_map] at hle;obtain⟨m1,h1,h2⟩:=Qatn (grP l) o (by omega) 0 (by omega) [] (λs=>by simp[mget]);obtain⟨out,m2,g1,g2,g3,g4,g5,g6⟩:=Qatp ho hc l.length 0 o m1 (by omega) (by omega) hn hN h2 (λk hk=>by omega);have hol:=List.Nodup.length_le_of_subset g2 (l₂ := nms l) λx hx=>g5 x hx
 rw[List.length_map] at hol;rw[show((0:Nat):Int)=0 from rfl] at h1 g1;rw[Qfu,Qcx,Qf0 (by simp; omega) (by simp; omega),Qad,List.nil_append,h1,Qad,g1,Qad,Qsa (by show out.length<_; omega),Qad];refine congrArg some ?_;show(out.mergeSort λx y=>decide (x<=y))=_;rw[Qam7 g2];have hN2:∀ x ∈ upL o,x ∈ nms l:=λx hx=>hN x (Qgt.1 hx)
 refine Qzt (Qji _) (Qagf (Qji _)) λx=>?_
 rw[Qgt];exact⟨g6 (λx=>x ∈ froP l (upL o)) (λs hs u hu=>Qwn hc (Qji o) hN2 s hs u hu) (λx hx=>Qaii (Qgt.2 hx)) x,
  Qyz (C:=λx=>x ∈ out) (λs hs u hu=>g4 s hs u hu) (λx hx=>g3 x (Qgt.1 hx)) x⟩
theorem Qap2{l:List Qae}(ho:okTs l){v:List Nm}(hu:up v)(hN:∀ x ∈ v,x ∈ nms l):v.length<=100:=by
 have hle:=List.Nodup.length_le_of_subset (Qk3 hu) (l₂ := nms l) λx hx=>hN x hx
 rw[List.length_map] at hle;exact Nat.le_trans hle ho.len
theorem Qau8(l:List Qae)(ho:okTs l)(v7:List Nm)(v8 v10:Int)(x7:List Nm)(hx:x7.length<=1000)(hx2:∀ x ∈ x7,x ∈ nms l):∀ k,k<=x7.length->∀ v:List Nm,up v->(∀ x ∈ v,x ∈ nms l)->Qgn l v7 v8 v10 x7 v k=some (upL (v++x7.drop k)):=by
 refine upto ?_ λk hk ih=>?_
 .intro v hv _;rw[Qgn];simp[Qads hv]
 .intro v hv hN;have hl:=Qap2 ho hv hN;rw[Qgn,Qcb hk];simp only[ltI,hk,decide_true,if_true,Qa3,getE hk,Qad];rw[Qare v _ hv (by omega),Qad,Qa4 (by omega),ih _ (Qyy _ hv) (λx hx' => by
   rcases (Qn7 _ _ _).1 hx' with rfl | hx'
   .exact hx2 _ (List.getElem_mem hk)
   .exact hN x hx')]
  refine congrArg some (Qaih λy=>?_);simp only[List.mem_append,Qn7,List.mem_cons];constructor
  .rintro ((h | h) | h)
   .exact .inr (.inl h)
   .exact .inl h
   .exact .inr (.inr h)
  .rintro (h | h | h)
   .exact .inl (.inr h)
   .exact .inl (.inl h)
   .exact .inr h
theorem Qadx{l:List Qae}(ho:okTs l)(s:Nm):Qep (Qif l s).1=some (suc l s):=by
 rw[<-Qail];refine Qarf 1000 _ (Nat.le_refl _) ?_;unfold Qif;cases hf:fndT l s with
 | none=>simp[nns]
 | some x=>exact Nat.le_trans (ho.nn x (List.mem_of_find?_eq_some hf)) (by omega)
theorem Qau9(l:List Qae)(ho:okTs l)(hc:closed l)(v7:List Nm)(hv7:v7.length<=1000)(v8:Int):∀ k,k<=v7.length->∀ v:List Nm,up v->(∀ x ∈ v,x ∈ nms l)->Qgo l v7 v8 v k=some (upL (v++(v7.drop k).flatMap (suc l))):=by
 have hlen:=ho.len;refine upto ?_ λk hk ih=>?_
 .intro v hv _;rw[Qgo];simp[Qads hv]
 .intro v hv hN;rw[Qgo,Qcb hk];simp only[ltI,hk,decide_true,if_true,Qa3,getE hk,Qad,Qadu l _ (by omega:l.length<9223372036854775807),Qadx ho];have h3:=Qau8 l ho v7 v8 k (suc l v7[k]) (Nat.le_trans (Q96 ho _) (by omega)) (hc v7[k]) 0 (by omega) v hv hN;rw[show((0:Nat):Int)=0 from rfl,List.drop_zero] at h3;rw[h3,Qad,Qa4 (by omega),ih _ (Qji _) (λx hx=>by
   rw[Qgt,List.mem_append] at hx;exact hx.elim (hN x) (hc _ x))]
  refine congrArg some (Qaih λy=>?_);simp only[List.mem_append,Qgt,List.flatMap_cons,or_assoc]
theorem Qava(l:List Qae)(ho:okTs l)(hc:closed l):∀ k,k<=l.length->∀ v:List Nm,up v->(∀ x ∈ v,x ∈ nms l)->Qgp l v k=some (clo l (l.length-k) v):=by
 have hlen:=ho.len;refine upto ?_ λk hk ih=>?_
 .intro v _ _;rw[Qgp];simp[clo]
 .intro v hv hN;have hl:=Qap2 ho hv hN;rw[Qgp];simp only[ltI,hk,decide_true,if_true];have h2:=Qau9 l ho hc v (by omega) k 0 (by omega) v hv hN;rw[show((0:Nat):Int)=0 from rfl,List.drop_zero] at h2;rw[h2,Qad,Qa4 (by omega),ih _ (Qji _) (λx hx=>by
   rw[Qgt,List.mem_append,List.mem_flatMap] at hx;exact hx.elim (hN x) λ⟨s,_,hs⟩=>hc s x hs),show l.length-k=(l.length-(k+1))+1 by omega,clo]
  rfl
theorem Qatr(l:List Qae)(ho:okTs l)(hc:closed l)(s:Nm):Qs8 l s=some (reaP l s):=by
 have hlen:=ho.len;have h1:=Qava l ho hc 0 (by omega) (suc l s) (Qzu l s) (hc s);rw[show((0:Nat):Int)=0 from rfl] at h1;rw[Qs8,Qadu l s (by omega),Qad,Qadx ho,Qad,h1];rfl
def fitT (x:Qae):Bool:=Qhu x.Name&&isP x.L
def ck1 (pre:List Qae):List Qae->Option (Nm×Int)
 | []=>none
 | x::r=>if !fitT x then some (x.Name,7) else if(fndT pre x.Name).isSome then some (x.Name,9) else ck1 (pre++[x]) r
def lost(l:List Qae)(x:Qae):Bool:=(suc l x.Name).any λu => !(fndT l u).isSome
def ring(l:List Qae)(x:Qae):Bool:=decide (x.Name ∈ reaP l x.Name)
def Qiy (l:List Qae):Nm×Int :=
 if l.length>16 then([],5) else
 match ck1 [] l with
 | some b=>b
 | none =>
  match l.find? (lost l) with
  | some x=>(x.Name,4)
  | none =>
   match l.find? (ring l) with
   | some x=>(x.Name,10)
   | none=>([],0)
theorem Qats{l:List Qae}{k:Nat}(hk:k<l.length):l.take k++[l[k]]=l.take (k+1):=(List.take_succ_eq_append_getElem hk).symm
theorem Qarj(l:List Qae)(ho:okTs l):∀ k,k<=l.length->Qeg l k=some (match ck1 (l.take k) (l.drop k) with | none =>.inl () | some b =>.inr b):=by
 have hlen:=ho.len;refine upto ?_ λk hk ih=>?_
 .rw[Qeg]; simp[ck1]
 .have hm:=List.getElem_mem hk;have h1:=Qaq2 l[k].Name (Nat.lt_of_le_of_lt (ho.nm _ hm) (by omega));have h2:=tIs l[k].L (Nat.le_trans (ho.nn _ hm) (by omega)) (ho.ok _ hm);have h3:cutL l 0 (k:Int)=some (l.take k):=by rw[Qmx (by omega) (by omega) (by omega)]; simp
  have h4:=Qarg (l.take k) l[k].Name (by simp; omega);rw[Qeg,Qcb hk,ck1];simp only[ltI,hk,decide_true,if_true,Qa3,getE hk,Qad,h1,h2,h3,h4,fitT,Qadv];rcases Bool.eq_false_or_eq_true (Qhu l[k].Name) with hn | hn
  .rcases Bool.eq_false_or_eq_true (isP l[k].L) with hi | hi
   .simp only[hn,hi,Bool.not_true,Bool.false_eq_true,if_false,Qad,Bool.and_true];rcases Bool.eq_false_or_eq_true (fndT (l.take k) l[k].Name).isSome with hf | hf
    .simp[hf]
    .simp only[hf,Bool.false_eq_true,if_false,Qa4 (show k<9223372036854775807 by omega),ih,Qats hk]
   .simp[hn,hi]
  .simp[hn]
theorem Qark(l:List Qae)(ho:okTs l):∀ k,k<=l.length->Qgi l k=some (match ck1 (l.take k) (l.drop k) with | none =>.inl () | some b =>.inr b):=by
 have hlen:=ho.len;refine upto ?_ λk hk ih=>?_
 .rw[Qgi]; simp[ck1]
 .have hm:=List.getElem_mem hk;have h1:=Qaq3 l[k].Name (Nat.lt_of_le_of_lt (ho.nm _ hm) (by omega));have h2:=rIs l[k].L (Nat.le_trans (ho.nn _ hm) (by omega)) (ho.ok _ hm);have h3:cutL l 0 (k:Int)=some (l.take k):=by rw[Qmx (by omega) (by omega) (by omega)]; simp
  have h4:=Qadu (l.take k) l[k].Name (by simp; omega);rw[Qgi,Qcb hk,ck1];simp only[ltI,hk,decide_true,if_true,Qa3,getE hk,Qad,h1,h2,h3,h4,fitT,Qadv];rcases Bool.eq_false_or_eq_true (Qhu l[k].Name) with hn | hn
  .rcases Bool.eq_false_or_eq_true (isP l[k].L) with hi | hi
   .simp only[hn,hi,Bool.not_true,Bool.false_eq_true,if_false,Qad,Bool.and_true];rcases Bool.eq_false_or_eq_true (fndT (l.take k) l[k].Name).isSome with hf | hf
    .simp[hf]
    .simp only[hf,Bool.false_eq_true,if_false,Qa4 (show k<9223372036854775807 by omega),ih,Qats hk]
   .simp[hn,hi]
  .simp[hn]
theorem Qanc:∀ (l pre:List Qae),(nms pre).Nodup->ck1 pre l=none->(nms (pre++l)).Nodup/\∀ x ∈ l,fitT x=true
 | [],pre,hn,_=>by simpa using hn
 | x::r,pre,hn,h=>by
  unfold ck1 at h;cases hf:fitT x with
  | false=>rw[hf] at h; simp at h
  | true =>
   rw[hf,if_neg (by simp)] at h;cases hs:(fndT pre x.Name).isSome with
   | true=>rw[hs,if_pos rfl] at h; cases h
   | false =>
    rw[hs,if_neg (by simp)] at h;have hnot:x.Name ∉ nms pre:=λk=>by rw[Q3a.2 k] at hs; cases hs
    obtain⟨h1,h2⟩:=Qanc r (pre++[x]) (by
     rw[show nms (pre++[x])=nms pre++[x.Name] from List.map_append];exact List.nodup_append.2 ⟨hn,by simp,λa ha b hb e=>hnot (by rw[List.mem_singleton.1 hb] at e; exact e ▸ ha)⟩) h
    refine⟨by simpa using h1,λy hy=>?_⟩;rcases List.mem_cons.1 hy with rfl | hy
    .exact hf
    .exact h2 y hy
theorem Qarl(l:List Qae)(v:Int)(x:Qae)(us:List Nm)(hx:suc l x.Name=us)(hl:us.length<=1000):∀ k,k<=us.length->Qeh l (grP l) v x k=some (if((us.drop k).any λu => !(fndT l u).isSome)=true then .inr () else .inl ()):=by
 refine upto ?_ λk hk ih=>?_
 .rw[Qeh,Qaim,hx]; simp
 .rw[Qeh,Qaim,hx,Qcb hk];simp only[ltI,hk,decide_true,if_true,Qa3,getE hk,Qad,Qarh,List.any_cons];rcases Bool.eq_false_or_eq_true (fndT l us[k]).isSome with hb | hb
  .simp only[hb,Bool.not_true,Bool.false_eq_true,if_false,Bool.false_or,Qa4 (show k<9223372036854775807 by omega),ih]
  .simp only[hb,Bool.not_false,if_true,Bool.true_or]
theorem Qarm(l:List Qae)(ho:okTs l):∀ k,k<=l.length->Qei l (grP l) k=some (match (l.drop k).find? (lost l) with | none =>.inl () | some x =>.inr x.Name):=by
 have hlen:=ho.len;refine upto ?_ λk hk ih=>?_
 .rw[Qei]; simp
 .have h3:=Qarl l k l[k] _ rfl (Nat.le_trans (Q96 ho _) (by omega)) 0 (by omega);rw[show((0:Nat):Int)=0 from rfl,List.drop_zero] at h3;rw[Qei,Qcb hk];simp only[ltI,hk,decide_true,if_true,Qa3,getE hk,Qad,h3,List.find?_cons];rw[show((suc l l[k].Name).any λu => !(fndT l u).isSome)=lost l l[k] from rfl];cases hb:lost l l[k] with
  | true=>rfl
  | false=>simp only[Bool.false_eq_true,if_false,Qa4 (show k<9223372036854775807 by omega),ih]
theorem Qarn(l:List Qae)(hll:l.length<=1000)(v:Nat)(hv:v<l.length)(us:List Nm)(hl:us.length<=1000):∀ k,k<=us.length->Qgj l v us k=some (if((us.drop k).any λu => !(fndT l u).isSome)=true then .inr l[v].Name else .inl ()):=by
 refine upto ?_ λk hk ih=>?_
 .rw[Qgj]; simp
 .rw[Qgj,Qcb hk];simp only[ltI,hk,decide_true,if_true,Qa3,getE hk,getE hv,Qad,Qadu l _ (by omega:l.length<9223372036854775807),Qadv,List.any_cons];rcases Bool.eq_false_or_eq_true (fndT l us[k]).isSome with hb | hb
  .simp only[hb,Bool.not_true,Bool.false_eq_true,if_false,Bool.false_or,Qa4 (show k<9223372036854775807 by omega),ih]
  .simp only[hb,Bool.not_false,if_true,Bool.true_or]
theorem Qaro{l:List Qae}(ho:okTs l)(hn:(nms l).Nodup){x:Qae}(hx:x ∈ l):Qep x.L=some (suc l x.Name):=by
 rw[Qard hn hx];exact Qarf 1000 _ (Nat.le_refl _) (Nat.le_trans (ho.nn x hx) (by omega))
theorem Qarp(l:List Qae)(ho:okTs l)(hn:(nms l).Nodup):∀ k,k<=l.length->Qgm l k=some (match (l.drop k).find? (lost l) with | none =>.inl () | some x =>.inr x.Name):=by
 have hlen:=ho.len;refine upto ?_ λk hk ih=>?_
 .rw[Qgm]; simp
 .have h3:=Qarn l (by omega) k hk (suc l l[k].Name) (Nat.le_trans (Q96 ho _) (by omega)) 0 (by omega);rw[show((0:Nat):Int)=0 from rfl,List.drop_zero] at h3;rw[Qgm,Qcb hk];simp only[ltI,hk,decide_true,if_true,Qa3,getE hk,Qad,Qaro ho hn (List.getElem_mem hk),h3,List.find?_cons];rw[show((suc l l[k].Name).any λu => !(fndT l u).isSome)=lost l l[k] from rfl];cases hb:lost l l[k] with
  | true=>rfl
  | false=>simp only[Bool.false_eq_true,if_false,Qa4 (show k<9223372036854775807 by omega),ih]
theorem Qwo{l:List Qae}(h:l.find? (lost l)=none):closed l:=λs u hu=>by
 cases hf:fndT l s with
 | none=>unfold suc at hu; rw[hf] at hu; cases hu
 | some x =>
  have hx:=List.mem_of_find?_eq_some hf;have he:x.Name=s:=by have:=List.find?_some hf; simpa using this
  have hl:=List.find?_eq_none.1 h x hx;have hl:lost l x=false:=by simpa using hl
  unfold lost at hl;rw[List.any_eq_false] at hl;have:=hl u (by rw[he]; exact hu);exact Q3a.1 (by cases hu2:(fndT l u).isSome with | true=>rfl | false=>rw[hu2] at this; exact absurd rfl this)
theorem Qarq(l:List Qae)(ho:okTs l)(hc:closed l):∀ k,k<=l.length->Qej l (grP l) k=some (match (l.drop k).find? (ring l) with | none =>.inl () | some x =>.inr x.Name):=by
 have hlen:=ho.len;refine upto ?_ λk hk ih=>?_
 .rw[Qej]; simp
 .have hf:=Qatq ho hc (Qk3 (Qzu l l[k].Name)) (hc l[k].Name);rw[Qads (Qzu l l[k].Name)] at hf;have hfl:=Qaij hc (Qzu l l[k].Name) (hc l[k].Name);rw[Qej,Qcb hk];simp only[ltI,hk,decide_true,if_true,Qa3,getE hk,Qad,Qaim,hf,Qadw _ l[k].Name (by omega:(froP l (suc l l[k].Name)).length<9223372036854775807),List.find?_cons];rw[show decide (l[k].Name ∈ froP l (suc l l[k].Name))=ring l l[k] from rfl];cases hb:ring l l[k] with
  | true=>rfl
  | false=>simp only[Bool.false_eq_true,if_false,Qa4 (show k<9223372036854775807 by omega),ih]
theorem Qarr(l:List Qae)(ho:okTs l)(hc:closed l):∀ k,k<=l.length->Qgq l k=some (match (l.drop k).find? (ring l) with | none =>.inl () | some x =>.inr x.Name):=by
 have hlen:=ho.len;refine upto ?_ λk hk ih=>?_
 .rw[Qgq]; simp
 .have hfl:=Qaij hc (Qzu l l[k].Name) (hc l[k].Name);rw[Qgq,Qcb hk];simp only[ltI,hk,decide_true,if_true,Qa3,getE hk,Qad,Qatr l ho hc,rIn (reaP l l[k].Name) l[k].Name (show(froP l (suc l l[k].Name)).length<9223372036854775807 by omega),List.find?_cons];rw[show decide (l[k].Name ∈ reaP l l[k].Name)=ring l l[k] from rfl];cases hb:ring l l[k] with
  | true=>rfl
  | false=>simp only[Bool.false_eq_true,if_false,Qa4 (show k<9223372036854775807 by omega),ih]
theorem Qatt(n:Nat):decide ((n:Int)>16)=decide (n>16):=by
 by_cases h:n>16
 .rw[decide_eq_true h]; exact decide_eq_true (by omega)
 .rw[decide_eq_false h]; exact decide_eq_false (by omega)
theorem Qatu(l:List Qae)(ho:okTs l):Qnj l=some (Qiy l):=by
 have h1:=Qarj l ho 0 (by omega);have h2:=Qarm l ho 0 (by omega);have h4:=λhc=>Qarq l ho hc 0 (by omega)
 rw[show((0:Nat):Int)=0 from rfl] at h1 h2;rw[List.take_zero,List.drop_zero] at h1;rw[List.drop_zero] at h2;rw[Qnj,Qiy,Qatt];by_cases hm:l.length>16
 .simp[hm]
 .simp only[hm,decide_false,Bool.false_eq_true,if_false,h1,Qad,Qatm l ho];cases hk:ck1 [] l with
  | some b=>rfl
  | none =>
   simp only[h2,Qad];cases hl:l.find? (lost l) with
   | some x=>rfl
   | none =>
    have h4:=h4 (Qwo hl);rw[show((0:Nat):Int)=0 from rfl,List.drop_zero] at h4;simp only[h4,Qad];cases hr:l.find? (ring l)<;>rfl
theorem Qap3(l:List Qae)(ho:okTs l):Qpl l=some (Qiy l):=by
 have h1:=Qark l ho 0 (by omega);have h2:=λhn=>Qarp l ho hn 0 (by omega)
 have h4:=λhc=>Qarr l ho hc 0 (by omega)
 rw[show((0:Nat):Int)=0 from rfl] at h1;rw[List.take_zero,List.drop_zero] at h1;rw[Qpl,Qiy,Qatt];by_cases hm:l.length>16
 .simp[hm]
 .simp only[hm,decide_false,Bool.false_eq_true,if_false,h1,Qad];cases hk:ck1 [] l with
  | some b=>rfl
  | none =>
   have h2:=h2 (Qanc l [] (by simp) hk).1;rw[show((0:Nat):Int)=0 from rfl,List.drop_zero] at h2;simp only[h2,Qad];cases hl:l.find? (lost l) with
   | some x=>rfl
   | none =>
    have h4:=h4 (Qwo hl);rw[show((0:Nat):Int)=0 from rfl,List.drop_zero] at h4;simp only[h4,Qad];cases hr:l.find? (ring l)<;>rfl
structure fine (l:List Qae):Prop where
 many:l.length<=16
 nodup:(nms l).Nodup
 fit:∀ x ∈ l,fitT x=true
 closed:closed l
 noring:∀ s ∈ nms l,s ∉ reaP l s
theorem Qy0{l:List Qae}(h:(Qiy l).2=0):fine l/\(Qiy l).1=[]:=by
 unfold Qiy at h ⊢;by_cases hm:l.length>16
 .rw[if_pos hm] at h; cases h
 .rw[if_neg hm] at h ⊢;cases hk:ck1 [] l with
  | some b =>
   rw[hk] at h;exfalso;have key:∀ (r pre:List Qae) (b:Nm×Int),ck1 pre r=some b->b.2≠0:=by
    intro r
    induction r with
    | nil=>intro pre b hb; cases hb
    | cons x r ih =>
     intro pre b hb;unfold ck1 at hb;split at hb
     .cases hb; exact λe=>by cases e
     .split at hb
      .cases hb; exact λe=>by cases e
      .exact ih _ _ hb
   exact key l [] b hk h
  | none =>
   rw[hk] at h;simp only at h ⊢;obtain⟨a1,a2⟩:=Qanc l [] (by simp) hk;cases hl:l.find? (lost l) with
   | some x=>rw[hl] at h; cases h
   | none =>
    rw[hl] at h;simp only at h ⊢;cases hr:l.find? (ring l) with
    | some x=>rw[hr] at h; cases h
    | none =>
     refine⟨⟨by omega,a1,a2,Qwo hl,λs hs hin=>?_⟩,rfl⟩;obtain⟨x,hx,rfl⟩:=List.mem_map.1 hs;have:=List.find?_eq_none.1 hr x hx;exact this (by unfold ring; exact decide_eq_true hin)
end Go.Proofs.YtfgegilhjlnohaaGreat
end
