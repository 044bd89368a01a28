/- A part of the proof. -/
import Derived.Test.YtfgegilhjlnohaaGreatMgInferMore10
import Derived.Lib.SlicesCompact

noncomputable section
namespace Go.Proofs.YtfgegilhjlnohaaGreat
open Go.RowKit
set_option linter.unusedSimpArgs false
set_option linter.unusedVariables false
theorem Qak0(l:List Qab)(k:Nat)(h:k+1<l.length):litB (l.drop (k+1))=(l[k+1].Kind==8):=by
 rw[Qcc h]; rfl
section
variable (n:Nat) (hn:n<900000000) (ih:∀ x:Qab,nn x≤n→allN okNd x→Qsv x=some (Q4l x))
include hn ih
theorem Qapg(l:List Qab)(h:nns l≤n)(ho:allL okNd l)(top:Bool):∀ k,k≤l.length→Qg8 l top k=some (if Qbp (l.drop k) (!top) then .inl () else .inr ()):=by
 have hl:=Qfj l;refine upto ?_ fun k hk ihk=>?_
 ·rw[Qg8]; simp[Qbp]
 ·have hx:=Qek (List.getElem_mem hk);have ha:=Qqb (List.getElem_mem hk) ho;have htx:=((Qon okNd l[k]).1 ha).1.tx;rw[Qg8,Qa3 (by omega),ihk];simp only[ltI,hk,decide_true,if_true,Qa1,getE hk,Qac,ih l[k] (by omega) ha,Qare k l.length hk (by omega),tEnd l[k].Text (by omega)];rw[Qcc hk,Qbp,Qah6];rw[Qakz hk];cases hs:Q4l l[k] with
  | false=>rfl
  | true =>
   cases h8:(l[k].Kind==8) with
   | false=>simp
   | true =>
    by_cases hlast:k+1=l.length
    ·have e1:(k+1==l.length)=true:=beq_iff_eq.2 hlast;have e2:litB (l.drop (k+1))=false:=by rw[List.drop_eq_nil_of_le (by omega)]; rfl
     rw[e1,e2];cases top<;>cases endB l[k].Text<;>simp
    ·have e1:(k+1==l.length)=false:=beq_eq_false_iff_ne.2 hlast;have hk1:k+1<l.length:=by omega
     rw[e1,Qak0 l k hk1,getE hk1];simp only[Qac];cases (l[k+1].Kind==8)<;>cases endB l[k].Text<;>cases top<;>simp
theorem Qak1(l:List Qab)(h:nns l≤n)(ho:allL okNd l)(top:Bool):Qiq l top=some (Qbp l (!top)):=by
 have:=Qapg n hn ih l h ho top 0 (by omega);rw[Qiq,show(0:Int)=((0:Nat):Int) from rfl,this,List.drop_zero];cases Qbp l (!top)<;>rfl
end
theorem Qas0:∀ n (x:Qab),n<900000000→nn x≤n→allN okNd x→Qsv x=some (Q4l x):=by
 intro n
 induction n with
 | zero=>intro x _ h; have:=Qhl x; omega
 | succ n ih =>
  intro x hb h ho;rw[Qhg] at h;obtain⟨hq,ho1,ho2,ho3⟩:=(Qon okNd x).1 ho;have hnm:=hq.nm;have htx:=hq.tx;have ih' := fun y=>ih y (by omega)
  have t1:=Qak1 n (by omega) ih' x.Then (by omega) ho2 false;have t2:=Qak1 n (by omega) ih' x.Else (by omega) ho3 false;have e2:(x.N != 0) = !(x.N==0):=rfl;rw[Qsv,Qip,Qqc,Qapb x.Name (by omega),tHas x.Text (by omega),t1,t2];simp only[Qac,gI,e2,zI,oneI];obtain⟨ex,hex,hex2⟩:∃ ex:Bool,Qdn x.L=ex∧(x.L.length==1→(idx x.L 0>>=fun y=>Qfs y)=some ex):=by
   refine⟨_,rfl,fun hl=>?_⟩;obtain⟨y,hy⟩:=List.length_eq_one_iff.1 (by simpa using hl:x.L.length=1);have hy1:nn y≤n:=by have:=Qek (show y ∈ x.L by rw[hy]; simp); omega
   have hy2:allN okNd y:=Qqb (show y ∈ x.L by rw[hy]; simp) ho1;rw[hy];simp only[Qao1,List.getElem?_cons_zero,Qac,Qasy n y (by omega) hy1 hy2,Qdn,Bool.and_true]
  rw[hex];have hidx:∀ (f:Bool→Option Bool) (g:Qab→Option Bool),x.L.length=1→(∀ y,g y=Qfs y>>=f)→(idx x.L 0>>=g)=f ex:=fun f g hl hg=>by
   have:=hex2 (by simpa using hl);obtain⟨y,hy⟩:=List.length_eq_one_iff.1 hl;rw[hy] at this ⊢;simp only[Qao1,List.getElem?_cons_zero,Qac] at this ⊢;rw[hg,this,Qac]
  have nw:Qhn x.Name=true→(x.Name==[])=false:=fun h=>Q81 (Q2h h)
  by_cases k8:x.Kind=8
  ·simp only[k8,beq_self_eq_true,if_true];generalize (x.Name==[])=a1;generalize (x.Text==[])=a2;generalize (x.N==0)=a3;generalize zl x.L=a4;generalize zl x.Then=a5;generalize zl x.Else=a6;generalize hasB x.Text=hh;cases a1<;>(try (cases a2<;>cases hh<;>rfl))<;>cases a2<;>(try (cases hh<;>rfl))<;>cases a3<;>(try (cases hh<;>rfl))<;>cases a4<;>(try (cases hh<;>rfl))<;>cases a5<;>(try (cases hh<;>rfl))<;>cases a6<;>cases hh<;>rfl
  have b8:(x.Kind==8)=false:=beq_eq_false_iff_ne.2 k8;have hE:x.L.length=1→(idx x.L 0>>=fun y=>Qfs y>>=fun b=>if b=true then if Qbp x.Then (!false)=true then some (Qbp x.Else (!false)) else some false else some false)=some (ex&&(Qbp x.Then true&&Qbp x.Else true)):=fun hl=>by
   rw[hidx (fun b=>if b=true then if Qbp x.Then (!false)=true then some (Qbp x.Else (!false)) else some false else some false) _ hl fun y=>rfl];show(if ex=true then if Qbp x.Then true=true then some (Qbp x.Else true) else some false else some false)=_;cases ex<;>cases Qbp x.Then true<;>rfl
  have hb5:zl x.Then=true→Qbp x.Then true=true:=fun h=>by rw[Qw2 h,Qacl]
  have hb6:zl x.Else=true→Qbp x.Else true=true:=fun h=>by rw[Qw2 h,Qacl]
  have half:∀ w th ot nmd:Bool,(if(w==nmd)=true then if((!x.Name==[])==w&&((!x.Text==[])==false&&((!x.N==0)==false&&((!zl x.Then)==th&&((!zl x.Else)==ot&&(x.L.length==1&&true))))))=true then
    idx x.L 0>>=fun y=>Qfs y>>=fun b=>if b=true then if Qbp x.Then (!false)=true then some (Qbp x.Else (!false)) else some false else some false else some false else some false) =
    some ((w==nmd)&&(((!x.Name==[])==w)&&((x.Text==[])&&((x.N==0)&&(((!zl x.Then)==th)&&(((!zl x.Else)==ot)&&((x.L.length==1)&&(ex&&(Qbp x.Then true&&Qbp x.Else true))))))))):=fun w th ot nmd=>by
   have e0:∀ b:Bool,((!b)==false)=b:=fun b=>by cases b<;>rfl
   simp only[e0];cases hl:(x.L.length==1) with
   | true =>
    rw[hE (by simpa using hl)];generalize (ex&&(Qbp x.Then true&&Qbp x.Else true))=q;generalize ((!x.Name==[])==w)=q1;generalize (x.Text==[])=q2;generalize (x.N==0)=q3;generalize ((!zl x.Then)==th)=q4;generalize ((!zl x.Else)==ot)=q5;generalize (w==nmd)=q6;cases q6<;>(try rfl)<;>cases q1<;>(try rfl)<;>cases q2<;>(try rfl)<;>cases q3<;>(try rfl)<;>cases q4<;>(try rfl)<;>cases q5<;>rfl
   | false =>
    generalize ((!x.Name==[])==w)=q1;generalize (x.Text==[])=q2;generalize (x.N==0)=q3;generalize ((!zl x.Then)==th)=q4;generalize ((!zl x.Else)==ot)=q5;generalize (w==nmd)=q6;cases q6<;>(try rfl)<;>cases q1<;>(try rfl)<;>cases q2<;>(try rfl)<;>cases q3<;>(try rfl)<;>cases q4<;>(try rfl)<;>cases q5<;>rfl
  have bnd:∀ m:Option Bool,(m>>=fun o=>some o)=m:=fun m=>by cases m<;>rfl
  simp only[b8,Bool.false_eq_true,if_false];by_cases k9:x.Kind=9
  ·simp only[k9,beq_self_eq_true,if_true,Qac,show((9:Int)==11)=false from rfl,show((9:Int)==12)=false from rfl,show((9:Int)==13)=false from rfl,Bool.false_eq_true,if_false,bnd];have hh:=half false false false false;simp only[beq_self_eq_true,if_true,Bool.true_and] at hh;rw[hh];have e0:∀ b:Bool,((!b)==false)=b:=fun b=>by cases b<;>rfl
   simp only[e0];cases h5:zl x.Then with
   | false=>generalize (x.Name==[])=a1; generalize (x.Text==[])=a2; generalize (x.N==0)=a3; cases a1<;>cases a2<;>cases a3<;>simp
   | true=>cases h6:zl x.Else with
    | false=>generalize (x.Name==[])=a1; generalize (x.Text==[])=a2; generalize (x.N==0)=a3; cases a1<;>cases a2<;>cases a3<;>simp
    | true =>
     rw[hb5 h5,hb6 h6];generalize (x.Name==[])=a1; generalize (x.Text==[])=a2; generalize (x.N==0)=a3; generalize (x.L.length==1)=l1;cases a1<;>cases a2<;>cases a3<;>cases l1<;>cases ex<;>rfl
  have b9:(x.Kind==9)=false:=beq_eq_false_iff_ne.2 k9;simp only[b9,Bool.false_eq_true,if_false];by_cases k10:x.Kind=10
  ·simp only[k10,beq_self_eq_true,if_true,Qac,show((10:Int)==11)=false from rfl,show((10:Int)==12)=false from rfl,show((10:Int)==13)=false from rfl,Bool.false_eq_true,if_false,bnd];have hh:=half false (!zl x.Then) (!zl x.Else) false;simp only[beq_self_eq_true,if_true,Bool.true_and] at hh ⊢;rw[hh];have e0:∀ b:Bool,((!b)==false)=b:=fun b=>by cases b<;>rfl
   simp only[e0];generalize (x.Name==[])=a1; generalize (x.Text==[])=a2; generalize (x.N==0)=a3; generalize (x.L.length==1)=l1; generalize zl x.Then=a5; generalize zl x.Else=a6; generalize Qbp x.Then true=bt; generalize Qbp x.Else true=be;cases a5<;>cases a6<;>cases a1<;>cases a2<;>cases a3<;>cases l1<;>cases ex<;>cases bt<;>cases be<;>rfl
  have b10:(x.Kind==10)=false:=beq_eq_false_iff_ne.2 k10;simp only[b10,Bool.false_eq_true,if_false];have e11:(if(x.Kind==11)=true then some (x.Kind==11) else some (x.Kind==12):Option Bool)=some (x.Kind==11||x.Kind==12):=by cases (x.Kind==11)<;>rfl
  rw[e11];cases h11:(x.Kind==11||x.Kind==12) with
  | true =>
   have e12:(if(x.Kind==11)=true then some true else if(x.Kind==12)=true then some true else some (x.Kind==13):Option Bool)=some true:=by
    revert h11; cases (x.Kind==11)<;>cases (x.Kind==12)<;>intro h<;>first | rfl | cases h
   rw[e12];simp only[Qac,if_true,bnd];rw[half (Qhn x.Name) (!zl x.Then) false true];have e0:∀ b:Bool,((!b)==false)=b:=fun b=>by cases b<;>rfl
   simp only[e0];cases hn:Qhn x.Name with
   | false=>rfl
   | true =>
    rw[nw hn];cases h6:zl x.Else with
    | false=>generalize (x.Text==[])=a2; generalize (x.N==0)=a3; generalize zl x.Then=a5; cases a2<;>cases a3<;>cases a5<;>simp
    | true =>
     rw[hb6 h6];generalize (x.Text==[])=a2; generalize (x.N==0)=a3; generalize (x.L.length==1)=l1; generalize zl x.Then=a5; generalize Qbp x.Then true=bt;cases a5<;>cases a2<;>cases a3<;>cases l1<;>cases ex<;>cases bt<;>rfl
  | false =>
   have e12:(if(x.Kind==11)=true then some true else if(x.Kind==12)=true then some true else some (x.Kind==13):Option Bool)=some (x.Kind==13):=by
    revert h11; cases (x.Kind==11)<;>cases (x.Kind==12)<;>intro h<;>first | rfl | cases h
   rw[e12];simp only[Qac,Bool.false_eq_true,if_false];by_cases k13:x.Kind=13
   ·simp only[k13,beq_self_eq_true,if_true,Qac,bnd];rw[half (Qhn x.Name) false false true];have e0:∀ b:Bool,((!b)==false)=b:=fun b=>by cases b<;>rfl
    simp only[e0];cases hn:Qhn x.Name with
    | false=>rfl
    | true =>
     rw[nw hn];cases h5:zl x.Then with
     | false=>generalize (x.Text==[])=a2; generalize (x.N==0)=a3; cases a2<;>cases a3<;>simp
     | true=>cases h6:zl x.Else with
      | false=>generalize (x.Text==[])=a2; generalize (x.N==0)=a3; cases a2<;>cases a3<;>simp
      | true =>
       rw[hb5 h5,hb6 h6];generalize (x.Text==[])=a2; generalize (x.N==0)=a3; generalize (x.L.length==1)=l1;cases a2<;>cases a3<;>cases l1<;>cases ex<;>rfl
   ·have b13:(x.Kind==13)=false:=beq_eq_false_iff_ne.2 k13;simp only[b13,Bool.false_eq_true,if_false,Qac]
section
variable (n:Nat) (hn:n<900000000) (ih:∀ x:Qab,nn x≤n→allN okNd x→Qwj x=some (Q4l x))
include hn ih
theorem Qaph(l:List Qab)(h:nns l≤n)(ho:allL okNd l)(inn:Bool):∀ k,k≤l.length→Qgd l inn k=some (if Qbp (l.drop k) inn then .inl () else .inr ()):=by
 have hl:=Qfj l;refine upto ?_ fun k hk ihk=>?_
 ·rw[Qgd]; simp[Qbp]
 ·have hx:=Qek (List.getElem_mem hk);have ha:=Qqb (List.getElem_mem hk) ho;have htx:=((Qon okNd l[k]).1 ha).1.tx;rw[Qgd,Qa3 (by omega),ihk];simp only[ltI,hk,decide_true,if_true,Qa1,getE hk,Qac,ih l[k] (by omega) ha,Qare k l.length hk (by omega)];rw[Qcc hk,Qbp,Qah6];rw[Qakz hk];cases hs:Q4l l[k] with
  | false=>rfl
  | true =>
   cases h8:(l[k].Kind==8) with
   | false =>
    have:(l[k].Kind != 8)=true:=by rw[bne,h8]; rfl
    rw[this];simp
   | true =>
    have h8' : (l[k].Kind != 8)=false:=by rw[bne,h8]; rfl
    rw[h8', rEnd l[k].Text (by omega) (Qaky hs (by simpa using h8))];by_cases hlast:k+1=l.length
    ·have e1:(k+1==l.length)=true:=beq_iff_eq.2 hlast;have e2:litB (l.drop (k+1))=false:=by rw[List.drop_eq_nil_of_le (by omega)]; rfl
     rw[e1,e2];cases inn<;>cases endB l[k].Text<;>simp
    ·have e1:(k+1==l.length)=false:=beq_eq_false_iff_ne.2 hlast;have hk1:k+1<l.length:=by omega
     rw[e1,Qak0 l k hk1,getE hk1];simp only[Qac];cases (l[k+1].Kind==8)<;>cases endB l[k].Text<;>cases inn<;>simp
theorem Qak2(l:List Qab)(h:nns l≤n)(ho:allL okNd l)(inn:Bool):Qi6 l inn=some (Qbp l inn):=by
 have:=Qaph n hn ih l h ho inn 0 (by omega);rw[Qi6,show(0:Int)=((0:Nat):Int) from rfl,this,List.drop_zero];cases Qbp l inn<;>rfl
end
theorem Qas1:∀ n (x:Qab),n<900000000→nn x≤n→allN okNd x→Qwj x=some (Q4l x):=by
 intro n
 induction n with
 | zero=>intro x _ h; have:=Qhl x; omega
 | succ n ih =>
  intro x hb h ho;rw[Qhg] at h;obtain⟨hq,ho1,ho2,ho3⟩:=(Qon okNd x).1 ho;have hnm:=hq.nm;have htx:=hq.tx;have hll:=Qfj x.L;have ih' := fun y=>ih y (by omega)
  have t1:=Qak2 n (by omega) ih' x.Then (by omega) ho2 true;have t2:=Qak2 n (by omega) ih' x.Else (by omega) ho3 true;have hex:=Qan4 n (fun y hy=>Qasz n y (by omega) hy) x.L (by omega) ho1 (by omega);rw[Qwj,Qqc,Qapc x.Name (by omega),Qape x.Text (by omega),t1,t2,hex];simp only[Qac,oneI,Qard,Qanb];have e1:(if(x.L.length==1)=true then some (Qdn x.L) else some false:Option Bool)=some (x.L.length==1&&Qdn x.L):=by cases (x.L.length==1)<;>rfl
  rw[e1];simp only[Qac];generalize (x.L.length==1&&Qdn x.L)=one;by_cases k8:x.Kind=8
  ·have e10:(x.Kind==10)=false:=beq_eq_false_iff_ne.2 (by omega);simp only[e10];simp only[k8,beq_self_eq_true,if_true];generalize (x.Name==[])=a1;generalize (x.Text==[])=a2;generalize (x.N==0)=a3;generalize zl x.L=a4;generalize zl x.Then=a5;generalize zl x.Else=a6;generalize hasB x.Text=hh;cases a2<;>(try rfl)<;>cases hh<;>(try rfl)<;>cases a1<;>(try rfl)<;>cases a3<;>rfl
  have b8:(x.Kind==8)=false:=beq_eq_false_iff_ne.2 k8;simp only[b8,Bool.false_eq_true,if_false];by_cases k10:x.Kind=10
  ·simp only[k10,beq_self_eq_true,if_true,show((10:Int)==9)=false from rfl,Bool.false_eq_true,if_false];generalize (x.Name==[])=a1;generalize (x.Text==[])=a2;generalize (x.N==0)=a3;generalize Qbp x.Then true=bt;generalize Qbp x.Else true=be;generalize zl x.L=a4;generalize zl x.Then=a5;generalize zl x.Else=a6;cases one<;>(try rfl)<;>cases bt<;>(try rfl)<;>cases be<;>(try rfl)<;>cases a1<;>(try rfl)<;>cases a2<;>(try rfl)<;>cases a3<;>rfl
  have b10:(x.Kind==10)=false:=beq_eq_false_iff_ne.2 k10;simp only[b10,Bool.false_eq_true,if_false];have e11:(if(x.Kind==11)=true then some (x.Kind==11) else some (x.Kind==12):Option Bool)=some (x.Kind==11||x.Kind==12):=by cases (x.Kind==11)<;>rfl
  rw[e11];simp only[Qac];have nw:Qhn x.Name=true→(x.Name==[])=false:=fun h=>Q81 (Q2h h)
  generalize (x.Kind==9)=k9;generalize (x.Kind==11||x.Kind==12)=k11;generalize (x.Kind==13)=k13;generalize (x.Name==[])=a1;generalize Qhn x.Name=nm;generalize (x.Text==[])=a2;generalize (x.N==0)=a3;generalize Qbp x.Then true=bt;generalize Qbp x.Else true=be;generalize zl x.L=a4;generalize zl x.Then=a5;generalize zl x.Else=a6;cases k9
  ·cases k11
   ·cases k13
    ·rfl
    ·cases nm<;>(try rfl)<;>cases one<;>(try rfl)<;>cases a2<;>(try rfl)<;>cases a3<;>rfl
   ·cases nm<;>(try rfl)<;>cases one<;>(try rfl)<;>cases bt<;>(try rfl)<;>cases a2<;>(try rfl)<;>cases a3<;>rfl
  ·cases one<;>(try rfl)<;>cases a1<;>(try rfl)<;>cases a2<;>(try rfl)<;>cases a3<;>rfl
def maxD(l:List (Qab×Int))(m:Int):Int:=l.foldl (fun m x=>if x.2>m then x.2 else m) m
theorem Qz7(a b:List (Qab×Int))(m:Int):maxD (a++b) m=maxD b (maxD a m):=by unfold maxD; rw[List.foldl_append]
theorem Qan5(x1:List Qab×Int):∀ (l:List (Qab×Int)) (m:Int),Qgn x1 l m=some (maxD l m)
 | [],m=>by rw[Qgn]; rfl
 | x::r,m=>by rw[Qgn,Qan5 x1 r]; rfl
theorem Qak3(x1:List Qab×Int):∀ (l:List (Qab×Int)) (m:Nat),m+l.length<9223372036854775807→Qe9 x1 l m=some ((m+l.length:Nat):Int)
 | [],m,_=>by rw[Qe9]; rfl
 | x::r,m,h=>by
  simp at h;rw[Qe9,Qa3 (by omega),Qak3 x1 r (m+1) (by omega)];simp; omega
theorem Qanc(p0:List Qab)(p1 v12:Int)(x3:Qab)(v28:Int)(x7:List Qab×Int):∀ l:List (Qab×Int),Qfa p0 p1 v12 x3 v28 x7 l=some (l,())
 | []=>by rw[Qfa]
 | x::r=>by
  obtain⟨⟨k,s,t,n,a,b,c⟩,d⟩:=x;rw[Qfa,Qanc p0 p1 v12 x3 v28 x7 r]; rfl
def Qand(d:Nat)(k dep:Nat)(o:Option (List (Qab×Int)×Unit)):Prop:=∃ out,o=some (out,())∧out.length=k∧∀ m:Int,(d:Int)-1≤m→maxD out m=max m ((d:Int)-1+dep)
section
variable (n:Nat) (ih:∀ (l:List Qab) (d:Nat),nns l≤n→n+d≤1000000000→Qand d (nns l) (dps l) (Qfx l d))
include ih
theorem Qas2(l:List Qab)(d:Nat)(v:Int)(x:Qab)(hx:nn x≤n+1)(hd:n+1+d≤1000000000) :
  Qand (d+1) (nns x.L+nns x.Then+nns x.Else) (max (dps x.L) (max (dps x.Then) (dps x.Else))) (Qcg l d v x 0):=by
 rw[Qhg] at hx;have ed:wr ((d:Int)+1)=((d+1:Nat):Int):=Qa3 (by omega);obtain⟨o1,a1,a2,a3⟩:=ih x.L (d+1) (by omega) (by omega);obtain⟨o2,b1,b2,b3⟩:=ih x.Then (d+1) (by omega) (by omega);obtain⟨o3,c1,c2,c3⟩:=ih x.Else (d+1) (by omega) (by omega);have s3:Qcg l d v x 3=some ([],()):=by rw[Qcg]; rfl
 have s2:Qcg l d v x 2=some (o3++[],()):=by
  rw[Qcg];have e:wr ((2:Int)+1)=3:=by rw[Qg1 (by omega) (by omega)]; rfl
  have g:idx ([x.L,x.Then,x.Else]:List (List Qab)) 2=some x.Else:=Qad9 _ 2;rw[g,e,s3];simp only[Qac,Qku,ed,c1,Qanc,show decide ((2:Int)<3)=true from rfl,if_true]
 have s1:Qcg l d v x 1=some (o2++(o3++[]),()):=by
  rw[Qcg];have e:wr ((1:Int)+1)=2:=by rw[Qg1 (by omega) (by omega)]; rfl
  have g:idx ([x.L,x.Then,x.Else]:List (List Qab)) 1=some x.Then:=Qad9 _ 1;rw[g,e,s2];simp only[Qac,Qku,ed,b1,Qanc,show decide ((1:Int)<3)=true from rfl,if_true]
 have s0:Qcg l d v x 0=some (o1++(o2++(o3++[])),()):=by
  rw[Qcg];have e:wr ((0:Int)+1)=1:=by rw[Qg1 (by omega) (by omega)]; rfl
  have g:idx ([x.L,x.Then,x.Else]:List (List Qab)) 0=some x.L:=Qad9 _ 0;rw[g,e,s1];simp only[Qac,Qku,ed,a1,Qanc,show decide ((0:Int)<3)=true from rfl,if_true]
 refine⟨_,s0,by simp; omega,fun m hm=>?_⟩;rw[List.append_nil,Qz7,Qz7,a3 m hm,b3 _ (by omega),c3 _ (by omega)];omega
theorem Qas3(l:List Qab)(d:Nat)(hl:nns l≤n+1)(hd:n+1+d≤1000000000):∀ k,k≤l.length→Qand d (nns (l.drop k)) (dps (l.drop k)) (Qfb l d k):=by
 have hlen:=Qfj l;refine upto ?_ fun k hk ihk=>?_
 ·rw[Qfb,List.drop_length];refine⟨[],by simp,by simp[nns],fun m hm=>?_⟩;simp[maxD,dps]; omega
 ·have hx:=Qek (List.getElem_mem hk);obtain⟨o1,a1,a2,a3⟩:=Qas2 n ih l d k l[k] (by omega) hd;obtain⟨o2,b1,b2,b3⟩:=ihk;rw[Qfb,Qa3 (by omega)];simp only[ltI,hk,decide_true,if_true,Qa1,getE hk,Qac,a1,b1];rw[Qcc hk];refine⟨_,rfl,?_,fun m hm=>?_⟩
  ·simp[nns,Qhg,a2,b2]; omega
  ·show maxD ([(l[k],(d:Int))]++(o1++o2)) m=_;have e0:maxD [(l[k],(d:Int))] m=max m d:=by
    show(if(d:Int)>m then(d:Int) else m)=_;split<;>omega
   rw[Qz7,Qz7,e0,a3 _ (by omega),b3 _ (by omega),dps,Qaku];omega
end
theorem tAll:∀ n (l:List Qab) (d:Nat),nns l≤n→n+d≤1000000000→Qand d (nns l) (dps l) (Qfx l d):=by
 intro n
 induction n with
 | zero =>
  intro l d h _;have hl:l=[]:=List.eq_nil_of_length_eq_zero (by have:=Qfj l; omega);subst hl;rw[Qfx,Qfb];refine⟨[],by simp,by simp[nns],fun m hm=>?_⟩;simp[maxD,dps]; omega
 | succ n ih =>
  intro l d h hd;obtain⟨o,a1,a2,a3⟩:=Qas3 n ih l d h hd 0 (by omega);rw[List.drop_zero] at a2 a3;refine⟨o,?_,a2,a3⟩;rw[Qfx,show(0:Int)=((0:Nat):Int) from rfl,a1];simp
theorem Qas4(l:List Qab)(h:nns l≤900000000):Qst l=some (dps l:Int):=by
 obtain⟨o,a1,a2,a3⟩:=tAll 900000000 l 1 h (by omega);rw[Qst,Qku];simp only[Qac];rw[show(1:Int)=((1:Nat):Int) from rfl,a1];simp only[Qac,Qan5];rw[a3 0 (by omega)];congr 1;omega
theorem Qarf(l:List Qab)(h:nns l≤900000000):Qo8 l=some (nns l:Int):=by
 obtain⟨o,a1,a2,a3⟩:=tAll 900000000 l 1 h (by omega);have:=Qak3 (l,((1:Nat):Int)) o 0 (by omega);rw[Qo8,Qku];simp only[Qac];rw[show(1:Int)=((1:Nat):Int) from rfl,a1];simp only[Qac];rw[show(0:Int)=((0:Nat):Int) from rfl,this];simp[a2]
theorem Qak4:∀ m (l:List Qab),nns l≤m→dps l≤nns l:=by
 intro m
 induction m with
 | zero =>
  intro l h;have hl:l=[]:=List.eq_nil_of_length_eq_zero (by have:=Qfj l; omega);subst hl; simp[dps]
 | succ m ihm =>
  intro l
  induction l with
  | nil=>intro _; simp[dps]
  | cons x r ihr =>
   intro h;rw[nns,Qhg] at h;have h1:=ihm x.L (by omega);have h2:=ihm x.Then (by omega);have h3:=ihm x.Else (by omega);have h4:=ihr (by omega);rw[dps,Qaku,nns,Qhg];omega
section
variable (n:Nat) (hn:n≤900000000) (ih:∀ l:List Qab,nns l≤n→Qe5 l=some (dps l:Int)∧Qdw l=some (nns l:Int))
include hn ih
theorem Qarg(l:List Qab)(h:nns l≤n+1):∀ k,k≤l.length→∀ v:Nat,v≤1000000000→Qe6 l v k=some ((max v (dps (l.drop k)):Nat):Int):=by
 have hl:=Qfj l;refine upto ?_ fun k hk ihk=>?_
 ·intro v _; rw[Qe6]; simp[dps]
 ·intro v hv;have hx:=Qek (List.getElem_mem hk);rw[Qhg] at hx;have d1:=Qak4 _ l[k].L (Nat.le_refl _);have d2:=Qak4 _ l[k].Then (Nat.le_refl _);have d3:=Qak4 _ l[k].Else (Nat.le_refl _);have em:(if(dps l[k].Else:Int)>(if(dps l[k].Then:Int)>(dps l[k].L:Int) then(dps l[k].Then:Int) else(dps l[k].L:Int)) then(dps l[k].Else:Int) else(if(dps l[k].Then:Int)>(dps l[k].L:Int) then(dps l[k].Then:Int) else(dps l[k].L:Int)))=((max (dps l[k].L) (max (dps l[k].Then) (dps l[k].Else)):Nat):Int):=by
   split<;>split at * <;> omega
  rw[Qe6,Qa3 (by omega)];simp only[ltI,hk,decide_true,if_true,Qa1,getE hk,Qac,(ih l[k].L (by omega)).1,(ih l[k].Then (by omega)).1,(ih l[k].Else (by omega)).1];rw[em];have ew:wr (1+((max (dps l[k].L) (max (dps l[k].Then) (dps l[k].Else)):Nat):Int))=((dp l[k]:Nat):Int):=by
   rw[Qg1 (by omega) (by omega),Qaku]; omega
  rw[ew];have ei:(if((dp l[k]:Nat):Int)>(v:Int) then((dp l[k]:Nat):Int) else(v:Int))=((max v (dp l[k]):Nat):Int):=by split<;>omega
  have hdp:dp l[k]≤1000000000:=by rw[Qaku]; omega
  rw[ei,ihk (max v (dp l[k])) (by omega),Qcc hk,dps];congr 2;omega
theorem Qapi(l:List Qab)(h:nns l≤n+1):∀ k,k≤l.length→∀ v:Nat,v+nns (l.drop k)≤1000000000→Qd9 l v k=some ((v+nns (l.drop k):Nat):Int):=by
 have hl:=Qfj l;refine upto ?_ fun k hk ihk=>?_
 ·intro v _; rw[Qd9]; simp[nns]
 ·intro v hv;have hx:=Qek (List.getElem_mem hk);rw[Qhg] at hx;rw[Qcc hk,nns,Qhg] at hv;rw[Qd9,Qa3 (i:=k) (by omega)];simp only[ltI,hk,decide_true,if_true,Qa1,getE hk,Qac,(ih l[k].L (by omega)).2,(ih l[k].Then (by omega)).2,(ih l[k].Else (by omega)).2];have ew:wr ((wr ((wr ((wr ((v:Int)+1))+(nns l[k].L:Int)))+(nns l[k].Then:Int)))+(nns l[k].Else:Int))=((v+nn l[k]:Nat):Int):=by
   rw[Qg1 (n:=(v:Int)+1) (by omega) (by omega),Qg1 (n:=(v:Int)+1+(nns l[k].L:Int)) (by omega) (by omega),Qg1 (n:=(v:Int)+1+(nns l[k].L:Int)+(nns l[k].Then:Int)) (by omega) (by omega),Qg1 (by omega) (by omega),Qhg];omega
  rw[ew,ihk (v+nn l[k]) (by rw[Qhg]; omega),Qcc hk,nns];congr 2;omega
end
theorem rDC:∀ n (l:List Qab),n≤900000000→nns l≤n→Qe5 l=some (dps l:Int)∧Qdw l=some (nns l:Int):=by
 intro n
 induction n with
 | zero =>
  intro l _ h;have hl:l=[]:=List.eq_nil_of_length_eq_zero (by have:=Qfj l; omega);subst hl;rw[Qe5,Qdw,Qe6,Qd9];simp[dps,nns]
 | succ n ih =>
  intro l hn h;have h1:=Qarg n (by omega) (fun l hl=>ih l (by omega) hl) l h 0 (by omega) 0 (by omega);have h2:=Qapi n (by omega) (fun l hl=>ih l (by omega) hl) l h 0 (by omega) 0 (by rw[List.drop_zero]; omega);rw[Qe5,Qdw,show(0:Int)=((0:Nat):Int) from rfl,h1,h2];simp
def isP (l:List Qab):Bool:=decide (dps l≤12)&&(decide (nns l≤1024)&&Qbp l false)
theorem tIs(l:List Qab)(h:nns l≤800000000)(ho:allL okNd l):Q10 l=some (isP l):=by
 have e1:decide ((dps l:Int)≤12)=decide (dps l≤12):=leN _ 12;have e2:decide ((nns l:Int)≤1024)=decide (nns l≤1024):=leN _ 1024;have hb:=Qak1 800000000 (by omega) (fun x hx=>Qas0 800000000 x (by omega) hx) l h ho true;rw[Q10,Qas4 l (by omega),Qarf l (by omega),hb,isP];simp only[Qac,e1,e2];cases decide (dps l≤12)<;>cases decide (nns l≤1024)<;>rfl
theorem rIs(l:List Qab)(h:nns l≤800000000)(ho:allL okNd l):Qabz l=some (isP l):=by
 have e1:decide ((dps l:Int)≤12)=decide (dps l≤12):=leN _ 12;have e2:decide ((nns l:Int)≤1024)=decide (nns l≤1024):=leN _ 1024;have hb:=Qak2 800000000 (by omega) (fun x hx=>Qas1 800000000 x (by omega) hx) l h ho false;obtain⟨hd,hc⟩:=rDC 800000000 l (by omega) h;rw[Qabz,hd,hc,hb,isP];simp only[Qac,e1,e2];cases decide (dps l≤12)<;>cases decide (nns l≤1024)<;>cases Qbp l false<;>rfl
abbrev room:Nat:=100000000000
section
end
def Qcs(c:UInt8):Bool:=decide (128≤c.toNat)&&decide (c.toNat<192)
def Qjq(n:Nat):Bool:=decide (n≤1114111) && !(decide (55296≤n)&&decide (n≤57343))
def Qane(c:UInt8)(r:List UInt8):Nat×Nat :=
  if c.toNat<128 then(c.toNat,1)
  else if 192≤c.toNat∧c.toNat<224 then
   match r with
   | c1::_=>if Qcs c1=true∧128≤(c.toNat-192)*64+(c1.toNat-128) then((c.toNat-192)*64+(c1.toNat-128),2) else(65533,1)
   | _=>(65533,1)
  else if 224≤c.toNat∧c.toNat<240 then
   match r with
   | c1::c2::_=>if Qcs c1=true∧Qcs c2=true∧2048≤((c.toNat-224)*64+(c1.toNat-128))*64+(c2.toNat-128)∧Qjq (((c.toNat-224)*64+(c1.toNat-128))*64+(c2.toNat-128))=true then(((c.toNat-224)*64+(c1.toNat-128))*64+(c2.toNat-128),3) else(65533,1)
   | _=>(65533,1)
  else if 240≤c.toNat∧c.toNat<248 then
   match r with
   | c1::c2::c3::_=>if Qcs c1=true∧Qcs c2=true∧Qcs c3=true∧65536≤(((c.toNat-240)*64+(c1.toNat-128))*64+(c2.toNat-128))*64+(c3.toNat-128)∧Qjq ((((c.toNat-240)*64+(c1.toNat-128))*64+(c2.toNat-128))*64+(c3.toNat-128))=true then((((c.toNat-240)*64+(c1.toNat-128))*64+(c2.toNat-128))*64+(c3.toNat-128),4) else(65533,1)
   | _=>(65533,1)
  else(65533,1)
def Qk8:List UInt8→Nat×Nat
 | []=>(0,0)
 | c::r=>Qane c r
theorem Q2i{n:Int}(h1 : -2147483648≤n)(h2:n≤2147483647):IntKind.i32.wrap n=n:=by
 simp[IntKind.wrap,IntKind.bits,IntKind.signed];omega
theorem Qarh{n:Int}(h1:0≤n)(h2:n≤255):IntKind.u8.wrap n=n:=by
 simp[IntKind.wrap,IntKind.bits,IntKind.signed];omega
theorem Qas5:∀ c:Fin 256,bits .and .u8 ((c.1:Nat):Int) 63=((c.1 % 64:Nat):Int):=by decide +kernel
theorem Qari:∀ c:Fin 256,(bits .and .u8 ((c.1:Nat):Int) 192 != 128) = !(decide (128≤c.1)&&decide (c.1<192)):=by decide +kernel
theorem Qas6:∀ c:Fin 256,bits .and .u8 ((c.1:Nat):Int) 31=((c.1 % 32:Nat):Int):=by decide +kernel
theorem Qas7:∀ c:Fin 256,bits .and .u8 ((c.1:Nat):Int) 15=((c.1 % 16:Nat):Int):=by decide +kernel
theorem and7:∀ c:Fin 256,bits .and .u8 ((c.1:Nat):Int) 7=((c.1 % 8:Nat):Int):=by decide +kernel
theorem or64(a b:Nat)(ha:a<1000000)(hb:b<64):bits .or .i32 (IntKind.i32.wrap ((a:Int)*2 ^ (min (6:Int).toNat (IntKind.i32.bits)))) (IntKind.i32.wrap (b:Int))=((a*64+b:Nat):Int):=by
 have e1:IntKind.i32.wrap ((a:Int)*2 ^ (min (6:Int).toNat (IntKind.i32.bits)))=((a*64:Nat):Int):=by
  have:(min (6:Int).toNat (IntKind.i32.bits))=6:=rfl;rw[this,Q2i (by omega) (by omega)]; omega
 rw[e1,Q2i (by omega) (by omega)];have e2:(2:Nat) ^ 6*a+b=2 ^ 6*a ||| b:=Nat.two_pow_add_eq_or_of_lt (by omega) a
 have e3:a*64 ||| b=a*64+b:=by
  have:(2:Nat) ^ 6*a=a*64:=by omega
  rw[this] at e2; omega
 show IntKind.i32.wrap ((BitVec.ofInt 32 ((a*64:Nat):Int) ||| BitVec.ofInt 32 (b:Int)).toNat:Int)=_;rw[BitVec.toNat_or,BitVec.ofInt_natCast,BitVec.ofInt_natCast,BitVec.toNat_ofNat,BitVec.toNat_ofNat,Nat.mod_eq_of_lt (by omega),Nat.mod_eq_of_lt (by omega),e3,Q2i (by omega) (by omega)]
theorem b63(c:UInt8):bits .and .u8 (c.toNat:Int) 63=((c.toNat % 64:Nat):Int):=Qas5 ⟨c.toNat,c.toNat_lt⟩
theorem b192(c:UInt8):(bits .and .u8 (c.toNat:Int) 192 != 128) = !Qcs c:=Qari ⟨c.toNat,c.toNat_lt⟩
theorem b31(c:UInt8):bits .and .u8 (c.toNat:Int) 31=((c.toNat % 32:Nat):Int):=Qas6 ⟨c.toNat,c.toNat_lt⟩
theorem b15(c:UInt8):bits .and .u8 (c.toNat:Int) 15=((c.toNat % 16:Nat):Int):=Qas7 ⟨c.toNat,c.toNat_lt⟩
theorem b7(c:UInt8):bits .and .u8 (c.toNat:Int) 7=((c.toNat % 8:Nat):Int):=and7 ⟨c.toNat,c.toNat_lt⟩
theorem Qanf{c:UInt8}(h:Qcs c=true):c.toNat % 64=c.toNat-128:=by
 unfold Qcs at h;simp at h;omega
def Q2j:Nat→List UInt8→Nat→Option Nat
 | 0,_,v=>some v
 | _+1,[],_=>none
 | m+1,c::r,v=>if Qcs c=true then Q2j m r (v*64+(c.toNat-128)) else none
set_option maxRecDepth 20000 in
theorem Qarj(l:List UInt8)(m:Nat)(hm:m≤l.length)(hm3:m≤3):∀ (d k v:Nat),k+d=m→((k=0→v<64)∧(k≤1→v<4096)∧(k≤2→v<262144)) →
  Qh8 l m v k=some (match Q2j d (l.drop k) v with | some n =>.inl (n:Int) | none =>.inr ()):=by
 intro d
 induction d with
 | zero =>
  intro k v hk _;rw[Qh8,ltI,decide_eq_false (by omega:¬ k<m)];rfl
 | succ d ih =>
  intro k v hk hv;have hkl:k<l.length:=by omega
  have:decide ((k:Int)<(m:Int))=true:=decide_eq_true (by omega);rw[Qh8];simp only[this,if_true,Qa1,getE hkl,Qac,b192,b63];rw[or64 v _ (by omega) (Nat.mod_lt _ (by omega)),Qa3 (by omega),Qcc hkl];unfold Q2j;cases hc:Qcs l[k] with
  | false=>rfl
  | true =>
   rw[Qanf hc];have hlt:l[k].toNat-128<64:=by unfold Qcs at hc; simp at hc; omega
   have hv2:(k+1=0→v*64+(l[k].toNat-128)<64)∧(k+1≤1→v*64+(l[k].toNat-128)<4096)∧(k+1≤2→v*64+(l[k].toNat-128)<262144):=by omega
   simp only[Bool.not_true,Bool.false_eq_true,if_false,if_true];exact ih (k+1) _ (by omega) hv2
theorem Qas8(l:List UInt8)(m v:Nat)(hm3:m≤3)(hv:v<64):Qto l v m=some (match (if l.length<m then none else Q2j m l v) with | some n=>((n:Int),true) | none=>(0,false)):=by
 rw[Qto,ltI];by_cases h:l.length<m
 ·rw[decide_eq_true h,if_pos h]; rfl
 ·rw[decide_eq_false h,if_neg h];have:=Qarj l m (by omega) hm3 m 0 v (by omega) (by omega);rw[List.drop_zero] at this;rw[show(0:Int)=((0:Nat):Int) from rfl,this];cases Q2j m l v<;>rfl
theorem tIsR(n:Nat):Q5w (n:Int)=some (Qjq n):=by
 have a:decide ((n:Int) ≥ 0)=true:=decide_eq_true (by omega);have b:decide ((n:Int)≤1114111)=decide (n≤1114111):=by
  by_cases h:n≤1114111
  ·rw[decide_eq_true h,decide_eq_true (by omega)]
  ·rw[decide_eq_false h,decide_eq_false (by omega)]
 rw[Q5w,a,b,Qjq];by_cases h1:n<55296
 ·rw[decide_eq_true (show(n:Int)<55296 by omega),decide_eq_true (show n≤1114111 by omega),decide_eq_false (show ¬ 55296≤n by omega)]; rfl
 ·rw[decide_eq_false (show ¬ (n:Int)<55296 by omega),decide_eq_true (show 55296≤n by omega)];by_cases h2:n≤57343
  ·rw[decide_eq_false (show ¬ (n:Int)>57343 by omega),decide_eq_true h2,decide_eq_true (show n≤1114111 by omega)]; rfl
  ·rw[decide_eq_true (show(n:Int)>57343 by omega),decide_eq_false h2];cases decide (n≤1114111)<;>rfl
theorem rIsR(n:Nat):Qnt (n:Int)=some (Qjq n):=by
 have a:decide ((n:Int) ≥ 0)=true:=decide_eq_true (by omega);have b:decide ((n:Int)≤1114111)=decide (n≤1114111):=by
  by_cases h:n≤1114111
  ·rw[decide_eq_true h,decide_eq_true (by omega)]
  ·rw[decide_eq_false h,decide_eq_false (by omega)]
 have c:decide ((n:Int) ≥ 55296)=decide (55296≤n):=by
  by_cases h:55296≤n
  ·rw[decide_eq_true h,decide_eq_true (by omega)]
  ·rw[decide_eq_false h,decide_eq_false (by omega)]
 have d:decide ((n:Int)≤57343)=decide (n≤57343):=by
  by_cases h:n≤57343
  ·rw[decide_eq_true h,decide_eq_true (by omega)]
  ·rw[decide_eq_false h,decide_eq_false (by omega)]
 rw[Qnt,a,b,c,d,Qjq];cases decide (n≤1114111)<;>cases decide (55296≤n)<;>cases decide (n≤57343)<;>rfl
theorem ltC(c:UInt8)(k:Nat):decide ((c.toNat:Int)<(k:Int))=decide (c.toNat<k):=ltI _ _
theorem geC(c:UInt8)(k:Nat):decide ((c.toNat:Int) ≥ (k:Int))=decide (k≤c.toNat):=by
 by_cases h:k≤c.toNat
 ·rw[decide_eq_true h,decide_eq_true (by omega)]
 ·rw[decide_eq_false h,decide_eq_false (by omega)]
def endP(o:Option Nat)(least m:Nat):Nat×Nat:=match o with
 | some n=>if least≤n∧Qjq n=true then(n,m+1) else(65533,1)
 | none=>(65533,1)
set_option maxRecDepth 20000 in
theorem Qas9(s:List UInt8)(k:Nat)(hk:k<s.length)(hs:s.length<9223372036854775807):Qwl s k=some (((Qk8 (s.drop k)).1:Int),((Qk8 (s.drop k)).2:Int)):=by
 have d1:decide ((k:Int)<0)=false:=decide_eq_false (by omega);have d2:decide ((k:Int) ≥ (s.length:Int))=false:=decide_eq_false (by omega);have hc:=s[k].toNat_lt;have hr:cutL s (wr ((k:Int)+1)) (s.length:Int)=some (s.drop (k+1)):=by
  rw[Qa3 (by omega),Qmq (by omega) (by omega) (by omega)];simp
 rw[Qwl,d1,d2,hr,Qcc hk];have l128:=ltC s[k] 128;have g192:=geC s[k] 192;have l224:=ltC s[k] 224;have g224:=geC s[k] 224;have l240:=ltC s[k] 240;have g240:=geC s[k] 240;have l248:=ltC s[k] 248;have b1:∀ a b:Bool,(if a=true then some b else some false:Option Bool)=some (a&&b):=fun a b=>by cases a<;>rfl
 simp only[Bool.false_eq_true,if_false,Qac,Qa1,getE hk];rw[show(128:Int)=((128:Nat):Int) from rfl,show(192:Int)=((192:Nat):Int) from rfl,show(224:Int)=((224:Nat):Int) from rfl,show(240:Int)=((240:Nat):Int) from rfl,show(248:Int)=((248:Nat):Int) from rfl,l128,g192,l224,g224,l240,g240,l248];simp only[b1,Qac];rw[Qk8];unfold Qane;have fin:∀ (v least m:Nat),m≤3→v<64→(Qto (s.drop (k+1)) (v:Int) (m:Int)>>=fun x10 =>
   (if(!x10.2)=true then some true else if decide (x10.1<(least:Int))=true then some true else Q5w x10.1>>=fun x12=>some (!x12):Option Bool)>>=fun o11 =>
   if o11=true then some ((65533:Int),(1:Int)) else some (x10.1,wr ((m:Int)+1))) =
   some (((endP (if(s.drop (k+1)).length<m then none else Q2j m (s.drop (k+1)) v) least m).1:Int),((endP (if(s.drop (k+1)).length<m then none else Q2j m (s.drop (k+1)) v) least m).2:Int)):=fun v least m hm hv=>by
  rw[Qas8 _ m v hm hv];cases (if(s.drop (k+1)).length<m then none else Q2j m (s.drop (k+1)) v) with
  | none=>rfl
  | some n =>
   simp only[Qac,Bool.not_true,Bool.false_eq_true,if_false,ltI,tIsR,endP];by_cases h1:n<least
   ·rw[decide_eq_true h1,if_neg (fun h=>absurd h.1 (by omega):¬ (least≤n∧Qjq n=true))]; rfl
   ·rw[decide_eq_false h1];cases hrn:Qjq n with
    | true=>rw[if_pos (⟨by omega,rfl⟩:least≤n∧true=true),Qa3 (by omega)]; rfl
    | false=>rw[if_neg (fun h=>by cases h.2:¬ (least≤n∧false=true))]; rfl
 by_cases h1:s[k].toNat<128
 ·rw[decide_eq_true h1,if_pos h1];simp only[if_true,Qac];rw[Q2i (by omega) (by omega)]; rfl
 rw[decide_eq_false h1,if_neg h1];simp only[Bool.false_eq_true,if_false];have cc:∀ c:UInt8,Qcs c=true→c.toNat-128<64:=fun c h=>by unfold Qcs at h; simp at h; omega
 by_cases h2:192≤s[k].toNat∧s[k].toNat<224
 ·rw[decide_eq_true h2.1,decide_eq_true h2.2,if_pos h2,b31];simp only[Bool.and_true,if_true,Qac];rw[Q2i (by omega) (by omega)];have f:=fin (s[k].toNat % 32) 128 1 (by omega) (by omega);rw[show((1:Nat):Int)=1 from rfl] at f;rw[f];have e:s[k].toNat % 32=s[k].toNat-192:=by omega
  rw[e];cases s.drop (k+1) with
  | nil=>rfl
  | cons c1 r1 =>
   simp only[List.length_cons,if_neg (by omega:¬ r1.length+1<1),Q2j];cases h:Qcs c1 with
   | false=>rfl
   | true =>
    have:=cc c1 h;have hr:Qjq ((s[k].toNat-192)*64+(c1.toNat-128))=true:=by unfold Qjq; rw[decide_eq_true (by omega),decide_eq_false (by omega)]; rfl
    simp only[if_true,endP,hr,and_true,true_and]
 rw[if_neg h2];have d2:(decide (192≤s[k].toNat)&&decide (s[k].toNat<224))=false:=by
  rw[Bool.and_eq_false_iff];by_cases h:192≤s[k].toNat
  ·exact .inr (decide_eq_false (by omega))
  ·exact .inl (decide_eq_false h)
 rw[d2];simp only[Bool.false_eq_true,if_false];by_cases h3:224≤s[k].toNat∧s[k].toNat<240
 ·rw[decide_eq_true h3.1,decide_eq_true h3.2,if_pos h3,b15];simp only[Bool.and_true,if_true,Qac];rw[Q2i (by omega) (by omega)];have f:=fin (s[k].toNat % 16) 2048 2 (by omega) (by omega);rw[show((2:Nat):Int)=2 from rfl,show((2048:Nat):Int)=2048 from rfl] at f;rw[f];have e:s[k].toNat % 16=s[k].toNat-224:=by omega
  rw[e]
  match s.drop (k+1) with
  | []=>rfl
  | [c1]=>rfl
  | c1::c2::r1 =>
   simp only[List.length_cons,if_neg (by omega:¬ r1.length+1+1<2),Q2j];cases h:Qcs c1 with
   | false=>rfl
   | true =>
    cases h' : Qcs c2 with
    | false=>simp[endP]
    | true=>simp only[if_true,endP,true_and]
 rw[if_neg h3];have d3:(decide (224≤s[k].toNat)&&decide (s[k].toNat<240))=false:=by
  rw[Bool.and_eq_false_iff];by_cases h:224≤s[k].toNat
  ·exact .inr (decide_eq_false (by omega))
  ·exact .inl (decide_eq_false h)
 rw[d3];simp only[Bool.false_eq_true,if_false];by_cases h4:240≤s[k].toNat∧s[k].toNat<248
 ·rw[decide_eq_true h4.1,decide_eq_true h4.2,if_pos h4,b7];simp only[Bool.and_true,if_true,Qac];rw[Q2i (by omega) (by omega)];have f:=fin (s[k].toNat % 8) 65536 3 (by omega) (by omega);rw[show((3:Nat):Int)=3 from rfl,show((65536:Nat):Int)=65536 from rfl] at f;rw[f];have e:s[k].toNat % 8=s[k].toNat-240:=by omega
  rw[e]
  match s.drop (k+1) with
  | []=>rfl
  | [c1]=>rfl
  | [c1,c2]=>rfl
  | c1::c2::c3::r1 =>
   simp only[List.length_cons,if_neg (by omega:¬ r1.length+1+1+1<3),Q2j];cases h:Qcs c1 with
   | false=>rfl
   | true =>
    cases h' : Qcs c2 with
    | false=>simp[endP]
    | true =>
     cases h'' : Qcs c3 with
     | false=>simp[endP]
     | true=>simp only[if_true,endP,true_and]
 rw[if_neg h4];have d4:(decide (240≤s[k].toNat)&&decide (s[k].toNat<248))=false:=by
  rw[Bool.and_eq_false_iff];by_cases h:240≤s[k].toNat
  ·exact .inr (decide_eq_false (by omega))
  ·exact .inl (decide_eq_false h)
 rw[d4];rfl
theorem Q5z(l:List UInt8)(h:l≠[]):1≤(Qk8 l).2∧(Qk8 l).2≤l.length:=by
 cases l with
 | nil=>exact absurd rfl h
 | cons c r =>
  rw[Qk8];unfold Qane;split
  ·simp
  ·split
   ·split
    ·split<;>simp
    ·simp
   ·split
    ·split
     ·split<;>simp
     ·simp
    ·split
     ·split
      ·split<;>simp
      ·simp
     ·simp
def Qq3(n:Nat):List Nat :=
 if n<128 then [n] else if n<2048 then [192+n / 64,128+n % 64] else if n<65536 then [224+n / 4096,128+n / 64 % 64,128+n % 64] else [240+n / 262144,128+n / 4096 % 64,128+n / 64 % 64,128+n % 64]
theorem Qang(l:List Nat)(h:∀ x ∈ l,x<256)(m:List UInt8):(l.map UInt8.ofNat==m)=decide (l=m.map UInt8.toNat):=by
 have key:l.map UInt8.ofNat=m↔l=m.map UInt8.toNat:=by
  constructor
  ·intro e;subst e;rw[List.map_map]
   conv=>lhs; rw[← List.map_id l]
   refine List.map_congr_left fun x hx=>?_
   have:=h x hx;show x=(UInt8.ofNat x).toNat
   rw[UInt8.toNat_ofNat', Nat.mod_eq_of_lt this]
  ·intro e;subst e;rw[List.map_map]
   conv=>rhs; rw[← List.map_id m]
   exact List.map_congr_left fun x _=>by simp
 by_cases he:l.map UInt8.ofNat=m
 ·rw[decide_eq_true (key.1 he),beq_iff_eq]; exact he
 ·rw[decide_eq_false (fun k=>he (key.2 k)),beq_eq_false_iff_ne]; exact he
theorem Qagj(l:List Nat)(h:∀ x ∈ l,x<256):b2s (l.map fun x:Nat=>(x:Int))=some (l.map UInt8.ofNat):=by
 unfold b2s;rw[if_pos]
 ·rw[List.map_map]; rfl
 ·rw[List.all_eq_true];intro n hn;obtain⟨x,hx,rfl⟩:=List.mem_map.1 hn;have:=h x hx;simp only[decide_eq_true_eq];omega
theorem td(n k:Nat):((n:Int).tdiv (k:Int))=((n / k:Nat):Int):=by rw[Int.tdiv_eq_ediv_of_nonneg (by omega)]; rfl
theorem tm(n k:Nat):((n:Int).tmod (k:Int))=((n % k:Nat):Int):=by rw[Int.tmod_eq_emod_of_nonneg (by omega)]; rfl
theorem wrN(n:Nat)(h:n<9000000000000):wr (n:Int)=(n:Int):=Qg1 (by omega) (by omega)
theorem u8N(n:Nat)(h:n<256):IntKind.u8.wrap (n:Int)=(n:Int):=Qarh (by omega) (by omega)
set_option maxRecDepth 20000 in
theorem Qark(n:Nat)(h:Qjq n=true):Qm6 (n:Int)=some ((Qq3 n).map UInt8.ofNat):=by
 have hn:n≤1114111:=by unfold Qjq at h; rw[Bool.and_eq_true] at h; exact of_decide_eq_true h.1
 have a1:decide ((n:Int)<128)=decide (n<128):=ltI n 128;have a2:decide ((n:Int)<2048)=decide (n<2048):=ltI n 2048;have a3:decide ((n:Int)<65536)=decide (n<65536):=ltI n 65536;have d64:(n:Int).tdiv 64=((n / 64:Nat):Int):=td n 64;have m64:(n:Int).tmod 64=((n % 64:Nat):Int):=tm n 64;have d4096:(n:Int).tdiv 4096=((n / 4096:Nat):Int):=td n 4096;have d262:(n:Int).tdiv 262144=((n / 262144:Nat):Int):=td n 262144;have w1:∀ a b:Nat,a+b<256→IntKind.u8.wrap (wr ((a:Int)+(b:Int)))=((a+b:Nat):Int):=fun a b h=>by
  rw[Qg1 (by omega) (by omega),Qarh (by omega) (by omega)]; rfl
 rw[Qm6,rIsR,h];simp only[Qac,Bool.not_true,Bool.false_eq_true,if_false,a1,a2,a3,d64,m64,d4096,d262];rw[wrN (n / 64) (by omega),wrN (n / 4096) (by omega),wrN (n / 262144) (by omega)];have t64:(((n / 64:Nat):Int)).tmod 64=((n / 64 % 64:Nat):Int):=tm (n / 64) 64;have t4096:(((n / 4096:Nat):Int)).tmod 64=((n / 4096 % 64:Nat):Int):=tm (n / 4096) 64;rw[t64,t4096];unfold Qq3;by_cases h1:n<128
 ·rw[decide_eq_true h1,if_pos h1,u8N n (by omega)];simp only[if_true];have:=Qagj [n] (by simp; omega);simp only[List.map_cons,List.map_nil] at this;rw[this]; rfl
 rw[decide_eq_false h1,if_neg h1];by_cases h2:n<2048
 ·rw[decide_eq_true h2,if_pos h2];have e1:=w1 192 (n / 64) (by omega);have e2:=w1 128 (n % 64) (by omega);have:=Qagj [192+n / 64,128+n % 64] (by simp; omega);simp only[List.map_cons,List.map_nil] at this;simp only[Bool.false_eq_true,if_false,if_true];rw[show(192:Int)=((192:Nat):Int) from rfl,show(128:Int)=((128:Nat):Int) from rfl,e1,e2,this]; rfl
 rw[decide_eq_false h2,if_neg h2];by_cases h3:n<65536
 ·rw[decide_eq_true h3,if_pos h3];have e1:=w1 224 (n / 4096) (by omega);have e2:=w1 128 (n / 64 % 64) (by omega);have e3:=w1 128 (n % 64) (by omega);have:=Qagj [224+n / 4096,128+n / 64 % 64,128+n % 64] (by simp; omega);simp only[List.map_cons,List.map_nil] at this;simp only[Bool.false_eq_true,if_false,if_true];rw[show(224:Int)=((224:Nat):Int) from rfl,show(128:Int)=((128:Nat):Int) from rfl,e1,e2,e3,this]; rfl
 rw[decide_eq_false h3,if_neg h3];have e0:=w1 240 (n / 262144) (by omega);have e1:=w1 128 (n / 4096 % 64) (by omega);have e2:=w1 128 (n / 64 % 64) (by omega);have e3:=w1 128 (n % 64) (by omega);have:=Qagj [240+n / 262144,128+n / 4096 % 64,128+n / 64 % 64,128+n % 64] (by simp; omega);simp only[List.map_cons,List.map_nil] at this;simp only[Bool.false_eq_true,if_false];rw[show(240:Int)=((240:Nat):Int) from rfl,show(128:Int)=((128:Nat):Int) from rfl,e0,e1,e2,e3,this]; rfl
theorem Qak5(n:Nat)(h:n≤1114111):∀ x ∈ Qq3 n,x<256:=by
 unfold Qq3;split
 ·simp; omega
 ·split
  ·simp; omega
  ·split<;>simp<;>omega
theorem Qata(s:List UInt8)(k m:Nat)(hm:k+m≤s.length)(hs:s.length<9000000000000)(n:Int) :
  ( if(decide (n ≥ 0))=true then
    Qnt n>>=fun x11 =>
    if x11=true then
     Qm6 n>>=fun x12 =>
     cutL s k (wr ((k:Int)+m))>>=fun x13 =>
     some (x12==x13)
    else
     some false
   else
    some false:Option Bool)=some (decide (0≤n)&&(Qjq n.toNat&&decide (Qq3 n.toNat=((s.take (k+m)).drop k).map UInt8.toNat))):=by
 have e:wr ((k:Int)+m)=((k+m:Nat):Int):=by rw[Qg1 (by omega) (by omega)]; rfl
 by_cases h:0≤n
 ·obtain⟨v,rfl⟩:∃ v:Nat,n=v:=⟨n.toNat,by omega⟩;rw[decide_eq_true (show(v:Int) ≥ 0 by omega),rIsR,e,Qmq (by omega) (by omega) (by omega)];simp only[if_true,Qac,Int.toNat_natCast,Bool.true_and];cases hr:Qjq v with
  | false=>rfl
  | true =>
   have hv:v≤1114111:=by unfold Qjq at hr; rw[Bool.and_eq_true] at hr; exact of_decide_eq_true hr.1
   rw[Qark v hr];simp only[if_true,Qac,Qang _ (Qak5 v hv),Bool.true_and]
 ·rw[decide_eq_false (show ¬ n ≥ 0 from h)]; rfl
theorem wr64(a b:Int)(ha : -3000000≤a)(ha2:a≤3000000)(hb:0≤b)(hb2:b≤255):wr ((wr ((wr (64*a))+(wr b)))-128)=64*a+b-128:=by
 rw[Qg1 (n:=64*a) (by omega) (by omega),Qg1 (n:=b) (by omega) (by omega),Qg1 (n:=64*a+b) (by omega) (by omega),Qg1 (by omega) (by omega)]
def addN(a:Int)(c:UInt8):Int:=64*a+c.toNat-128
theorem rL2(s:List UInt8)(k:Nat)(v6:List Int)(m:Nat)(hm:k+m≤s.length)(hm4:m≤4)(hs:s.length<9000000000000):∀ d (i:Nat) (v:Int),i+d=m→1≤i→(i=1 → -300≤v∧v≤300)→(i=2 → -30000≤v∧v≤30000)→(i=3 → -3000000≤v∧v≤3000000) →
  Qee s k v6 m v i=some (((s.drop (k+i)).take d).foldl addN v):=by
 intro d
 induction d with
 | zero =>
  intro i v hi _ _ _ _;rw[Qee,ltI,decide_eq_false (by omega:¬ i<m)];simp
 | succ d ih =>
  intro i v hi hi1 h1 h2 h3;have hk:k+i<s.length:=by omega
  have e1:wr ((k:Int)+i)=((k+i:Nat):Int):=by rw[Qg1 (by omega) (by omega)]; rfl
  have hc:=s[k+i].toNat_lt;have hb : -3000000≤v∧v≤3000000:=by omega
  rw[Qee,ltI,decide_eq_true (by omega:i<m),e1,Qa3 (by omega)];simp only[if_true,Qa1,getE hk,Qac];rw[wr64 v _ hb.1 hb.2 (by omega) (by omega),Qcc hk,List.take_succ_cons,List.foldl_cons];exact ih (i+1) (addN v s[k+i]) (by omega) (by omega) (by omega) (by unfold addN; omega) (by unfold addN; omega)
def Q2k:List Int:=[0,0,192,224,240]
def numN(c:UInt8)(r:List UInt8)(m:Nat):Int:=(r.take (m-1)).foldl addN ((c.toNat:Int)-(Q2k[m]?.getD 0))
def tstB(c:UInt8)(r:List UInt8)(m:Nat):Bool:=decide (0≤numN c r m)&&(Qjq (numN c r m).toNat&&decide (Qq3 (numN c r m).toNat=((c::r).take m).map UInt8.toNat))
theorem rL1(s:List UInt8)(k:Nat)(hk:k<s.length)(hs:s.length<9000000000000)(m:Nat)(h1:1≤m)(h4:m≤4) :
  Qc4 s k Q2k m=if k+m≤s.length then(if tstB s[k] (s.drop (k+1)) m=true then some (.inr (numN s[k] (s.drop (k+1)) m,(m:Int))) else Qc4 s k Q2k ((m+1:Nat):Int)) else some (.inl ()):=by
 have e0:wr ((s.length:Int)-k)=((s.length-k:Nat):Int):=by rw[Qg1 (by omega) (by omega)]; omega
 have a4:decide ((m:Int)≤4)=true:=decide_eq_true (by omega);have hc:=s[k].toNat_lt;rw[Qc4,e0,a4];by_cases hm:k+m≤s.length
 ·have a5:decide ((m:Int)≤((s.length-k:Nat):Int))=true:=decide_eq_true (by omega);obtain⟨ld,hld,hl0,hl1⟩:∃ ld:Int,Q2k[m]? = some ld∧0≤ld∧ld≤240:=by
   match m,h1,h4 with
   | 1,_,_=>exact⟨0,rfl,by omega,by omega⟩
   | 2,_,_=>exact⟨192,rfl,by omega,by omega⟩
   | 3,_,_=>exact⟨224,rfl,by omega,by omega⟩
   | 4,_,_=>exact⟨240,rfl,by omega,by omega⟩
  have ew:wr ((wr (s[k].toNat:Int))-ld)=(s[k].toNat:Int)-ld:=by rw[Qg1 (n:=(s[k].toNat:Int)) (by omega) (by omega),Qg1 (by omega) (by omega)]
  have h2:=rL2 s k Q2k m hm h4 hs (m-1) 1 ((s[k].toNat:Int)-ld) (by omega) (by omega) (by omega) (by omega) (by omega);have en:numN s[k] (s.drop (k+1)) m=((s.drop (k+1)).take (m-1)).foldl addN ((s[k].toNat:Int)-ld):=by rw[numN,hld]; rfl
  rw[← en,show((1:Nat):Int)=1 from rfl] at h2;have ht:=Qata s k m hm hs (numN s[k] (s.drop (k+1)) m);have et:((s.take (k+m)).drop k)=((s[k]::s.drop (k+1)).take m):=by rw[← Qcc hk,List.drop_take]; congr 1; omega
  rw[et] at ht;rw[a5,if_pos hm,Qa3 (by omega)];simp only[if_true,Qac,Qa1,getE hk,hld,ew,h2];rw[ht];rfl
 ·have a5:decide ((m:Int)≤((s.length-k:Nat):Int))=false:=decide_eq_false (by omega);rw[a5,if_neg hm];rfl
theorem tst1(c:UInt8)(r:List UInt8):tstB c r 1=decide (c.toNat<128)∧numN c r 1=(c.toNat:Int):=by
 have hc:=c.toNat_lt;have en:numN c r 1=(c.toNat:Int):=by simp[numN,Q2k]
 refine⟨?_,en⟩;have hr:Qjq c.toNat=true:=by unfold Qjq; rw[decide_eq_true (by omega),decide_eq_false (by omega)]; rfl
 rw[tstB,en,decide_eq_true (by omega),Int.toNat_natCast,hr];simp only[Bool.true_and,List.take_succ_cons,List.take_zero,List.map_cons,List.map_nil];unfold Qq3;by_cases h:c.toNat<128
 ·rw[decide_eq_true h,if_pos h]; simp
 ·rw[decide_eq_false h,if_neg h,if_pos (by omega)];simp
theorem tst2(c c1:UInt8)(r:List UInt8):tstB c (c1::r) 2=decide ((192≤c.toNat∧c.toNat<224)∧Qcs c1=true∧128≤(c.toNat-192)*64+(c1.toNat-128))∧numN c (c1::r) 2=64*((c.toNat:Int)-192)+c1.toNat-128:=by
 have hc:=c.toNat_lt;have hc1:=c1.toNat_lt;have en:numN c (c1::r) 2=64*((c.toNat:Int)-192)+c1.toNat-128:=by simp[numN,Q2k,addN]
 refine⟨?_,en⟩;rw[tstB,en];simp only[List.take_succ_cons,List.take_zero,List.map_cons,List.map_nil];have hcont:Qcs c1=true↔(128≤c1.toNat∧c1.toNat<192):=by unfold Qcs; simp
 by_cases hn:0≤64*((c.toNat:Int)-192)+c1.toNat-128
 ·obtain⟨n,hn2⟩:∃ n:Nat,64*((c.toNat:Int)-192)+c1.toNat-128=n:=⟨(64*((c.toNat:Int)-192)+c1.toNat-128).toNat,by omega⟩;rw[hn2,Int.toNat_natCast,decide_eq_true (by omega),Bool.true_and];have hlt:n<5000:=by omega
  have hr:Qjq n=true:=by unfold Qjq; rw[decide_eq_true (by omega),decide_eq_false (by omega)]; rfl
  rw[hr,Bool.true_and];congr 1;apply propext;rw[hcont];unfold Qq3;by_cases h1:n<128
  ·rw[if_pos h1];constructor
   ·intro h; simp at h
   ·intro h; omega
  ·rw[if_neg h1];by_cases h2:n<2048
   ·rw[if_pos h2];simp only[List.cons.injEq,and_true];omega
   ·rw[if_neg h2,if_pos (by omega)];constructor
    ·intro h; simp at h
    ·intro h; omega
 ·rw[decide_eq_false hn,Bool.false_and,decide_eq_false];rw[hcont]; omega
theorem tst3(c c1 c2:UInt8)(r:List UInt8):tstB c (c1::c2::r) 3=decide ((224≤c.toNat∧c.toNat<240)∧Qcs c1=true∧Qcs c2=true∧2048≤((c.toNat-224)*64+(c1.toNat-128))*64+(c2.toNat-128)∧Qjq (((c.toNat-224)*64+(c1.toNat-128))*64+(c2.toNat-128))=true) ∧
  numN c (c1::c2::r) 3=64*(64*((c.toNat:Int)-224)+c1.toNat-128)+c2.toNat-128:=by
 have hc:=c.toNat_lt;have hc1:=c1.toNat_lt;have hc2:=c2.toNat_lt;have en:numN c (c1::c2::r) 3=64*(64*((c.toNat:Int)-224)+c1.toNat-128)+c2.toNat-128:=by simp[numN,Q2k,addN]
 refine⟨?_,en⟩;rw[tstB,en];simp only[List.take_succ_cons,List.take_zero,List.map_cons,List.map_nil];have hcont:Qcs c1=true↔(128≤c1.toNat∧c1.toNat<192):=by unfold Qcs; simp
 have hcont2:Qcs c2=true↔(128≤c2.toNat∧c2.toNat<192):=by unfold Qcs; simp
 by_cases hn:0≤64*(64*((c.toNat:Int)-224)+c1.toNat-128)+c2.toNat-128
 ·obtain⟨n,hn2⟩:∃ n:Nat,64*(64*((c.toNat:Int)-224)+c1.toNat-128)+c2.toNat-128=n:=⟨(64*(64*((c.toNat:Int)-224)+c1.toNat-128)+c2.toNat-128).toNat,by omega⟩;rw[hn2,Int.toNat_natCast,decide_eq_true (by omega),Bool.true_and];have hlt:n<200000:=by omega
  have key:Qq3 n=[c.toNat,c1.toNat,c2.toNat]↔((224≤c.toNat∧c.toNat<240)∧(128≤c1.toNat∧c1.toNat<192)∧(128≤c2.toNat∧c2.toNat<192)∧2048≤n):=by
   unfold Qq3;by_cases h1:n<128
   ·rw[if_pos h1];exact⟨fun h=>by simp at h,fun h=>by omega⟩
   rw[if_neg h1];by_cases h2:n<2048
   ·rw[if_pos h2];exact⟨fun h=>by simp at h,fun h=>by omega⟩
   rw[if_neg h2];by_cases h3:n<65536
   ·rw[if_pos h3];simp only[List.cons.injEq,and_true];omega
   ·rw[if_neg h3];exact⟨fun h=>by simp at h,fun h=>by omega⟩
  rw[Bool.eq_iff_iff];simp only[Bool.and_eq_true,decide_eq_true_eq];rw[key,hcont,hcont2];constructor
  ·rintro ⟨hr,a,b,c', d⟩;have e:((c.toNat-224)*64+(c1.toNat-128))*64+(c2.toNat-128)=n:=by omega
   exact⟨a,b,c', by omega,by rw[e]; exact hr⟩
  ·rintro ⟨a,b,c', d,hr⟩;have e:((c.toNat-224)*64+(c1.toNat-128))*64+(c2.toNat-128)=n:=by omega
   rw[e] at hr d;exact⟨hr,a,b,c', d⟩
 ·rw[decide_eq_false hn,Bool.false_and,decide_eq_false];rw[hcont,hcont2]; omega
theorem tst4(c c1 c2 c3:UInt8)(r:List UInt8):tstB c (c1::c2::c3::r) 4=decide ((240≤c.toNat∧c.toNat<248)∧Qcs c1=true∧Qcs c2=true∧Qcs c3=true∧65536≤(((c.toNat-240)*64+(c1.toNat-128))*64+(c2.toNat-128))*64+(c3.toNat-128)∧Qjq ((((c.toNat-240)*64+(c1.toNat-128))*64+(c2.toNat-128))*64+(c3.toNat-128))=true) ∧
  numN c (c1::c2::c3::r) 4=64*(64*(64*((c.toNat:Int)-240)+c1.toNat-128)+c2.toNat-128)+c3.toNat-128:=by
 have hc:=c.toNat_lt;have hc1:=c1.toNat_lt;have hc2:=c2.toNat_lt;have hc3:=c3.toNat_lt;have en:numN c (c1::c2::c3::r) 4=64*(64*(64*((c.toNat:Int)-240)+c1.toNat-128)+c2.toNat-128)+c3.toNat-128:=by simp[numN,Q2k,addN]
 refine⟨?_,en⟩;rw[tstB,en];simp only[List.take_succ_cons,List.take_zero,List.map_cons,List.map_nil];have hcont:Qcs c1=true↔(128≤c1.toNat∧c1.toNat<192):=by unfold Qcs; simp
 have hcont2:Qcs c2=true↔(128≤c2.toNat∧c2.toNat<192):=by unfold Qcs; simp
 have hcont3:Qcs c3=true↔(128≤c3.toNat∧c3.toNat<192):=by unfold Qcs; simp
 by_cases hn:0≤64*(64*(64*((c.toNat:Int)-240)+c1.toNat-128)+c2.toNat-128)+c3.toNat-128
 ·obtain⟨n,hn2⟩:∃ n:Nat,64*(64*(64*((c.toNat:Int)-240)+c1.toNat-128)+c2.toNat-128)+c3.toNat-128=n:=⟨(64*(64*(64*((c.toNat:Int)-240)+c1.toNat-128)+c2.toNat-128)+c3.toNat-128).toNat,by omega⟩;rw[hn2,Int.toNat_natCast,decide_eq_true (by omega),Bool.true_and];have key:Qjq n=true→(Qq3 n=[c.toNat,c1.toNat,c2.toNat,c3.toNat]↔((240≤c.toNat∧c.toNat<248)∧(128≤c1.toNat∧c1.toNat<192)∧(128≤c2.toNat∧c2.toNat<192)∧(128≤c3.toNat∧c3.toNat<192)∧65536≤n)):=fun hr=>by
   have hlt:n≤1114111:=by unfold Qjq at hr; rw[Bool.and_eq_true] at hr; exact of_decide_eq_true hr.1
   unfold Qq3;by_cases h1:n<128
   ·rw[if_pos h1];exact⟨fun h=>by simp at h,fun h=>by omega⟩
   rw[if_neg h1];by_cases h2:n<2048
   ·rw[if_pos h2];exact⟨fun h=>by simp at h,fun h=>by omega⟩
   rw[if_neg h2];by_cases h3:n<65536
   ·rw[if_pos h3];exact⟨fun h=>by simp at h,fun h=>by omega⟩
   ·rw[if_neg h3];simp only[List.cons.injEq,and_true];omega
  rw[Bool.eq_iff_iff];simp only[Bool.and_eq_true,decide_eq_true_eq];rw[hcont,hcont2,hcont3];constructor
  ·rintro ⟨hr,hb⟩;obtain⟨a,b,c', d', d⟩:=(key hr).1 hb;have e:(((c.toNat-240)*64+(c1.toNat-128))*64+(c2.toNat-128))*64+(c3.toNat-128)=n:=by omega
   exact⟨a,b,c', d', by omega,by rw[e]; exact hr⟩
  ·rintro ⟨a,b,c', d', d,hr⟩;have e:(((c.toNat-240)*64+(c1.toNat-128))*64+(c2.toNat-128))*64+(c3.toNat-128)=n:=by omega
   rw[e] at hr d;exact⟨hr,(key hr).2 ⟨a,b,c', d', d⟩⟩
 ·rw[decide_eq_false hn,Bool.false_and,decide_eq_false];rw[hcont,hcont2,hcont3]; omega
theorem Qatb(s:List UInt8)(k:Nat)(hk:k<s.length)(hs:s.length<9000000000000):Ql6 s k=some (((Qk8 (s.drop k)).1:Int),((Qk8 (s.drop k)).2:Int)):=by
 have d1:decide ((k:Int)<0)=false:=decide_eq_false (by omega);have d2:decide ((k:Int) ≥ (s.length:Int))=false:=decide_eq_false (by omega);have hc:=s[k].toNat_lt;have l1:=rL1 s k hk hs 1 (by omega) (by omega);have l2:=rL1 s k hk hs 2 (by omega) (by omega);have l3:=rL1 s k hk hs 3 (by omega) (by omega);have l4:=rL1 s k hk hs 4 (by omega) (by omega);have l5:Qc4 s k Q2k ((4+1:Nat):Int)=some (.inl ()):=by
  rw[Qc4,show decide (((4+1:Nat):Int)≤4)=false from rfl];simp only[Bool.false_eq_true,if_false,Qac]
 have hdl:(s.drop (k+1)).length=s.length-(k+1):=List.length_drop;rw[Ql6,d1,d2,Qcc hk,Qk8];show(Qc4 s k Q2k ((1:Nat):Int)>>=_)=_;rw[l1,if_pos (by omega),(tst1 _ _).1,(tst1 _ _).2,l2];unfold Qane;by_cases h1:s[k].toNat<128
 ·rw[decide_eq_true h1,if_pos rfl,if_pos h1]; rfl
 rw[decide_eq_false h1,if_neg (by decide),if_neg h1];generalize hr:s.drop (k+1)=r at *
 match r with
 | [] =>
  simp at hdl;rw[if_neg (by omega)];simp
 | [c1] =>
  simp at hdl;have hc1:=c1.toNat_lt;rw[if_pos (by omega),(tst2 _ _ _).1,(tst2 _ _ _).2,l3,if_neg (by omega:¬ k+3≤s.length)];dsimp only;by_cases h2:192≤s[k].toNat∧s[k].toNat<224
  ·rw[if_pos h2];by_cases h3:Qcs c1=true∧128≤(s[k].toNat-192)*64+(c1.toNat-128)
   ·have h4:128≤c1.toNat:=by have:=h3.1; unfold Qcs at this; simp at this; exact this.1
    rw[decide_eq_true ⟨h2,h3⟩,if_pos rfl,if_pos h3];simp only[Qac];congr 2;omega
   ·rw[decide_eq_false (fun h=>h3 h.2),if_neg (by decide),if_neg h3]; rfl
  ·rw[decide_eq_false (fun h=>h2 h.1),if_neg (by decide),if_neg h2];simp
 | [c1,c2] =>
  simp at hdl;have hc1:=c1.toNat_lt;have hc2:=c2.toNat_lt;rw[if_pos (by omega),(tst2 _ _ _).1,(tst2 _ _ _).2,l3,if_pos (by omega:k+3≤s.length),(tst3 _ _ _ _).1,(tst3 _ _ _ _).2,l4,if_neg (by omega:¬ k+4≤s.length)];dsimp only;by_cases h2:192≤s[k].toNat∧s[k].toNat<224
  ·rw[if_pos h2];by_cases h3:Qcs c1=true∧128≤(s[k].toNat-192)*64+(c1.toNat-128)
   ·have h4:128≤c1.toNat:=by have:=h3.1; unfold Qcs at this; simp at this; exact this.1
    rw[decide_eq_true ⟨h2,h3⟩,if_pos rfl,if_pos h3];simp only[Qac];congr 2;omega
   ·rw[decide_eq_false (fun h=>h3 h.2),if_neg (by decide),if_neg h3,decide_eq_false (fun h=>by have:=h.1; omega),if_neg (by decide)]; rfl
  ·rw[decide_eq_false (fun h=>h2 h.1),if_neg (by decide),if_neg h2];by_cases h5:224≤s[k].toNat∧s[k].toNat<240
   ·rw[if_pos h5];by_cases h6:Qcs c1=true∧Qcs c2=true∧2048≤((s[k].toNat-224)*64+(c1.toNat-128))*64+(c2.toNat-128)∧Qjq (((s[k].toNat-224)*64+(c1.toNat-128))*64+(c2.toNat-128))=true
    ·have h4:128≤c1.toNat:=by have:=h6.1; unfold Qcs at this; simp at this; exact this.1
     have h4' : 128≤c2.toNat:=by have:=h6.2.1; unfold Qcs at this; simp at this; exact this.1
     rw[decide_eq_true ⟨h5,h6⟩,if_pos rfl,if_pos h6];simp only[Qac];congr 2;omega
    ·rw[decide_eq_false (fun h=>h6 h.2),if_neg (by decide),if_neg h6]; rfl
   ·rw[decide_eq_false (fun h=>h5 h.1),if_neg (by decide),if_neg h5];simp
 | c1::c2::c3::r =>
  simp at hdl;have hc1:=c1.toNat_lt;have hc2:=c2.toNat_lt;have hc3:=c3.toNat_lt;rw[if_pos (by omega),(tst2 _ _ _).1,(tst2 _ _ _).2,l3,if_pos (by omega:k+3≤s.length),(tst3 _ _ _ _).1,(tst3 _ _ _ _).2,l4,if_pos (by omega:k+4≤s.length),(tst4 _ _ _ _ _).1,(tst4 _ _ _ _ _).2,l5];dsimp only;by_cases h2:192≤s[k].toNat∧s[k].toNat<224
  ·rw[if_pos h2];by_cases h3:Qcs c1=true∧128≤(s[k].toNat-192)*64+(c1.toNat-128)
   ·have h4:128≤c1.toNat:=by have:=h3.1; unfold Qcs at this; simp at this; exact this.1
    rw[decide_eq_true ⟨h2,h3⟩,if_pos rfl,if_pos h3];simp only[Qac];congr 2;omega
   ·rw[decide_eq_false (fun h=>h3 h.2),if_neg (by decide),if_neg h3,decide_eq_false (fun h=>by have:=h.1; omega),if_neg (by decide),decide_eq_false (fun h=>by have:=h.1; omega),if_neg (by decide)]; rfl
  ·rw[decide_eq_false (fun h=>h2 h.1),if_neg (by decide),if_neg h2];by_cases h5:224≤s[k].toNat∧s[k].toNat<240
   ·rw[if_pos h5];by_cases h6:Qcs c1=true∧Qcs c2=true∧2048≤((s[k].toNat-224)*64+(c1.toNat-128))*64+(c2.toNat-128)∧Qjq (((s[k].toNat-224)*64+(c1.toNat-128))*64+(c2.toNat-128))=true
    ·have h4:128≤c1.toNat:=by have:=h6.1; unfold Qcs at this; simp at this; exact this.1
     have h4' : 128≤c2.toNat:=by have:=h6.2.1; unfold Qcs at this; simp at this; exact this.1
     rw[decide_eq_true ⟨h5,h6⟩,if_pos rfl,if_pos h6];simp only[Qac];congr 2;omega
    ·rw[decide_eq_false (fun h=>h6 h.2),if_neg (by decide),if_neg h6,decide_eq_false (fun h=>by have:=h.1; omega),if_neg (by decide)]; rfl
   ·rw[decide_eq_false (fun h=>h5 h.1),if_neg (by decide),if_neg h5];by_cases h7:240≤s[k].toNat∧s[k].toNat<248
    ·rw[if_pos h7];by_cases h8:Qcs c1=true∧Qcs c2=true∧Qcs c3=true∧65536≤(((s[k].toNat-240)*64+(c1.toNat-128))*64+(c2.toNat-128))*64+(c3.toNat-128)∧Qjq ((((s[k].toNat-240)*64+(c1.toNat-128))*64+(c2.toNat-128))*64+(c3.toNat-128))=true
     ·have h4:128≤c1.toNat:=by have:=h8.1; unfold Qcs at this; simp at this; exact this.1
      have h4' : 128≤c2.toNat:=by have:=h8.2.1; unfold Qcs at this; simp at this; exact this.1
      have h4'' : 128≤c3.toNat:=by have:=h8.2.2.1; unfold Qcs at this; simp at this; exact this.1
      rw[decide_eq_true ⟨h7,h8⟩,if_pos rfl,if_pos h8];simp only[Qac];congr 2;omega
     ·rw[decide_eq_false (fun h=>h8 h.2),if_neg (by decide),if_neg h8]; rfl
    ·rw[decide_eq_false (fun h=>h7 h.1),if_neg (by decide),if_neg h7];rfl
def utfF:Nat→List UInt8→Bool
 | 0,_=>true
 | n+1,l=>match l with
  | []=>true
  | _::_=>if(Qk8 l).1=65533∧(Qk8 l).2=1 then false else utfF n (l.drop (Qk8 l).2)
theorem Qacm(n:Nat)(l:List UInt8)(h:l≠[]):utfF (n+1) l=if(Qk8 l).1=65533∧(Qk8 l).2=1 then false else utfF n (l.drop (Qk8 l).2):=by
 cases l with
 | nil=>exact absurd rfl h
 | cons c r=>rfl
theorem badI(p:Nat×Nat):(if(((p.1:Nat):Int)==65533)=true then some (((p.2:Nat):Int)==1) else some false:Option Bool)=some (decide (p.1=65533∧p.2=1)):=by
 have a:=eqN p.1 65533;have b:=eqN p.2 1;rw[show(65533:Int)=((65533:Nat):Int) from rfl,show(1:Int)=((1:Nat):Int) from rfl,a,b];by_cases h1:p.1=65533
 ·rw[beq_iff_eq.2 h1,if_pos rfl];by_cases h2:p.2=1
  ·rw[beq_iff_eq.2 h2,decide_eq_true ⟨h1,h2⟩]
  ·rw[beq_eq_false_iff_ne.2 h2,decide_eq_false (fun h=>h2 h.2)]
 ·rw[beq_eq_false_iff_ne.2 h1,if_neg (by decide),decide_eq_false (fun h=>h1 h.1)]
theorem rIsU(s:List UInt8)(hs:s.length<9000000000000):∀ n k,k≤s.length→s.length-k≤n→Qk1 s k=some (if utfF n (s.drop k)=true then .inl () else .inr ()):=by
 intro n
 induction n with
 | zero =>
  intro k h1 h2;rw[Qk1,ltI,decide_eq_false (by omega:¬ k<s.length)];rfl
 | succ n ih =>
  intro k h1 h2;by_cases hk:k<s.length
  ·have hne:s.drop k≠[]:=by rw[Qcc hk]; exact List.cons_ne_nil _ _
   obtain⟨z1,z2⟩:=Q5z _ hne;rw[List.length_drop] at z2;have ew:wr ((k:Int)+((Qk8 (s.drop k)).2:Int))=((k+(Qk8 (s.drop k)).2:Nat):Int):=by rw[Qg1 (by omega) (by omega)]; rfl
   rw[Qk1,ltI,decide_eq_true hk,Qatb s k hk hs];simp only[if_true,Qac];rw[badI (Qk8 (s.drop k)),ew,ih _ (by omega) (by omega),Qacm n _ hne,List.drop_drop];by_cases hb:(Qk8 (s.drop k)).1=65533∧(Qk8 (s.drop k)).2=1
   ·rw[decide_eq_true hb,if_pos hb]; rfl
   ·rw[decide_eq_false hb,if_neg hb]; rfl
  ·rw[Qk1,ltI,decide_eq_false hk,List.drop_eq_nil_of_le (by omega)];rfl
theorem tIsU(s:List UInt8)(x1:List UInt8)(hs:s.length<9000000000000):∀ n k,k≤s.length→s.length-k≤n→∃ out,Qey s k=some (out,())∧Qk3 x1 out=some (if utfF n (s.drop k)=true then .inl () else .inr ()):=by
 intro n
 induction n with
 | zero =>
  intro k h1 h2;rw[Qey,ltI,decide_eq_false (by omega:¬ k<s.length)];refine⟨[],rfl,?_⟩;rw[Qk3]; rfl
 | succ n ih =>
  intro k h1 h2;by_cases hk:k<s.length
  ·have hne:s.drop k≠[]:=by rw[Qcc hk]; exact List.cons_ne_nil _ _
   obtain⟨z1,z2⟩:=Q5z _ hne;rw[List.length_drop] at z2;have ew:wr ((k:Int)+((Qk8 (s.drop k)).2:Int))=((k+(Qk8 (s.drop k)).2:Nat):Int):=by rw[Qg1 (by omega) (by omega)]; rfl
   obtain⟨out,o1,o2⟩:=ih (k+(Qk8 (s.drop k)).2) (by omega) (by omega);rw[Qey,ltI,decide_eq_true hk,Qas9 s k hk (by omega)];simp only[if_true,Qac];rw[ew,o1];refine⟨_,rfl,?_⟩;rw[Qk3];simp only;rw[badI (Qk8 (s.drop k)),o2,Qacm n _ hne,List.drop_drop];by_cases hb:(Qk8 (s.drop k)).1=65533∧(Qk8 (s.drop k)).2=1
   ·rw[decide_eq_true hb,if_pos hb]; rfl
   ·rw[decide_eq_false hb,if_neg hb]; rfl
  ·rw[Qey,ltI,decide_eq_false hk,List.drop_eq_nil_of_le (by omega)];refine⟨[],rfl,?_⟩;rw[Qk3]; rfl
theorem rUtf(s:List UInt8)(hs:s.length<9000000000000):Qabs s=some (utfF s.length s):=by
 have:=rIsU s hs s.length 0 (by omega) (by omega);rw[Qabs,show(0:Int)=((0:Nat):Int) from rfl,this,List.drop_zero];cases utfF s.length s<;>rfl
theorem tUtf(s:List UInt8)(hs:s.length<9000000000000):Qab6 s=some (utfF s.length s):=by
 obtain⟨out,o1,o2⟩:=tIsU s s hs s.length 0 (by omega) (by omega);rw[List.drop_zero] at o2;rw[Qab6,Q8p];simp only[Qac];rw[Qwm,show(0:Int)=((0:Nat):Int) from rfl,o1];simp only[Qac,List.append_nil,o2];cases utfF s.length s<;>rfl
def qb(c:UInt8):List UInt8:=if c=10 then [92,110] else if c=9 then [92,116] else if c=34∨c=92 then [92,c] else [c]
def qs(s:List UInt8):List UInt8:=s.flatMap qb
theorem Qak6(c:UInt8):(qb c).length≤2:=by unfold qb; split; simp; split; simp; split<;>simp
theorem Qan6:∀ s:List UInt8,(qs s).length≤2*s.length
 | []=>by simp[qs]
 | c::r=>by
  have:=Qan6 r;have:=Qak6 c;simp[qs] at *;omega
theorem eqC(c:UInt8)(k:Nat)(hk:k<256):((c.toNat:Int)==(k:Int))=decide (c=UInt8.ofNat k):=by
 rw[eqN];by_cases h:c.toNat=k
 ·rw[beq_iff_eq.2 h,decide_eq_true];apply UInt8.toNat_inj.1;rw[h,UInt8.toNat_ofNat', Nat.mod_eq_of_lt hk]
 ·rw[beq_eq_false_iff_ne.2 h,decide_eq_false];intro e; apply h; rw[e,UInt8.toNat_ofNat', Nat.mod_eq_of_lt hk]
theorem Qapj(s:List UInt8)(hs:s.length≤1000000):∀ k,k≤s.length→∀ acc:List Int,acc.length≤2*k+1→Qdb s acc k=some (acc++s2b (qs (s.drop k))):=by
 refine upto ?_ fun k hk ih=>?_
 ·intro acc _;rw[Qdb]; simp[qs,s2b]
 ·intro acc ha;have e10:=eqC s[k] 10 (by omega);have e9:=eqC s[k] 9 (by omega);have e34:=eqC s[k] 34 (by omega);have e92:=eqC s[k] 92 (by omega);rw[Qdb,Qa3 (by omega)];simp only[ltI,hk,decide_true,if_true,Qa1,getE hk,Qac];rw[show(10:Int)=((10:Nat):Int) from rfl,show(9:Int)=((9:Nat):Int) from rfl,show(34:Int)=((34:Nat):Int) from rfl,show(92:Int)=((92:Nat):Int) from rfl,e10,e9,e34,e92];have eq:qs (s.drop k)=qb s[k]++qs (s.drop (k+1)):=by rw[Qcc hk]; rfl
  have step:∀ w:List UInt8,qb s[k]=w→(appL 1 acc (s2b w)>>=fun x=>Qdb s x ((k+1:Nat):Int))=some (acc++s2b (qs (s.drop k))):=fun w hw=>by
   have hl:w.length≤2:=by rw[← hw]; exact Qak6 _
   rw[Qes (by rw[Q2g]; omega) (by rw[Q2g]; omega),Qac,ih _ (by rw[List.length_append,Q2g]; omega),eq,hw,Qao9,List.append_assoc]
  by_cases h10:s[k]=10
  ·rw[decide_eq_true (show s[k]=UInt8.ofNat 10 from h10)];exact step [92,110] (by unfold qb; rw[if_pos h10])
  have h10' : decide (s[k]=UInt8.ofNat 10)=false:=decide_eq_false h10;rw[h10'];by_cases h9:s[k]=9
  ·rw[decide_eq_true (show s[k]=UInt8.ofNat 9 from h9)];exact step [92,116] (by unfold qb; rw[if_neg h10,if_pos h9])
  have h9' : decide (s[k]=UInt8.ofNat 9)=false:=decide_eq_false h9;rw[h9'];have e:(if decide (s[k]=UInt8.ofNat 34)=true then some (decide (s[k]=UInt8.ofNat 34)) else some (decide (s[k]=UInt8.ofNat 92)):Option Bool)=some (decide (s[k]=34∨s[k]=92)):=by
   by_cases h:s[k]=34
   ·rw[decide_eq_true (show s[k]=UInt8.ofNat 34 from h),decide_eq_true (show s[k]=34∨s[k]=92 from .inl h)]; rfl
   ·rw[decide_eq_false (show ¬ s[k]=UInt8.ofNat 34 from h)];by_cases h' : s[k]=92
    ·rw[decide_eq_true (show s[k]=UInt8.ofNat 92 from h'),decide_eq_true (show s[k]=34∨s[k]=92 from .inr h')]; rfl
    ·rw[decide_eq_false (show ¬ s[k]=UInt8.ofNat 92 from h'),decide_eq_false (show ¬ (s[k]=34∨s[k]=92) from fun q=>q.elim h h')]; rfl
  simp only[Bool.false_eq_true,if_false];rw[e];simp only[Qac];by_cases h34:s[k]=34∨s[k]=92
  ·rw[decide_eq_true h34];exact step [92,s[k]] (by unfold qb; rw[if_neg h10,if_neg h9,if_pos h34])
  ·rw[decide_eq_false h34];exact step [s[k]] (by unfold qb; rw[if_neg h10,if_neg h9,if_neg h34])
theorem Qapk(s:List UInt8)(hs:s.length≤1000000):∀ k,k≤s.length→∀ acc:List UInt8,acc.length≤2*k+1→Qex s acc k=some (if(s.drop k).any (· == 13)=true then .inr () else .inl (acc++qs (s.drop k))):=by
 refine upto ?_ fun k hk ih=>?_
 ·intro acc _;rw[Qex]; simp[qs]
 ·intro acc ha;have ec:cutL s k (wr ((k:Int)+1))=some [s[k]]:=by
   rw[Qa3 (by omega),Qmq (by omega) (by omega) (by omega),Int.toNat_natCast,Int.toNat_natCast];congr 1;rw[List.drop_take,Qcc hk];have:k+1-k=1:=by omega
   rw[this]; rfl
  have eq:qs (s.drop k)=qb s[k]++qs (s.drop (k+1)):=by rw[Qcc hk]; rfl
  have eany:(s.drop k).any (· == 13)=(s[k]==13||(s.drop (k+1)).any (· == 13)):=by rw[Qcc hk]; rfl
  have e1:∀ b:UInt8,(([s[k]]:List UInt8)==[b])=decide (s[k]=b):=fun b=>by
   rw[List.cons_beq_cons];by_cases h:s[k]=b
   ·rw[decide_eq_true h,beq_iff_eq.2 h]; rfl
   ·rw[decide_eq_false h,beq_eq_false_iff_ne.2 h]; rfl
  have hq:=Qak6 s[k];rw[Qex,ec,Qa3 (by omega),eany,eq];simp only[ltI,hk,decide_true,if_true,Qac,e1];by_cases h13:s[k]=13
  ·rw[decide_eq_true h13,beq_iff_eq.2 h13]; rfl
  rw[decide_eq_false h13,beq_eq_false_iff_ne.2 h13];have n1:need (([92]:List UInt8).length+[s[k]].length≤9223372036854775807)=some ():=Qru (by simp);have step:∀ w:List UInt8,qb s[k]=w→(need (acc.length+w.length≤9223372036854775807)>>=fun _=>Qex s (acc++w) ((k+1:Nat):Int))=some (if(s.drop (k+1)).any (· == 13)=true then .inr () else .inl (acc++(qb s[k]++qs (s.drop (k+1))))):=fun w hw=>by
   rw[Qru (by rw[← hw]; omega),Qac,ih _ (by rw[List.length_append,← hw]; omega),hw,List.append_assoc]
  simp only[Bool.false_eq_true,if_false,Bool.false_or,n1,Qac];by_cases h10:s[k]=10
  ·rw[decide_eq_true h10];exact step [92,110] (by unfold qb; rw[if_pos h10])
  rw[decide_eq_false h10];by_cases h9:s[k]=9
  ·rw[decide_eq_true h9];exact step [92,116] (by unfold qb; rw[if_neg h10,if_pos h9])
  rw[decide_eq_false h9];by_cases h34:s[k]=34
  ·rw[decide_eq_true h34];exact step ([92]++[s[k]]) (by unfold qb; rw[if_neg h10,if_neg h9,if_pos (show s[k]=34∨s[k]=92 from .inl h34)]; rfl)
  rw[decide_eq_false h34];by_cases h92:s[k]=92
  ·rw[decide_eq_true h92];exact step ([92]++[s[k]]) (by unfold qb; rw[if_neg h10,if_neg h9,if_pos (show s[k]=34∨s[k]=92 from .inr h92)]; rfl)
  ·rw[decide_eq_false h92];exact step [s[k]] (by unfold qb; rw[if_neg h10,if_neg h9,if_neg (show ¬ (s[k]=34∨s[k]=92) from fun q=>q.elim h34 h92)])
theorem Qarl:∀ s:List UInt8,decide (Lib.indexByte s 13 ≥ 0)=s.any (· == 13)
 | []=>rfl
 | c::r=>by
  have ih:=Qarl r;have hg:=Lib.indexByte_ge r 13;unfold Lib.indexByte;rw[List.any_cons];cases hc:(c==13) with
  | true=>rfl
  | false =>
   simp only[Bool.false_eq_true,if_false,Bool.false_or];rw[← ih];by_cases h1:Lib.indexByte r 13 = -1
   ·rw[h1]; rfl
   ·rw[if_neg (by simpa using h1),decide_eq_true (by omega),decide_eq_true (by omega)]
def quoV(s:List UInt8):List UInt8×Bool:=if utfF s.length s=true∧s.any (· == 13)=false then([34]++qs s++[34],true) else([],false)
theorem Qan7(s:List UInt8)(hs:s.length≤1000000):Qk4 s=some (quoV s)∧Qm7 s=some (quoV s)∧(quoV s).1.length≤2*s.length+2:=by
 unfold quoV;have hl:=Qan6 s;have t:=Qapj s hs 0 (by omega) [34] (by simp);have r:=Qapk s hs 0 (by omega) [34] (by simp);rw[List.drop_zero] at t r;have e13:decide (Lib.indexByte s (13:Int).toNat.toUInt8 ≥ 0)=s.any (· == 13):=Qarl s;refine⟨?_,?_,?_⟩
 ·rw[Qk4,tUtf s (by omega),Qg7,Qb9];simp only[Qac,e13];cases hu:utfF s.length s with
  | false=>rfl
  | true =>
   cases ha:s.any (· == 13) with
   | true=>rfl
   | false =>
    simp only[Bool.not_true,Bool.false_eq_true,if_false,Qac,if_true,and_self];rw[show(0:Int)=((0:Nat):Int) from rfl,t];simp only[Qac];rw[Qes (by simp[Q2g]; omega) (by simp[Q2g]; omega),Qac];have e:[34]++s2b (qs s)++[34]=s2b ([34]++qs s++[34]):=by simp[s2b]
    rw[e,Qapa];rfl
 ·rw[Qm7,rUtf s (by omega)];cases hu:utfF s.length s with
  | false=>rfl
  | true =>
   simp only[Qac,Bool.not_true,Bool.false_eq_true,if_false];rw[show(0:Int)=((0:Nat):Int) from rfl,r];cases ha:s.any (· == 13) with
   | true=>rfl
   | false =>
    simp only[Bool.false_eq_true,if_false,Qac,and_self,if_true];rw[Qru (by simp; omega)];rfl
 ·split
  ·simp; omega
  ·simp
theorem Qak7(s:List UInt8)(hs:s.length≤1000000):∃ q,Qk4 s=some q∧Qm7 s=some q∧q.1.length≤2*s.length+2:=⟨_,Qan7 s hs⟩
def rngN(x:Qab):Prop := -9223372036854775808≤x.N∧x.N≤9223372036854775807
def Qak8(g:List Qab→Nat→List Qab×Nat):Prop:=∀ (l:List Qab) (n:Nat),allL rngN l→allL rngN (g l n).1
theorem Qah7{g:List Qab→Nat→List Qab×Nat}(hg:Qak8 g):Qak8 (Qn1 g):=fun l=>by
 induction l with
 | nil=>intro n _; simp[Qn1,allL]
 | cons x r ih =>
  intro n h;rw[allL,Qon] at h;obtain⟨⟨hq,h1,h2,h3⟩,h4⟩:=h;unfold Qn1;split
  ·simp[allL]
  ·rw[allL,Qon];exact⟨⟨hq,hg _ _ h1,hg _ _ h2,hg _ _ h3⟩,ih _ h4⟩
theorem Q50:∀ d,Qak8 (Qhm d)
 | 0=>fun l n _=>by simp[Qhm,allL]
 | d+1=>Qah7 (Q50 d)
theorem Q51(x:Qab)(h1:x.Name.length≤40)(h2:x.Text.length≤60)(h3:rngN x):okNd x:=by
 refine⟨by omega,by omega,h3,fun _=>?_⟩;obtain⟨q,q1,q2,-⟩:=Qak7 x.Text (by omega);exact⟨q,q1,q2⟩
abbrev Nm:=List UInt8
def up(l:List Nm):Prop:=l.Pairwise (· < ·)
theorem bl:∀ x y:Nm,Op.bytesLess x y=decide (x<y)
 | [],[]=>by simp[Op.bytesLess]
 | _::_,[]=>by simp[Op.bytesLess]
 | [],_::_=>by simp[Op.bytesLess]
 | a::x,b::y=>by
  rw[Op.bytesLess,bl x y];simp only[List.cons_lt_cons_iff];by_cases h1:a<b<;>by_cases h2:a=b<;>by_cases h3:x<y<;>simp[h1,h2,h3]
theorem nlt{a b:Nm}(h:a<b):¬ b<a:=fun k=>List.lt_irrefl a (List.lt_trans h k)
theorem Qak9{a b:Nm}(h:¬ a<b)(k:¬ b<a):a=b:=List.le_antisymm k h
theorem Qkv{l:List Nm}(h:up l):l.Nodup:=List.Pairwise.imp (fun {a b} (h:a<b) (e:a=b)=>List.lt_irrefl a (by rw[← e] at h; exact h)) h
theorem Qyv{a b:List Nm}(ha:up a)(hb:up b)(h:∀ x,x ∈ a↔x ∈ b):a=b :=
 List.Perm.eq_of_pairwise (fun _ _ _ _ h1 h2=>absurd h2 (nlt h1)) ha hb ((List.perm_ext_iff_of_nodup (Qkv ha) (Qkv hb)).2 h)
def insS(s:Nm):List Nm→List Nm
 | []=>[s]
 | x::r=>if s=x then x::r else if Op.bytesLess s x then s::x::r else x::insS s r
theorem Qn2(s:Nm):∀ (l:List Nm) (x:Nm),x ∈ insS s l↔x=s∨x ∈ l
 | [],x=>by simp[insS]
 | y::r,x=>by
  unfold insS;split
  ·rename_i h; subst h; simp
  ·split
   ·simp
   ·simp only[List.mem_cons,Qn2 s r];constructor
    ·rintro (h | h | h)
     ·exact .inr (.inl h)
     ·exact .inl h
     ·exact .inr (.inr h)
    ·rintro (h | h | h)
     ·exact .inr (.inl h)
     ·exact .inl h
     ·exact .inr (.inr h)
theorem Qx1(s:Nm):∀ {l:List Nm},up l→up (insS s l)
 | [],_=>by simp[insS,up]
 | y::r,h=>by
  obtain⟨h1,h2⟩:=List.pairwise_cons.1 h;unfold insS;split
  ·exact h
  ·rename_i hne;split
   ·rename_i hl;rw[bl] at hl;have hl:=of_decide_eq_true hl;exact List.pairwise_cons.2 ⟨fun z hz=>by
     rcases List.mem_cons.1 hz with rfl | hz
     ·exact hl
     ·exact List.lt_trans hl (h1 z hz),h⟩
   ·rename_i hl;rw[bl] at hl;have hl:¬ s<y:=by simpa using hl
    refine List.pairwise_cons.2 ⟨fun z hz=>?_,Qx1 s h2⟩;rcases (Qn2 s r z).1 hz with rfl | hz
    ·exact Classical.byContradiction fun k=>hne (Qak9 hl k)
    ·exact h1 z hz
def upL(l:List Nm):List Nm:=l.foldr insS []
theorem Qgr:∀ {l:List Nm} {x:Nm},x ∈ upL l↔x ∈ l
 | [],x=>Iff.rfl
 | y::r,x=>by
  show x ∈ insS y (upL r)↔_;rw[Qn2,Qgr (l:=r),List.mem_cons]
theorem Qjf:∀ l:List Nm,up (upL l)
 | []=>List.Pairwise.nil
 | y::r=>Qx1 y (Qjf r)
theorem Qacn{l:List Nm}(h:up l):upL l=l:=Qyv (Qjf l) h fun _=>Qgr
theorem Qagk{a b:List Nm}(h:∀ x,x ∈ a↔x ∈ b):upL a=upL b:=Qyv (Qjf a) (Qjf b) fun x=>by rw[Qgr,Qgr]; exact h x
theorem Qala(l:List Nm):(upL l).length≤l.length:=by
 refine List.Nodup.length_le_of_subset (Qkv (Qjf l)) fun x hx=>Qgr.1 hx
theorem Qan8{l:List Nm}:(l.mergeSort fun x y=>decide (x≤y)).Pairwise (· ≤ ·):=by
 have:=List.pairwise_mergeSort (le:=fun x y:Nm=>decide (x≤y)) (fun a b c h1 h2=>by
  simp only[decide_eq_true_eq] at *;exact List.le_trans h1 h2) (fun a b=>by
  simp only[Bool.or_eq_true,decide_eq_true_eq];exact List.le_total a b) l
 exact this.imp fun h=>of_decide_eq_true h
theorem Qapl{a b:Nm}(h:a≤b)(hne:a≠b):a<b:=Classical.byContradiction fun k=>hne (Qak9 k h)
theorem Qalb{l:List Nm}(h:l.Nodup):(l.mergeSort fun x y=>decide (x≤y))=upL l:=by
 have hn:=(List.mergeSort_perm l (fun x y:Nm=>decide (x≤y))).nodup_iff.2 h;refine Qyv (List.Pairwise.imp₂ (fun {a b} h1 h2=>Qapl h1 h2) Qan8 hn) (Qjf l) fun x=>by rw[List.mem_mergeSort,Qgr]
theorem Q2l(zs:List Nm)(hz:zs.Pairwise (· ≤ ·)):∀ m,m≤zs.length→up (Lib.compactUpTo zs.toArray m)∧∀ x,x ∈ Lib.compactUpTo zs.toArray m↔x ∈ zs.take m
 | 0,_=>by simp[Lib.compactUpTo,up]
 | m+1,hm=>by
  obtain⟨h1,h2⟩:=Q2l zs hz m (by omega);have e:zs.toArray[m]! = zs[m]:=by simp[show m<zs.length by omega]
  rw[Lib.compactUpTo_succ,e,List.take_succ_eq_append_getElem (by omega)];by_cases hk:Lib.keeps zs.toArray m=true
  ·rw[if_pos hk];refine⟨List.pairwise_append.2 ⟨h1,by simp,fun a ha b hb=>?_⟩,fun x=>by simp only[List.mem_append,h2]⟩;simp only[List.mem_singleton] at hb;subst hb;have ha:=(h2 a).1 ha;obtain⟨j,hj,rfl⟩:=List.mem_iff_getElem.1 ha;have hj2:j<m:=by simp at hj; omega
   rw[List.getElem_take];have hkk:m=0∨zs.toArray[m]! ≠ zs.toArray[m-1]! := by simpa [Lib.keeps] using hk
   have hne:zs[m]≠zs[m-1]:=by
    rcases hkk with h | h
    ·omega
    ·have e2:zs.toArray[m-1]! = zs[m-1]:=by simp[show m-1<zs.length by omega]
     rwa [e,e2] at h
   have hle:zs[m-1]≤zs[m]:=List.pairwise_iff_getElem.1 hz (m-1) m (by omega) (by omega) (by omega);have hlt:=Qapl hle (Ne.symm hne);by_cases hjm:j=m-1
   ·subst hjm; exact hlt
   ·have hle2:zs[j]≤zs[m-1]:=List.pairwise_iff_getElem.1 hz j (m-1) (by omega) (by omega) (by omega);by_cases he:zs[j]=zs[m-1]
    ·rw[he]; exact hlt
    ·exact List.lt_trans (Qapl hle2 he) hlt
  ·rw[if_neg hk,List.append_nil];refine⟨h1,fun x=>?_⟩;rw[h2,List.mem_append];refine⟨.inl,fun h=>h.elim id fun h=>?_⟩;simp only[List.mem_singleton] at h;subst h;have hkk:¬ (m=0∨zs.toArray[m]! ≠ zs.toArray[m-1]!):=by simpa [Lib.keeps] using hk
   have h0:m≠0:=fun h=>hkk (.inl h)
   have e2:zs.toArray[m-1]! = zs[m-1]:=by simp[show m-1<zs.length by omega]
   have hq:zs[m]=zs[m-1]:=by
    refine Classical.byContradiction fun k=>hkk (.inr ?_)
    rwa [e,e2]
   rw[hq];exact List.mem_iff_getElem.2 ⟨m-1,by simp; omega,by rw[List.getElem_take]⟩
theorem Qah8(l:List Nm):Lib.compact (l.mergeSort fun x y=>decide (x≤y))=upL l:=by
 obtain⟨h1,h2⟩:=Q2l _ (Qan8 (l:=l)) _ (Nat.le_refl _);exact Qyv h1 (Qjf l) fun x=>by
  show x ∈ Lib.compactUpTo _ _↔_;rw[h2,List.take_length,List.mem_mergeSort,Qgr]
mutual
def usN:Qab→List Nm
 | ⟨k,nm,_,_,_,t,e⟩=>(if k==13 then [nm] else [])++(usL t++usL e)
def usL:List Qab→List Nm
 | []=>[]
 | x::r=>usN x++usL r
end
theorem Qe0(x:Qab):usN x=(if x.Kind==13 then [x.Name] else [])++(usL x.Then++usL x.Else):=by cases x; rw[usN]
theorem Q82:∀ n (l:List Qab),nns l≤n→(usL l).length≤nns l:=by
 intro n
 induction n with
 | zero=>intro l h; cases l with
  | nil=>simp[usL,nns]
  | cons x r=>rw[nns] at h; have:=Qhl x; omega
 | succ n ih =>
  intro l
  induction l with
  | nil=>intro _; simp[usL,nns]
  | cons x r ihr =>
   intro h;rw[nns] at h;have h1:=Qhg x;have h2:=ih x.Then (by omega);have h3:=ih x.Else (by omega);have h4:=ihr (by omega);rw[usL,Qe0,nns,List.length_append,List.length_append,List.length_append];split<;>simp<;>omega
def Qpg(l:List Qab):List Nm:=upL (usL l)
theorem Q2m{n:Nat}{l:List Qab}(h:nns l≤n):(Qpg l).length≤n:=Nat.le_trans (Qala _) (Nat.le_trans (Q82 n l h) h)
def fndT(l:List Qae)(s:Nm):Option Qae:=l.find? (·.Name==s)
abbrev nms(l:List Qae):List Nm:=l.map (·.Name)
def suc(l:List Qae)(s:Nm):List Nm:=match fndT l s with | none=>[] | some x=>Qpg x.L
theorem Qyw(l:List Qae)(s:Nm):up (suc l s):=by
 unfold suc;split
 ·exact List.Pairwise.nil
 ·exact Qjf _
theorem Q2n{l:List Qae}{s:Nm}:(fndT l s).isSome=true↔s ∈ nms l:=by
 unfold fndT;rw[List.find?_isSome];simp only[beq_iff_eq,List.mem_map]
theorem Qanh{l:List Qae}(hn:(nms l).Nodup){x:Qae}(h:x ∈ l):fndT l x.Name=some x:=by
 unfold fndT
 induction l with
 | nil=>cases h
 | cons y r ih =>
  rw[show nms (y::r)=y.Name::nms r from rfl,List.nodup_cons] at hn;rw[List.find?_cons];rcases List.mem_cons.1 h with rfl | h
  ·simp
  ·have hne:¬ y.Name=x.Name:=fun e=>hn.1 (by rw[e]; exact List.mem_map.2 ⟨x,h,rfl⟩)
   have:(y.Name==x.Name)=false:=by simpa using hne
   rw[this];exact ih hn.2 h
theorem Qapm{l:List Qae}(hn:(nms l).Nodup){x:Qae}(h:x ∈ l):suc l x.Name=Qpg x.L:=by
 unfold suc; rw[Qanh hn h]
def closed(l:List Qae):Prop:=∀ s,∀ u ∈ suc l s,u ∈ nms l
def rnd(l:List Qae)(o:List Nm):List Nm:=upL (o++o.flatMap (suc l))
def clo(l:List Qae):Nat→List Nm→List Nm
 | 0,o=>o
 | n+1,o=>clo l n (rnd l o)
theorem Qqd{l:List Qae}{o:List Nm}{x:Nm}:x ∈ rnd l o↔x ∈ o∨∃ s ∈ o,x ∈ suc l s:=by
 unfold rnd;rw[Qgr,List.mem_append,List.mem_flatMap]
theorem Qan9(l:List Qae):∀ n {o:List Nm},up o→up (clo l n o)
 | 0,_,h=>h
 | n+1,_,_=>Qan9 l n (Qjf _)
theorem Qalc(l:List Qae):∀ n {o:List Nm} {x:Nm},x ∈ o→x ∈ clo l n o
 | 0,_,_,h=>h
 | n+1,_,_,h=>Qalc l n (Qqd.2 (.inl h))
theorem Qaco(l:List Qae){C:Nm→Prop}(hC:∀ s,C s→∀ u ∈ suc l s,C u):∀ n {o:List Nm},(∀ x ∈ o,C x)→∀ x ∈ clo l n o,C x
 | 0,_,h=>h
 | n+1,o,h=>Qaco l hC n fun x hx=>by
  rcases Qqd.1 hx with hx | ⟨s,hs,hx⟩
  ·exact h x hx
  ·exact hC s (h s hs) x hx
theorem Qald{l:List Qae}:∀ n {o:List Nm},rnd l o=o→clo l n o=o
 | 0,_,_=>rfl
 | n+1,o,h=>by rw[clo,h,Qald n h]
theorem Qaoa{a b:List Nm}(ha:a.Nodup)(h:∀ x ∈ a,x ∈ b)(hl:b.length≤a.length):∀ x ∈ b,x ∈ a:=fun x hx=>Classical.byContradiction fun k=>by
 have:=List.Nodup.length_le_of_subset (List.nodup_cons.2 ⟨k,ha⟩) (l₂ := b) fun y hy=>by
  rcases List.mem_cons.1 hy with rfl | hy
  ·exact hx
  ·exact h y hy
 simp at this; omega
theorem Q52{l:List Qae}(hc:closed l):∀ n {o:List Nm},up o→(∀ x ∈ o,x ∈ nms l)→(nms l).length≤n+o.length→rnd l (clo l n o)=clo l n o
 | 0,o,hu,hN,hn=>by
  have hr:∀ x ∈ rnd l o,x ∈ nms l:=fun x hx=>by
   rcases Qqd.1 hx with hx | ⟨s,_,hx⟩
   ·exact hN x hx
   ·exact hc s x hx
  have hlen:=List.Nodup.length_le_of_subset (Qkv (Qjf (o++o.flatMap (suc l)))) (l₂ := nms l) fun x hx=>hr x hx
  exact Qyv (Qjf _) hu fun x=>⟨Qaoa (Qkv hu) (fun x hx=>Qqd.2 (.inl hx)) (Nat.le_trans hlen (by omega)) x,fun hx=>Qqd.2 (.inl hx)⟩
 | n+1,o,hu,hN,hn=>by
  by_cases he:rnd l o=o
  ·rw[Qald (n+1) he,he]
  ·rw[clo];have hr:∀ x ∈ rnd l o,x ∈ nms l:=fun x hx=>by
    rcases Qqd.1 hx with hx | ⟨s,_,hx⟩
    ·exact hN x hx
    ·exact hc s x hx
   refine Q52 hc n (Qjf _) hr ?_;have:o.length<(rnd l o).length:=Nat.lt_of_not_le fun hle=>he (Qyv (Qjf _) hu fun x=>⟨Qaoa (Qkv hu) (fun x hx=>Qqd.2 (.inl hx)) hle x,fun hx=>Qqd.2 (.inl hx)⟩)
   omega
def froP(l:List Qae)(o:List Nm):List Nm:=clo l l.length o
theorem Qvt{l:List Qae}(hc:closed l){o:List Nm}(hu:up o)(hN:∀ x ∈ o,x ∈ nms l):∀ s ∈ froP l o,∀ u ∈ suc l s,u ∈ froP l o:=fun s hs u hu' => by
 have:=Q52 hc l.length hu hN (by simp);rw[froP,← this];exact Qqd.2 (.inr ⟨s,hs,hu'⟩)
theorem Qagl{l:List Qae}{o:List Nm}{x:Nm}(h:x ∈ o):x ∈ froP l o:=Qalc l _ h
theorem Qx2{l:List Qae}{C:Nm→Prop}(hC:∀ s,C s→∀ u ∈ suc l s,C u){o:List Nm}(h:∀ x ∈ o,C x):∀ x ∈ froP l o,C x:=Qaco l hC _ h
theorem Qaer{l:List Qae}{o:List Nm}(h:up o):up (froP l o):=Qan9 l _ h
theorem Qah9{l:List Qae}(hc:closed l){o:List Nm}(h:∀ x ∈ o,x ∈ nms l):∀ x ∈ froP l o,x ∈ nms l:=Qx2 (fun s _ u hu=>hc s u hu) h
theorem Qagm{l:List Qae}(hc:closed l){o:List Nm}(hu:up o)(h:∀ x ∈ o,x ∈ nms l):(froP l o).length≤l.length:=by
 have:=List.Nodup.length_le_of_subset (Qkv (Qaer (l:=l) hu)) (l₂ := nms l) fun x hx=>Qah9 hc h x hx
 simpa using this
def reaP(l:List Qae)(s:Nm):List Nm:=froP l (suc l s)
theorem Qhz{l:List Qae}(hc:closed l)(hr:∀ s ∈ nms l,s ∉ reaP l s){s u:Nm}(hu:u ∈ suc l s):(reaP l u).length<(reaP l s).length:=by
 have hu1:u ∈ reaP l s:=Qagl hu;have hsub:∀ x ∈ u::reaP l u,x ∈ reaP l s:=fun x hx=>by
  rcases List.mem_cons.1 hx with rfl | hx
  ·exact hu1
  ·refine Qx2 (C:=fun x=>x ∈ reaP l s) (fun t ht v hv=>Qvt hc (Qyw l s) (hc s) t ht v hv) (fun x hx=>?_) x hx;exact Qvt hc (Qyw l s) (hc s) u hu1 x hx
 have:=List.Nodup.length_le_of_subset (List.nodup_cons.2 ⟨hr u (hc s u hu),Qkv (Qaer (Qyw l u))⟩) hsub;exact this
theorem inL(l:List Nm)(s:Nm)(hl:l.length<9223372036854775807):∀ k,k≤l.length→Qna l s k=some (if s ∈ l.drop k then .inr () else .inl ()):=by
 refine upto ?_ fun k hk ih=>?_
 ·rw[Qna]; simp
 ·rw[Qna,Qcc hk];simp only[ltI,hk,decide_true,if_true,Qa1,getE hk,Qac];by_cases h:l[k]=s
  ·simp[h]
  ·have h2:¬ s=l[k]:=fun e=>h e.symm
   simp only[beq_iff_eq,h,if_false,Qa3 (show k<9223372036854775807 by omega),ih,List.mem_cons,h2,false_or]
theorem rIn(l:List Nm)(s:Nm)(hl:l.length<9223372036854775807):Q1z l s=some (decide (s ∈ l)):=by
 have:=inL l s hl 0 (by omega);rw[Q1z,show(0:Int)=((0:Nat):Int) from rfl,this];by_cases h:s ∈ l<;>simp[h]
theorem Qatc(l:List Nm)(s:Nm)(hl:l.length<9223372036854775807):∀ k,k≤l.length→Qh6 l s k=some ((k+((l.drop k).takeWhile (Op.bytesLess · s)).length:Nat):Int):=by
 refine upto ?_ fun k hk ih=>?_
 ·rw[Qh6]; simp
 ·rw[Qh6,Qcc hk];simp only[ltI,hk,decide_true,if_true,Qa1,getE hk,Qac];cases hb:Op.bytesLess l[k] s with
  | true =>
   simp only[if_true,Qa3 (show k<9223372036854775807 by omega),ih,List.takeWhile_cons,hb,List.length_cons];congr 2; omega
  | false=>simp only[Bool.false_eq_true,if_false,List.takeWhile_cons,hb,List.length_nil,Nat.add_zero]
theorem Qale(s:Nm):∀ l:List Nm,up l→s ∉ l→l.take (l.takeWhile (Op.bytesLess · s)).length++s::l.drop (l.takeWhile (Op.bytesLess · s)).length=insS s l
 | [],_,_=>by simp[insS]
 | x::r,h,hs=>by
  obtain⟨h1,h2⟩:=List.pairwise_cons.1 h;have hne:¬ s=x:=fun e=>hs (by rw[e]; simp)
  have hr:s ∉ r:=fun e=>hs (List.mem_cons_of_mem _ e)
  rw[List.takeWhile_cons,insS,if_neg hne];cases hb:Op.bytesLess x s with
  | true =>
   have hlt:=of_decide_eq_true ((bl x s).symm.trans hb);have hn:Op.bytesLess s x=false:=by rw[bl]; exact decide_eq_false (nlt hlt)
   simp only[if_true,List.length_cons,List.take_succ_cons,List.drop_succ_cons,hn,Bool.false_eq_true,if_false,List.cons_append,Qale s r h2 hr]
  | false =>
   have hlt:=of_decide_eq_false ((bl x s).symm.trans hb);have hn:Op.bytesLess s x=true:=by
    rw[bl];exact decide_eq_true (Classical.byContradiction fun k=>hne (Qak9 k hlt))
   simp[hn]
theorem Qapn(l:List Nm)(s:Nm)(h:up l)(hl:l.length≤1000000):Qp3 l s=some (insS s l):=by
 rw[Qp3,rIn l s (by omega),Qac];by_cases hs:s ∈ l
 ·rw[if_pos (by simpa using hs)];exact congrArg some (Qyv h (Qx1 s h) fun x=>by rw[Qn2]; exact⟨.inr,fun k=>k.elim (fun e=>e ▸ hs) id⟩)
 ·rw[if_neg (by simpa using hs),show(0:Int)=((0:Nat):Int) from rfl,Qatc l s (by omega) 0 (by omega),Qac];simp only[List.drop_zero,Nat.zero_add];have e:=Qale s l h hs;have hm:(l.takeWhile (Op.bytesLess · s)).length≤l.length:=(List.takeWhile_sublist _).length_le;generalize (l.takeWhile (Op.bytesLess · s)).length=m at e hm ⊢;rw[Qmq (by omega) (by omega) (by omega),Qac,Qes (by simp; omega) (by simp; omega),Qac,Qes (by simp; omega) (by simp; omega),Qac,Qmq (by omega) (by omega) (by omega),Qac,Qes (by simp; omega) (by simp; omega),Qac];have e2:[]++List.drop (Int.toNat ((0:Nat):Int)) (List.take (Int.toNat (m:Int)) l)++[s]++List.drop (Int.toNat (m:Int)) (List.take (Int.toNat (l.length:Int)) l)=insS s l:=by
   rw[← e]; simp
  rw[e2,Qru,Qac];rw[List.length_map,List.length_map,← e];simp; omega
theorem Qagn(s:Nm)(l:List Nm):(insS s l).length≤l.length+1:=by
 induction l with
 | nil=>simp[insS]
 | cons x r ih =>
  unfold insS;split
  ·simp
  ·split
   ·simp
   ·simp; omega
theorem Qarm(p0:List Qab)(v4:Int)(x9 x:List Nm)(hx:x.length≤1000):∀ k,k≤x.length→∀ v:List Nm,up v→v.length+(x.length-k)≤100000→Qgg p0 v4 x9 x v k=some (upL (v++x.drop k)):=by
 refine upto ?_ fun k hk ih=>?_
 ·intro v hv _;rw[Qgg];simp[Qacn hv]
 ·intro v hv hb;rw[Qgg,Qcc hk];simp only[ltI,hk,decide_true,if_true,Qa1,getE hk,Qac];have:=Qagn x[k] v;rw[Qapn v _ hv (by omega),Qac,Qa3 (by omega),ih _ (Qx1 _ hv) (by omega)];refine congrArg some (Qagk fun y=>?_);simp only[List.mem_append,Qn2,List.mem_cons];constructor
  ·rintro ((h | h) | h)
   ·exact .inr (.inl h)
   ·exact .inl h
   ·exact .inr (.inr h)
  ·rintro (h | h | h)
   ·exact .inl (.inr h)
   ·exact .inl (.inl h)
   ·exact .inr h
theorem Qarn(l:List Qab)(n:Nat)(hn:n≤1000)(ih:∀ m:List Qab,nns m≤n→Qeq m=some (Qpg m))(hl:nns l≤n+1) :
  ∀ k,k≤l.length→∀ v:List Nm,up v→v.length+nns (l.drop k)≤10000→Qgh l v k=some (upL (v++usL (l.drop k))):=by
 have hlen:l.length≤1001:=Nat.le_trans (Qfj l) (by omega);refine upto ?_ fun k hk ih2=>?_
 ·intro v hv _;rw[Qgh];simp[usL,Qacn hv]
 ·intro v hv hb;rw[Qcc hk,nns,Qhg] at hb;rw[Qgh,Qcc hk];have hm:=Qek (List.getElem_mem hk);have e1:=Qhg l[k];simp only[ltI,hk,decide_true,if_true,Qa1,getE hk,Qac];have hT:=ih l[k].Then (by omega);have hE:=ih l[k].Else (by omega);have lT:=Q2m (Nat.le_refl (nns l[k].Then));have lE:=Q2m (Nat.le_refl (nns l[k].Else));have key:∀ v' : List Nm,up v' → v'.length≤v.length+1→(∀ x,x ∈ v' ↔ x ∈ v∨x ∈ (if l[k].Kind==13 then [l[k].Name] else [])) →
    (Qeq l[k].Then>>=fun x7=>Qeq l[k].Else>>=fun x9=>appL 16 x7 x9>>=fun x10=>(Qgg l k x9 x10 v' 0)>>=fun o11=>Qgh l o11 (wr ((k:Int)+1)))=some (upL (v++usL (l[k]::l.drop (k+1)))):=fun v' hv' hl' hm' => by
   rw[hT,Qac,hE,Qac,Qes (by omega) (by omega),Qac];have h2:=Qarm l k (Qpg l[k].Else) (Qpg l[k].Then++Qpg l[k].Else) (by rw[List.length_append]; omega) 0 (by omega) v' hv' (by rw[List.length_append]; omega);rw[show((0:Nat):Int)=0 from rfl] at h2;rw[h2,Qac,Qa3 (by omega)];have hlu:=Qala (v' ++ (Qpg l[k].Then++Qpg l[k].Else).drop 0);rw[List.drop_zero,List.length_append,List.length_append] at hlu;rw[List.drop_zero,ih2 _ (Qjf _) (by omega)];refine congrArg some (Qagk fun x=>?_);simp only[List.mem_append,Qgr,hm', usL,Qe0,Qpg];constructor
   ·rintro (((h | h) | h | h) | h)
    ·exact .inl h
    ·exact .inr (.inl (.inl h))
    ·exact .inr (.inl (.inr (.inl h)))
    ·exact .inr (.inl (.inr (.inr h)))
    ·exact .inr (.inr h)
   ·rintro (h | (h | h | h) | h)
    ·exact .inl (.inl (.inl h))
    ·exact .inl (.inl (.inr h))
    ·exact .inl (.inr (.inl h))
    ·exact .inl (.inr (.inr h))
    ·exact .inr h
  by_cases hk13:(l[k].Kind==13)=true
  ·rw[if_pos hk13,Qapn v _ hv (by omega),Qac,Qac];refine key _ (Qx1 _ hv) (Qagn _ _) fun x=>?_
   rw[if_pos hk13,Qn2,List.mem_singleton,or_comm]
  ·rw[if_neg hk13,Qac];refine key _ hv (by omega) fun x=>?_
   rw[if_neg hk13]; simp
theorem Qapo:∀ n (l:List Qab),n≤1000→nns l≤n→Qeq l=some (Qpg l)
 | 0,l,_,h=>by
  cases l with
  | nil=>rw[Qeq,Qgh]; simp[Qpg,usL,upL]
  | cons x r=>rw[nns] at h; have:=Qhl x; omega
 | n+1,l,hn,h=>by
  have:=Qarn l n (by omega) (fun m hm=>Qapo n m (by omega) hm) h 0 (by omega) [] List.Pairwise.nil (by simp; omega);rw[show((0:Nat):Int)=0 from rfl] at this;rw[Qeq,this];simp[Qpg]
theorem Qaro:∀ n (l:List Qab) (h:List Nm),n≤1000→nns l≤n→h.length≤9000→Qdk l h=some (h++usL l):=by
 have key:∀ n (l:List Qab) (h:List Nm),n≤1000→nns l≤n→h.length+nns l≤10000→Qdk l h=some (h++usL l):=by
  intro n
  induction n with
  | zero =>
   intro l h _ hl _;cases l with
   | nil=>rw[Qdk,Qdy]; simp[usL]
   | cons x r=>rw[nns] at hl; have:=Qhl x; omega
  | succ n ih =>
   intro l h hn hl hb;have hlen:l.length≤1001:=Nat.le_trans (Qfj l) (by omega);have main:∀ k,k≤l.length→∀ v:List Nm,v.length+nns (l.drop k)≤10000→Qdy l k v=some (v++usL (l.drop k)):=by
    refine upto ?_ fun k hk ih2=>?_
    ·intro v _;rw[Qdy];simp[usL]
    ·intro v hb;rw[Qcc hk,nns,Qhg] at hb;rw[Qdy,Qcc hk];have hm:=Qek (List.getElem_mem hk);have e1:=Qhg l[k];simp only[ltI,hk,decide_true,if_true,Qa1,getE hk,Qac];have lT:=Q82 _ _ (Nat.le_refl (nns l[k].Then));have lE:=Q82 _ _ (Nat.le_refl (nns l[k].Else));by_cases hk13:(l[k].Kind==13)=true
     ·rw[if_pos hk13,Qes (by simp; omega) (by simp; omega),Qac,Qac,ih _ _ (by omega) (by omega) (by simp; omega),Qac,ih _ _ (by omega) (by omega) (by simp; omega),Qac,Qa3 (by omega),ih2 _ (by simp; omega),usL,Qe0,if_pos hk13];simp
     ·rw[if_neg hk13,Qac,ih _ _ (by omega) (by omega) (by omega),Qac,ih _ _ (by omega) (by omega) (by simp; omega),Qac,Qa3 (by omega),ih2 _ (by simp; omega),usL,Qe0,if_neg hk13];simp
   have:=main 0 (by omega) h (by simpa using hb);rw[show((0:Nat):Int)=0 from rfl] at this;rw[Qdk,this];simp
 exact fun n l h hn hl hb=>key n l h hn hl (by omega)
theorem Qatd(l:List Qab)(h:nns l≤1000):Qpb l=some (Qpg l):=by
 have hl:=Q82 _ l (Nat.le_refl _);rw[Qpb,Qaro 1000 l [] (by omega) h (by simp),Qac,List.nil_append,Qru (by omega),Qac,Qru (by simp only[srtL,List.length_mergeSort]; omega),Qac];exact congrArg some (Qah8 _)
theorem Qarp(l:List Qae)(s:Nm)(hl:l.length<9223372036854775807):∀ k,k≤l.length→Qe8 l s k=some (match (l.drop k).find? (·.Name==s) with | none =>.inl () | some x =>.inr x.L):=by
 refine upto ?_ fun k hk ih=>?_
 ·rw[Qe8]; simp
 ·rw[Qe8,Qcc hk];simp only[ltI,hk,decide_true,if_true,Qa1,getE hk,Qac,List.find?_cons];cases hb:(l[k].Name==s) with
  | true=>simp
  | false =>
   simp only[Bool.false_eq_true,if_false,Qa3 (show k<9223372036854775807 by omega),ih]
theorem Qarq(l:List Qae)(s:Nm)(hl:l.length<9223372036854775807):∀ k,k≤l.length→Qh5 l s k=some (match (l.drop k).find? (·.Name==s) with | none =>.inl () | some x =>.inr x.L):=by
 refine upto ?_ fun k hk ih=>?_
 ·rw[Qh5]; simp
 ·rw[Qh5,Qcc hk];simp only[ltI,hk,decide_true,if_true,Qa1,getE hk,Qac,List.find?_cons];cases hb:(l[k].Name==s) with
  | true=>simp
  | false =>
   simp only[Bool.false_eq_true,if_false,Qa3 (show k<9223372036854775807 by omega),ih]
def Qib(l:List Qae)(s:Nm):List Qab×Bool:=match fndT l s with | none=>([],false) | some x=>(x.L,true)
theorem Qapp(l:List Qae)(s:Nm)(hl:l.length<9223372036854775807):Qkg l s=some (Qib l s):=by
 have:=Qarp l s hl 0 (by omega);rw[show((0:Nat):Int)=0 from rfl,List.drop_zero] at this;rw[Qkg,this,Qac,Qib,fndT];cases l.find? (·.Name==s)<;>rfl
theorem Qacp(l:List Qae)(s:Nm)(hl:l.length<9223372036854775807):Qhx l s=some (Qib l s):=by
 have:=Qarq l s hl 0 (by omega);rw[show((0:Nat):Int)=0 from rfl,List.drop_zero] at this;rw[Qhx,this,Qac,Qib,fndT];cases l.find? (·.Name==s)<;>rfl
theorem Qacq(l:List Qae)(s:Nm):(Qib l s).2=(fndT l s).isSome:=by
 unfold Qib; cases fndT l s<;>rfl
theorem Qago(l:List Qae)(s:Nm):Qpg (Qib l s).1=suc l s:=by
 unfold Qib suc;cases fndT l s with
 | none=>rfl
 | some x=>rfl
theorem Qw3{α : Type}(k x:Nm)(v : α):∀ m:List (Nm × α),mget (fun a b=>a==b) k (mset (fun a b=>a==b) x v m)=if k=x then some v else mget (fun a b=>a==b) k m
 | []=>by
  unfold mset;rw[mget];by_cases h:k=x
  ·simp[h,mget]
  ·simp[h,mget]
 | p::r=>by
  have ih:=Qw3 k x v r;rw[mset];by_cases hx:x=p.1
  ·rw[if_pos (by simpa using hx),mget,mget];by_cases h:k=x
   ·simp[h]
   ·rw[if_neg h];have h2:¬ k=p.1:=fun e=>h (e.trans hx.symm)
    simp[h,h2]
  ·rw[if_neg (by simpa using hx),mget,ih,mget];by_cases h:k=p.1
   ·have h2:¬ k=x:=fun e=>hx (e.symm.trans h)
    rw[if_pos (by simpa using h),if_neg h2,if_pos (by simpa using h)]
   ·simp[h]
def drwP:List Qae→List (Nm×List Nm)→List (Nm×List Nm)
 | [],m=>m
 | x::r,m=>drwP r (if(mget (fun a b=>a==b) x.Name m).isSome then m else mset (fun a b=>a==b) x.Name (Qpg x.L) m)
theorem Qalf(s:Nm):∀ (l:List Qae) (m:List (Nm×List Nm)),mget (fun a b=>a==b) s (drwP l m)=(mget (fun a b=>a==b) s m).or ((fndT l s).map fun x=>Qpg x.L)
 | [],m=>by
  show mget _ s m=_;cases mget (fun a b=>a==b) s m<;>rfl
 | x::r,m=>by
  rw[drwP,Qalf s r];unfold fndT;rw[List.find?_cons];by_cases hx:x.Name=s
  ·have hb:(x.Name==s)=true:=by simpa using hx
   rw[hb];subst hx;cases hm:mget (fun a b=>a==b) x.Name m with
   | some y=>simp[hm]
   | none=>simp[Qw3]
  ·have hb:(x.Name==s)=false:=by simpa using hx
   rw[hb];split
   ·rfl
   ·rw[Qw3,if_neg (fun e=>hx e.symm)]
def grP(l:List Qae):List (Nm×List Nm):=drwP l []
theorem Qaob(l:List Qae)(s:Nm):mget (fun a b=>a==b) s (grP l)=(fndT l s).map fun x=>Qpg x.L:=by
 rw[grP,Qalf]; rfl
theorem Qagp(l:List Qae)(s:Nm):(mget (fun a b=>a==b) s (grP l)).getD []=suc l s:=by
 rw[Qaob,suc]; cases fndT l s<;>rfl
theorem Qapq(l:List Qae)(s:Nm):(mget (fun a b=>a==b) s (grP l)).isSome=(fndT l s).isSome:=by
 rw[Qaob]; cases fndT l s<;>rfl
structure okTs (l:List Qae):Prop where
 len:l.length≤100
 nn:∀ x ∈ l,nns x.L≤100
 ok:∀ x ∈ l,allL okNd x.L
 nm:∀ x ∈ l,x.Name.length≤100
theorem Qarr(l:List Qae)(ho:okTs l):∀ k,k≤l.length→∀ m,Qdl l k m=some (drwP (l.drop k) m):=by
 have:=ho.len;refine upto ?_ fun k hk ih=>?_
 ·intro m; rw[Qdl]; simp[drwP]
 ·intro m;rw[Qdl,Qcc hk,drwP];simp only[ltI,hk,decide_true,if_true,Qa1,getE hk,Qac];have hu:=Qatd l[k].L (Nat.le_trans (ho.nn _ (List.getElem_mem hk)) (by omega));cases hb:(mget (fun a b=>a==b) l[k].Name m).isSome with
  | true=>simp only[Bool.not_true,Bool.false_eq_true,if_false,if_true,Qa3 (show k<9223372036854775807 by omega),ih]
  | false=>simp only[Bool.not_false,if_true,Bool.false_eq_true,if_false,hu,Qac,Qa3 (show k<9223372036854775807 by omega),ih]
theorem Qars(l:List Qae)(ho:okTs l):Qnb l=some (grP l):=by
 have:=Qarr l ho 0 (by omega) [];rw[show((0:Nat):Int)=0 from rfl,List.drop_zero] at this;rw[Qnb,this]; rfl
theorem Qapr(l:List Nm)(s:Nm)(hl:l.length<9223372036854775807):∀ k,k≤l.length→∃ r,Qa8 l s k=some r∧((∃ j:Nat,r = .inr (j:Int))∧s ∈ l.drop k∨r = .inl ()∧s ∉ l.drop k):=by
 refine upto ?_ fun k hk ih=>?_
 ·refine⟨.inl (),?_,.inr ⟨rfl,by simp⟩⟩;rw[Qa8]; simp
 ·rw[Qa8,Qcc hk];simp only[ltI,hk,decide_true,if_true,Qa1,getE hk,Qac];by_cases h:s=l[k]
  ·exact⟨.inr (k:Int),by simp[h],.inl ⟨⟨k,rfl⟩,by rw[h]; exact List.mem_cons_self⟩⟩
  ·obtain⟨r,h1,h2⟩:=ih;refine⟨r,?_,?_⟩
   ·simp only[beq_iff_eq,h,if_false,Qa3 (show k<9223372036854775807 by omega),h1]
   ·simpa only[List.mem_cons,h,false_or] using h2
theorem Qacr(l:List Nm)(s:Nm)(hl:l.length<9223372036854775807):Qbf l s=some (decide (s ∈ l)):=by
 obtain⟨r,h1,h2⟩:=Qapr l s hl 0 (by omega);rw[show((0:Nat):Int)=0 from rfl] at h1;rw[List.drop_zero] at h2;rw[Qbf,Qcy,h1,Qac];rcases h2 with ⟨⟨j,rfl⟩,h3⟩ | ⟨rfl,h3⟩
 ·have:decide ((j:Int) ≥ 0)=true:=decide_eq_true (by omega);simp only[Qac,this,h3,decide_true]
 ·simp only[Qac,h3,decide_false];rfl
def Met(o:List Nm)(m:List (Nm×Int)):Prop:=∀ s,((mget (fun a b=>a==b) s m).getD 0==0) = !decide (s ∈ o)
theorem Met.set{o:List Nm}{m:List (Nm×Int)}(h:Met o m)(x:Nm):Met (o++[x]) (mset (fun a b=>a==b) x 1 m):=fun s=>by
 rw[Qw3];by_cases hs:s=x
 ·simp[hs]
 ·rw[if_neg hs,h s];simp[hs]
theorem Qart(g:List (Nm×List Nm))(x:List Nm)(hx:x.length<9223372036854775807):∀ k,k≤x.length→∀ m,Met (x.take k) m→∃ m', Qck g x k m=some m' ∧ Met x m' := by
 refine upto ?_ fun k hk ih=>?_
 ·intro m hm;rw[List.take_length] at hm;exact⟨m,by rw[Qck]; simp,hm⟩
 ·intro m hm;obtain⟨m', h1,h2⟩:=ih _ (by rw[List.take_succ_eq_append_getElem hk]; exact hm.set x[k]);refine⟨m', ?_,h2⟩;rw[Qck];simp only[ltI,hk,decide_true,if_true,Qa1,getE hk,Qac,Qa3 (show k<9223372036854775807 by omega),h1]
theorem Qaru(g:List (Nm×List Nm))(v9:Int)(x5:Nm)(ys:List Nm)(hy:(mget (fun a b=>a==b) x5 g).getD []=ys)(hl:ys.length≤1000):∀ k,k≤ys.length→∀ (out:List Nm) (m:List (Nm×Int)),Met out m→out.Nodup→out.length+(ys.length-k)≤1000000 →
  ∃ ext m', Qbx g v9 x5 out k m=some (out++ext,m')∧Met (out++ext) m' ∧ (out++ext).Nodup∧(∀ x ∈ ext,x ∈ ys)∧∀ y ∈ ys.drop k,y ∈ out++ext:=by
 refine upto ?_ fun k hk ih=>?_
 ·intro out m hm hn _;refine⟨[],m,?_,by rwa [List.append_nil],by rwa [List.append_nil],fun x hx=>(nomatch hx),by simp⟩;rw[Qbx,hy]; simp
 ·intro out m hm hn hb;rw[Qbx,hy];simp only[ltI,hk,decide_true,if_true,Qa1,getE hk,Qac,hm ys[k]];by_cases hin:ys[k] ∈ out
  ·obtain⟨ext,m', h1,h2,h3,h4,h5⟩:=ih out m hm hn (by omega);refine⟨ext,m', ?_,h2,h3,h4,fun y hy' => ?_⟩
   ·simp only[hin,decide_true,Bool.not_true,Bool.false_eq_true,if_false,Qa3 (show k<9223372036854775807 by omega),h1]
   ·rw[Qcc hk] at hy';rcases List.mem_cons.1 hy' with rfl | hy'
    ·exact List.mem_append_left _ hin
    ·exact h5 y hy'
  ·obtain⟨ext,m', h1,h2,h3,h4,h5⟩:=ih (out++[ys[k]]) _ (hm.set ys[k]) (List.nodup_append.2 ⟨hn,by simp,fun a ha b hb' => by
    rw[List.mem_singleton.1 hb']; intro e; exact hin (e ▸ ha)⟩) (by simp; omega)
   refine⟨ys[k]::ext,m', ?_,?_,?_,fun x hx=>?_,fun y hy' => ?_⟩
   ·simp only[hin,decide_false,Bool.not_false,if_true];rw[Qes (by simp; omega) (by simp; omega),Qac,Qa3 (by omega),h1];simp
   ·simpa using h2
   ·simpa using h3
   ·rcases List.mem_cons.1 hx with rfl | hx
    ·exact List.getElem_mem hk
    ·exact h4 x hx
   ·rw[Qcc hk] at hy';rcases List.mem_cons.1 hy' with rfl | hy'
    ·simp
    ·simpa using h5 y hy'
theorem Q83{l:List Qae}(ho:okTs l)(s:Nm):(suc l s).length≤100:=by
 unfold suc;split
 ·simp
 ·rename_i x hx;exact Q2m (ho.nn x (List.mem_of_find?_eq_some hx))
theorem Qarv{l:List Qae}(ho:okTs l)(hc:closed l):∀ n i (out:List Nm) (m:List (Nm×Int)),l.length≤n+i→i≤out.length→out.Nodup→(∀ x ∈ out,x ∈ nms l)→Met out m→(∀ k,(hk:k<i)→(hk2:k<out.length)→∀ u ∈ suc l out[k],u ∈ out) →
  ∃ out' m', Qby (grP l) out i m=some (out', m')∧out'.Nodup∧(∀ x ∈ out,x ∈ out')∧(∀ s ∈ out', ∀ u ∈ suc l s,u ∈ out')∧(∀ x ∈ out', x ∈ nms l)∧∀ C:Nm→Prop,(∀ s,C s→∀ u ∈ suc l s,C u)→(∀ x ∈ out,C x)→∀ x ∈ out', C x:=by
 intro n;have hlen:=ho.len;have fin:∀ i (out:List Nm) (m:List (Nm×Int)),¬ i<out.length→out.Nodup→(∀ x ∈ out,x ∈ nms l)→(∀ k,(hk:k<i)→(hk2:k<out.length)→∀ u ∈ suc l out[k],u ∈ out) →
   ∃ out' m', Qby (grP l) out i m=some (out', m')∧out'.Nodup∧(∀ x ∈ out,x ∈ out')∧(∀ s ∈ out', ∀ u ∈ suc l s,u ∈ out')∧(∀ x ∈ out', x ∈ nms l)∧∀ C:Nm→Prop,(∀ s,C s→∀ u ∈ suc l s,C u)→(∀ x ∈ out,C x)→∀ x ∈ out', C x:=fun i out m hi hn hN hs=>by
  refine⟨out,m,?_,hn,fun _ h=>h,fun s hs' u hu=>?_,hN,fun C _ h=>h⟩
  ·rw[Qby];simp only[ltI,hi,decide_false,Bool.false_eq_true,if_false]
  ·obtain⟨k,hk,rfl⟩:=List.mem_iff_getElem.1 hs';exact hs k (by omega) hk u hu
 induction n with
 | zero =>
  intro i out m hi hio hn hN hm hs;have hle:=List.Nodup.length_le_of_subset hn (l₂ := nms l) fun x hx=>hN x hx
  rw[List.length_map] at hle;exact fin i out m (by omega) hn hN hs
 | succ n ih =>
  intro i out m hi hio hn hN hm hs;by_cases hlt:i<out.length
  ·have hle:=List.Nodup.length_le_of_subset hn (l₂ := nms l) fun x hx=>hN x hx
   rw[List.length_map] at hle;have hsl:=Q83 ho out[i];obtain⟨ext,m1,h1,h2,h3,h4,h5⟩:=Qaru (grP l) i out[i] _ (Qagp l out[i]) (by omega) 0 (by omega) out m hm hn (by omega);rw[List.drop_zero] at h5;obtain⟨out', m', g1,g2,g3,g4,g5,g6⟩:=ih (i+1) (out++ext) m1 (by omega) (by simp; omega) h3 (fun x hx=>by
    rcases List.mem_append.1 hx with hx | hx
    ·exact hN x hx
    ·exact hc out[i] x (h4 x hx)) h2 (fun k hk hk2 u hu=>by
    have hkl:k<out.length:=by omega
    rw[List.getElem_append_left hkl] at hu;by_cases hki:k=i
    ·subst hki; exact h5 u hu
    ·exact List.mem_append_left _ (hs k (by omega) hkl u hu))
   refine⟨out', m', ?_,g2,fun x hx=>g3 x (List.mem_append_left _ hx),g4,g5,fun C hC h=>g6 C hC fun x hx=>?_⟩
   ·rw[show((0:Nat):Int)=0 from rfl] at h1;rw[Qby];simp only[ltI,hlt,decide_true,if_true,Qa1,getE hlt,Qac,h1,Qa3 (show i<9223372036854775807 by omega),g1]
   ·rcases List.mem_append.1 hx with hx | hx
    ·exact h x hx
    ·exact hC out[i] (h _ (List.getElem_mem hlt)) x (h4 x hx)
  ·exact fin i out m hlt hn hN hs
theorem Qarw{l:List Qae}(ho:okTs l)(hc:closed l){o:List Nm}(hn:o.Nodup)(hN:∀ x ∈ o,x ∈ nms l):Qft o (grP l)=some (froP l (upL o)):=by
 have hlen:=ho.len;have hle:=List.Nodup.length_le_of_subset hn (l₂ := nms l) fun x hx=>hN x hx
 rw[List.length_map] at hle;obtain⟨m1,h1,h2⟩:=Qart (grP l) o (by omega) 0 (by omega) [] (fun s=>by simp[mget]);obtain⟨out,m2,g1,g2,g3,g4,g5,g6⟩:=Qarv ho hc l.length 0 o m1 (by omega) (by omega) hn hN h2 (fun k hk=>by omega);have hol:=List.Nodup.length_le_of_subset g2 (l₂ := nms l) fun x hx=>g5 x hx
 rw[List.length_map] at hol;rw[show((0:Nat):Int)=0 from rfl] at h1 g1;rw[Qft,Qcx,Qes (by simp; omega) (by simp; omega),Qac,List.nil_append,h1,Qac,g1,Qac,Qru (by show out.length<_; omega),Qac];refine congrArg some ?_;show(out.mergeSort fun x y=>decide (x≤y))=_;rw[Qalb g2];have hN2:∀ x ∈ upL o,x ∈ nms l:=fun x hx=>hN x (Qgr.1 hx)
 refine Qyv (Qjf _) (Qaer (Qjf _)) fun x=>?_
 rw[Qgr];exact⟨g6 (fun x=>x ∈ froP l (upL o)) (fun s hs u hu=>Qvt hc (Qjf o) hN2 s hs u hu) (fun x hx=>Qagl (Qgr.2 hx)) x,
  Qx2 (C:=fun x=>x ∈ out) (fun s hs u hu=>g4 s hs u hu) (fun x hx=>g3 x (Qgr.1 hx)) x⟩
theorem Qaoc{l:List Qae}(ho:okTs l){v:List Nm}(hu:up v)(hN:∀ x ∈ v,x ∈ nms l):v.length≤100:=by
 have hle:=List.Nodup.length_le_of_subset (Qkv hu) (l₂ := nms l) fun x hx=>hN x hx
 rw[List.length_map] at hle;exact Nat.le_trans hle ho.len
theorem Qate(l:List Qae)(ho:okTs l)(v7:List Nm)(v8 v10:Int)(x7:List Nm)(hx:x7.length≤1000)(hx2:∀ x ∈ x7,x ∈ nms l):∀ k,k≤x7.length→∀ v:List Nm,up v→(∀ x ∈ v,x ∈ nms l)→Qgj l v7 v8 v10 x7 v k=some (upL (v++x7.drop k)):=by
 refine upto ?_ fun k hk ih=>?_
 ·intro v hv _;rw[Qgj];simp[Qacn hv]
 ·intro v hv hN;have hl:=Qaoc ho hv hN;rw[Qgj,Qcc hk];simp only[ltI,hk,decide_true,if_true,Qa1,getE hk,Qac];rw[Qapn v _ hv (by omega),Qac,Qa3 (by omega),ih _ (Qx1 _ hv) (fun x hx' => by
   rcases (Qn2 _ _ _).1 hx' with rfl | hx'
   ·exact hx2 _ (List.getElem_mem hk)
   ·exact hN x hx')]
  refine congrArg some (Qagk fun y=>?_);simp only[List.mem_append,Qn2,List.mem_cons];constructor
  ·rintro ((h | h) | h)
   ·exact .inr (.inl h)
   ·exact .inl h
   ·exact .inr (.inr h)
  ·rintro (h | h | h)
   ·exact .inl (.inr h)
   ·exact .inl (.inl h)
   ·exact .inr h
theorem Qacs{l:List Qae}(ho:okTs l)(s:Nm):Qeq (Qib l s).1=some (suc l s):=by
 rw[← Qago];refine Qapo 1000 _ (Nat.le_refl _) ?_;unfold Qib;cases hf:fndT l s with
 | none=>simp[nns]
 | some x=>exact Nat.le_trans (ho.nn x (List.mem_of_find?_eq_some hf)) (by omega)
theorem Qatf(l:List Qae)(ho:okTs l)(hc:closed l)(v7:List Nm)(hv7:v7.length≤1000)(v8:Int):∀ k,k≤v7.length→∀ v:List Nm,up v→(∀ x ∈ v,x ∈ nms l)→Qgk l v7 v8 v k=some (upL (v++(v7.drop k).flatMap (suc l))):=by
 have hlen:=ho.len;refine upto ?_ fun k hk ih=>?_
 ·intro v hv _;rw[Qgk];simp[Qacn hv]
 ·intro v hv hN;rw[Qgk,Qcc hk];simp only[ltI,hk,decide_true,if_true,Qa1,getE hk,Qac,Qacp l _ (by omega:l.length<9223372036854775807),Qacs ho];have h3:=Qate l ho v7 v8 k (suc l v7[k]) (Nat.le_trans (Q83 ho _) (by omega)) (hc v7[k]) 0 (by omega) v hv hN;rw[show((0:Nat):Int)=0 from rfl,List.drop_zero] at h3;rw[h3,Qac,Qa3 (by omega),ih _ (Qjf _) (fun x hx=>by
   rw[Qgr,List.mem_append] at hx;exact hx.elim (hN x) (hc _ x))]
  refine congrArg some (Qagk fun y=>?_);simp only[List.mem_append,Qgr,List.flatMap_cons,or_assoc]
theorem Qatg(l:List Qae)(ho:okTs l)(hc:closed l):∀ k,k≤l.length→∀ v:List Nm,up v→(∀ x ∈ v,x ∈ nms l)→Qgl l v k=some (clo l (l.length-k) v):=by
 have hlen:=ho.len;refine upto ?_ fun k hk ih=>?_
 ·intro v _ _;rw[Qgl];simp[clo]
 ·intro v hv hN;have hl:=Qaoc ho hv hN;rw[Qgl];simp only[ltI,hk,decide_true,if_true];have h2:=Qatf l ho hc v (by omega) k 0 (by omega) v hv hN;rw[show((0:Nat):Int)=0 from rfl,List.drop_zero] at h2;rw[h2,Qac,Qa3 (by omega),ih _ (Qjf _) (fun x hx=>by
   rw[Qgr,List.mem_append,List.mem_flatMap] at hx;exact hx.elim (hN x) fun⟨s,_,hs⟩=>hc s x hs),show l.length-k=(l.length-(k+1))+1 by omega,clo]
  rfl
theorem Qarx(l:List Qae)(ho:okTs l)(hc:closed l)(s:Nm):Qss l s=some (reaP l s):=by
 have hlen:=ho.len;have h1:=Qatg l ho hc 0 (by omega) (suc l s) (Qyw l s) (hc s);rw[show((0:Nat):Int)=0 from rfl] at h1;rw[Qss,Qacp l s (by omega),Qac,Qacs ho,Qac,h1];rfl
def fitT (x:Qae):Bool:=Qhn x.Name&&isP x.L
def ck1 (pre:List Qae):List Qae→Option (Nm×Int)
 | []=>none
 | x::r=>if !fitT x then some (x.Name,7) else if(fndT pre x.Name).isSome then some (x.Name,9) else ck1 (pre++[x]) r
def lost(l:List Qae)(x:Qae):Bool:=(suc l x.Name).any fun u => !(fndT l u).isSome
def ring(l:List Qae)(x:Qae):Bool:=decide (x.Name ∈ reaP l x.Name)
def Qir (l:List Qae):Nm×Int :=
 if l.length>16 then([],5) else
 match ck1 [] l with
 | some b=>b
 | none =>
  match l.find? (lost l) with
  | some x=>(x.Name,4)
  | none =>
   match l.find? (ring l) with
   | some x=>(x.Name,10)
   | none=>([],0)
theorem Qary{l:List Qae}{k:Nat}(hk:k<l.length):l.take k++[l[k]]=l.take (k+1):=(List.take_succ_eq_append_getElem hk).symm
theorem Qaps(l:List Qae)(ho:okTs l):∀ k,k≤l.length→Qeg l k=some (match ck1 (l.take k) (l.drop k) with | none =>.inl () | some b =>.inr b):=by
 have hlen:=ho.len;refine upto ?_ fun k hk ih=>?_
 ·rw[Qeg]; simp[ck1]
 ·have hm:=List.getElem_mem hk;have h1:=Qapb l[k].Name (Nat.lt_of_le_of_lt (ho.nm _ hm) (by omega));have h2:=tIs l[k].L (Nat.le_trans (ho.nn _ hm) (by omega)) (ho.ok _ hm);have h3:cutL l 0 (k:Int)=some (l.take k):=by rw[Qmq (by omega) (by omega) (by omega)]; simp
  have h4:=Qapp (l.take k) l[k].Name (by simp; omega);rw[Qeg,Qcc hk,ck1];simp only[ltI,hk,decide_true,if_true,Qa1,getE hk,Qac,h1,h2,h3,h4,fitT,Qacq];rcases Bool.eq_false_or_eq_true (Qhn l[k].Name) with hn | hn
  ·rcases Bool.eq_false_or_eq_true (isP l[k].L) with hi | hi
   ·simp only[hn,hi,Bool.not_true,Bool.false_eq_true,if_false,Qac,Bool.and_true];rcases Bool.eq_false_or_eq_true (fndT (l.take k) l[k].Name).isSome with hf | hf
    ·simp[hf]
    ·simp only[hf,Bool.false_eq_true,if_false,Qa3 (show k<9223372036854775807 by omega),ih,Qary hk]
   ·simp[hn,hi]
  ·simp[hn]
theorem Qapt(l:List Qae)(ho:okTs l):∀ k,k≤l.length→Qge l k=some (match ck1 (l.take k) (l.drop k) with | none =>.inl () | some b =>.inr b):=by
 have hlen:=ho.len;refine upto ?_ fun k hk ih=>?_
 ·rw[Qge]; simp[ck1]
 ·have hm:=List.getElem_mem hk;have h1:=Qapc l[k].Name (Nat.lt_of_le_of_lt (ho.nm _ hm) (by omega));have h2:=rIs l[k].L (Nat.le_trans (ho.nn _ hm) (by omega)) (ho.ok _ hm);have h3:cutL l 0 (k:Int)=some (l.take k):=by rw[Qmq (by omega) (by omega) (by omega)]; simp
  have h4:=Qacp (l.take k) l[k].Name (by simp; omega);rw[Qge,Qcc hk,ck1];simp only[ltI,hk,decide_true,if_true,Qa1,getE hk,Qac,h1,h2,h3,h4,fitT,Qacq];rcases Bool.eq_false_or_eq_true (Qhn l[k].Name) with hn | hn
  ·rcases Bool.eq_false_or_eq_true (isP l[k].L) with hi | hi
   ·simp only[hn,hi,Bool.not_true,Bool.false_eq_true,if_false,Qac,Bool.and_true];rcases Bool.eq_false_or_eq_true (fndT (l.take k) l[k].Name).isSome with hf | hf
    ·simp[hf]
    ·simp only[hf,Bool.false_eq_true,if_false,Qa3 (show k<9223372036854775807 by omega),ih,Qary hk]
   ·simp[hn,hi]
  ·simp[hn]
theorem Qalg:∀ (l pre:List Qae),(nms pre).Nodup→ck1 pre l=none→(nms (pre++l)).Nodup∧∀ x ∈ l,fitT x=true
 | [],pre,hn,_=>by simpa using hn
 | x::r,pre,hn,h=>by
  unfold ck1 at h;cases hf:fitT x with
  | false=>rw[hf] at h; simp at h
  | true =>
   rw[hf,if_neg (by simp)] at h;cases hs:(fndT pre x.Name).isSome with
   | true=>rw[hs,if_pos rfl] at h; cases h
   | false =>
    rw[hs,if_neg (by simp)] at h;have hnot:x.Name ∉ nms pre:=fun k=>by rw[Q2n.2 k] at hs; cases hs
    obtain⟨h1,h2⟩:=Qalg r (pre++[x]) (by
     rw[show nms (pre++[x])=nms pre++[x.Name] from List.map_append];exact List.nodup_append.2 ⟨hn,by simp,fun a ha b hb e=>hnot (by rw[List.mem_singleton.1 hb] at e; exact e ▸ ha)⟩) h
    refine⟨by simpa using h1,fun y hy=>?_⟩;rcases List.mem_cons.1 hy with rfl | hy
    ·exact hf
    ·exact h2 y hy
theorem Qapu(l:List Qae)(v:Int)(x:Qae)(us:List Nm)(hx:suc l x.Name=us)(hl:us.length≤1000):∀ k,k≤us.length→Qeh l (grP l) v x k=some (if((us.drop k).any fun u => !(fndT l u).isSome)=true then .inr () else .inl ()):=by
 refine upto ?_ fun k hk ih=>?_
 ·rw[Qeh,Qagp,hx]; simp
 ·rw[Qeh,Qagp,hx,Qcc hk];simp only[ltI,hk,decide_true,if_true,Qa1,getE hk,Qac,Qapq,List.any_cons];rcases Bool.eq_false_or_eq_true (fndT l us[k]).isSome with hb | hb
  ·simp only[hb,Bool.not_true,Bool.false_eq_true,if_false,Bool.false_or,Qa3 (show k<9223372036854775807 by omega),ih]
  ·simp only[hb,Bool.not_false,if_true,Bool.true_or]
theorem Qapv(l:List Qae)(ho:okTs l):∀ k,k≤l.length→Qei l (grP l) k=some (match (l.drop k).find? (lost l) with | none =>.inl () | some x =>.inr x.Name):=by
 have hlen:=ho.len;refine upto ?_ fun k hk ih=>?_
 ·rw[Qei]; simp
 ·have h3:=Qapu l k l[k] _ rfl (Nat.le_trans (Q83 ho _) (by omega)) 0 (by omega);rw[show((0:Nat):Int)=0 from rfl,List.drop_zero] at h3;rw[Qei,Qcc hk];simp only[ltI,hk,decide_true,if_true,Qa1,getE hk,Qac,h3,List.find?_cons];rw[show((suc l l[k].Name).any fun u => !(fndT l u).isSome)=lost l l[k] from rfl];cases hb:lost l l[k] with
  | true=>rfl
  | false=>simp only[Bool.false_eq_true,if_false,Qa3 (show k<9223372036854775807 by omega),ih]
theorem Qapw(l:List Qae)(hll:l.length≤1000)(v:Nat)(hv:v<l.length)(us:List Nm)(hl:us.length≤1000):∀ k,k≤us.length→Qgf l v us k=some (if((us.drop k).any fun u => !(fndT l u).isSome)=true then .inr l[v].Name else .inl ()):=by
 refine upto ?_ fun k hk ih=>?_
 ·rw[Qgf]; simp
 ·rw[Qgf,Qcc hk];simp only[ltI,hk,decide_true,if_true,Qa1,getE hk,getE hv,Qac,Qacp l _ (by omega:l.length<9223372036854775807),Qacq,List.any_cons];rcases Bool.eq_false_or_eq_true (fndT l us[k]).isSome with hb | hb
  ·simp only[hb,Bool.not_true,Bool.false_eq_true,if_false,Bool.false_or,Qa3 (show k<9223372036854775807 by omega),ih]
  ·simp only[hb,Bool.not_false,if_true,Bool.true_or]
theorem Qapx{l:List Qae}(ho:okTs l)(hn:(nms l).Nodup){x:Qae}(hx:x ∈ l):Qeq x.L=some (suc l x.Name):=by
 rw[Qapm hn hx];exact Qapo 1000 _ (Nat.le_refl _) (Nat.le_trans (ho.nn x hx) (by omega))
theorem Qapy(l:List Qae)(ho:okTs l)(hn:(nms l).Nodup):∀ k,k≤l.length→Qgi l k=some (match (l.drop k).find? (lost l) with | none =>.inl () | some x =>.inr x.Name):=by
 have hlen:=ho.len;refine upto ?_ fun k hk ih=>?_
 ·rw[Qgi]; simp
 ·have h3:=Qapw l (by omega) k hk (suc l l[k].Name) (Nat.le_trans (Q83 ho _) (by omega)) 0 (by omega);rw[show((0:Nat):Int)=0 from rfl,List.drop_zero] at h3;rw[Qgi,Qcc hk];simp only[ltI,hk,decide_true,if_true,Qa1,getE hk,Qac,Qapx ho hn (List.getElem_mem hk),h3,List.find?_cons];rw[show((suc l l[k].Name).any fun u => !(fndT l u).isSome)=lost l l[k] from rfl];cases hb:lost l l[k] with
  | true=>rfl
  | false=>simp only[Bool.false_eq_true,if_false,Qa3 (show k<9223372036854775807 by omega),ih]
theorem Qvu{l:List Qae}(h:l.find? (lost l)=none):closed l:=fun s u hu=>by
 cases hf:fndT l s with
 | none=>unfold suc at hu; rw[hf] at hu; cases hu
 | some x =>
  have hx:=List.mem_of_find?_eq_some hf;have he:x.Name=s:=by have:=List.find?_some hf; simpa using this
  have hl:=List.find?_eq_none.1 h x hx;have hl:lost l x=false:=by simpa using hl
  unfold lost at hl;rw[List.any_eq_false] at hl;have:=hl u (by rw[he]; exact hu);exact Q2n.1 (by cases hu2:(fndT l u).isSome with | true=>rfl | false=>rw[hu2] at this; exact absurd rfl this)
theorem Qapz(l:List Qae)(ho:okTs l)(hc:closed l):∀ k,k≤l.length→Qej l (grP l) k=some (match (l.drop k).find? (ring l) with | none =>.inl () | some x =>.inr x.Name):=by
 have hlen:=ho.len;refine upto ?_ fun k hk ih=>?_
 ·rw[Qej]; simp
 ·have hf:=Qarw ho hc (Qkv (Qyw l l[k].Name)) (hc l[k].Name);rw[Qacn (Qyw l l[k].Name)] at hf;have hfl:=Qagm hc (Qyw l l[k].Name) (hc l[k].Name);rw[Qej,Qcc hk];simp only[ltI,hk,decide_true,if_true,Qa1,getE hk,Qac,Qagp,hf,Qacr _ l[k].Name (by omega:(froP l (suc l l[k].Name)).length<9223372036854775807),List.find?_cons];rw[show decide (l[k].Name ∈ froP l (suc l l[k].Name))=ring l l[k] from rfl];cases hb:ring l l[k] with
  | true=>rfl
  | false=>simp only[Bool.false_eq_true,if_false,Qa3 (show k<9223372036854775807 by omega),ih]
theorem Qap0(l:List Qae)(ho:okTs l)(hc:closed l):∀ k,k≤l.length→Qgm l k=some (match (l.drop k).find? (ring l) with | none =>.inl () | some x =>.inr x.Name):=by
 have hlen:=ho.len;refine upto ?_ fun k hk ih=>?_
 ·rw[Qgm]; simp
 ·have hfl:=Qagm hc (Qyw l l[k].Name) (hc l[k].Name);rw[Qgm,Qcc hk];simp only[ltI,hk,decide_true,if_true,Qa1,getE hk,Qac,Qarx l ho hc,rIn (reaP l l[k].Name) l[k].Name (show(froP l (suc l l[k].Name)).length<9223372036854775807 by omega),List.find?_cons];rw[show decide (l[k].Name ∈ reaP l l[k].Name)=ring l l[k] from rfl];cases hb:ring l l[k] with
  | true=>rfl
  | false=>simp only[Bool.false_eq_true,if_false,Qa3 (show k<9223372036854775807 by omega),ih]
theorem Qarz(n:Nat):decide ((n:Int)>16)=decide (n>16):=by
 by_cases h:n>16
 ·rw[decide_eq_true h]; exact decide_eq_true (by omega)
 ·rw[decide_eq_false h]; exact decide_eq_false (by omega)
theorem Qar0(l:List Qae)(ho:okTs l):Qnc l=some (Qir l):=by
 have h1:=Qaps l ho 0 (by omega);have h2:=Qapv l ho 0 (by omega);have h4:=fun hc=>Qapz l ho hc 0 (by omega)
 rw[show((0:Nat):Int)=0 from rfl] at h1 h2;rw[List.take_zero,List.drop_zero] at h1;rw[List.drop_zero] at h2;rw[Qnc,Qir,Qarz];by_cases hm:l.length>16
 ·simp[hm]
 ·simp only[hm,decide_false,Bool.false_eq_true,if_false,h1,Qac,Qars l ho];cases hk:ck1 [] l with
  | some b=>rfl
  | none =>
   simp only[h2,Qac];cases hl:l.find? (lost l) with
   | some x=>rfl
   | none =>
    have h4:=h4 (Qvu hl);rw[show((0:Nat):Int)=0 from rfl,List.drop_zero] at h4;simp only[h4,Qac];cases hr:l.find? (ring l)<;>rfl
theorem Qaod(l:List Qae)(ho:okTs l):Qo7 l=some (Qir l):=by
 have h1:=Qapt l ho 0 (by omega);have h2:=fun hn=>Qapy l ho hn 0 (by omega)
 have h4:=fun hc=>Qap0 l ho hc 0 (by omega)
 rw[show((0:Nat):Int)=0 from rfl] at h1;rw[List.take_zero,List.drop_zero] at h1;rw[Qo7,Qir,Qarz];by_cases hm:l.length>16
 ·simp[hm]
 ·simp only[hm,decide_false,Bool.false_eq_true,if_false,h1,Qac];cases hk:ck1 [] l with
  | some b=>rfl
  | none =>
   have h2:=h2 (Qalg l [] (by simp) hk).1;rw[show((0:Nat):Int)=0 from rfl,List.drop_zero] at h2;simp only[h2,Qac];cases hl:l.find? (lost l) with
   | some x=>rfl
   | none =>
    have h4:=h4 (Qvu hl);rw[show((0:Nat):Int)=0 from rfl,List.drop_zero] at h4;simp only[h4,Qac];cases hr:l.find? (ring l)<;>rfl
structure fine (l:List Qae):Prop where
 many:l.length≤16
 nodup:(nms l).Nodup
 fit:∀ x ∈ l,fitT x=true
 closed:closed l
 noring:∀ s ∈ nms l,s ∉ reaP l s
theorem Qx3{l:List Qae}(h:(Qir l).2=0):fine l∧(Qir l).1=[]:=by
 unfold Qir at h ⊢;by_cases hm:l.length>16
 ·rw[if_pos hm] at h; cases h
 ·rw[if_neg hm] at h ⊢;cases hk:ck1 [] l with
  | some b =>
   rw[hk] at h;exfalso;have key:∀ (r pre:List Qae) (b:Nm×Int),ck1 pre r=some b→b.2≠0:=by
    intro r
    induction r with
    | nil=>intro pre b hb; cases hb
    | cons x r ih =>
     intro pre b hb;unfold ck1 at hb;split at hb
     ·cases hb; exact fun e=>by cases e
     ·split at hb
      ·cases hb; exact fun e=>by cases e
      ·exact ih _ _ hb
   exact key l [] b hk h
  | none =>
   rw[hk] at h;simp only at h ⊢;obtain⟨a1,a2⟩:=Qalg l [] (by simp) hk;cases hl:l.find? (lost l) with
   | some x=>rw[hl] at h; cases h
   | none =>
    rw[hl] at h;simp only at h ⊢;cases hr:l.find? (ring l) with
    | some x=>rw[hr] at h; cases h
    | none =>
     refine⟨⟨by omega,a1,a2,Qvu hl,fun s hs hin=>?_⟩,rfl⟩;obtain⟨x,hx,rfl⟩:=List.mem_map.1 hs;have:=List.find?_eq_none.1 hr x hx;exact this (by unfold ring; exact decide_eq_true hin)
def bndP(l:List Qak)(s:Nm):Bool:=match l.reverse.find? (·.Name==s) with | none=>false | some b=>b.Secret
mutual
def secN:Qab→List Qak→Bool
 | ⟨k,s,_,_,a,_,_⟩,l=>if k==7 then true else if k==4 then bndP l s else if k==5||k==6 then secL a l else false
def secL:List Qab→List Qak→Bool
 | [],_=>false
 | x::r,l=>secN x l||secL r l
end
theorem Qap1(x:Qab)(l:List Qak):secN x l=if x.Kind==7 then true else if x.Kind==4 then bndP l x.Name else if x.Kind==5||x.Kind==6 then secL x.L l else false:=by cases x; rw[secN]
theorem Qagq{α : Type}(l:List α)(k:Nat)(hk:k<l.length):(l.take (k+1)).reverse=l[k]::(l.take k).reverse:=by
 rw[List.take_succ_eq_append_getElem hk,List.reverse_append]; rfl
def Qact(k:Int)(nm:Nm)(s:Bool)(bs:List Qak):List Qak:=if k==11 then bs++[⟨nm,0,false⟩] else if k==12 then bs++[⟨nm,0,s⟩] else bs
def hdS(a:List Qab)(bs:List Qak):Bool:=match a with | []=>false | y::_=>secN y bs
abbrev Que:Qfu:=⟨[],false,false⟩
mutual
def stS(U:Nm→Bool→Qfu)(w:Nm):Qab→List Qak→Qfu
 | ⟨k,nm,_,_,a,t,e⟩,bs =>
  if k==8 then Que else
  if hdS a bs&&(k==10||k==11) then⟨w,true,false⟩ else
  if(blS U w t (Qact k nm (hdS a bs) bs)).Bad then blS U w t (Qact k nm (hdS a bs) bs) else
  if(blS U w e bs).Bad then blS U w e bs else
  if(if k==13 then U nm (hdS a bs) else Que).Bad then U nm (hdS a bs) else
  ⟨[],false,(k==9&&hdS a bs)||((blS U w t (Qact k nm (hdS a bs) bs)).Tells||((blS U w e bs).Tells||(if k==13 then U nm (hdS a bs) else Que).Tells))⟩
def blS(U:Nm→Bool→Qfu)(w:Nm):List Qab→List Qak→Qfu
 | [],_=>Que
 | x::r,bs=>if(stS U w x bs).Bad then stS U w x bs else if(blS U w r bs).Bad then blS U w r bs else⟨[],false,(stS U w x bs).Tells||(blS U w r bs).Tells⟩
end
theorem Qalh(U:Nm→Bool→Qfu)(w:Nm)(x:Qab)(bs:List Qak):stS U w x bs =
  if x.Kind==8 then Que else
  if hdS x.L bs&&(x.Kind==10||x.Kind==11) then⟨w,true,false⟩ else
  if(blS U w x.Then (Qact x.Kind x.Name (hdS x.L bs) bs)).Bad then blS U w x.Then (Qact x.Kind x.Name (hdS x.L bs) bs) else
  if(blS U w x.Else bs).Bad then blS U w x.Else bs else
  if(if x.Kind==13 then U x.Name (hdS x.L bs) else Que).Bad then U x.Name (hdS x.L bs) else
  ⟨[],false,(x.Kind==9&&hdS x.L bs)||((blS U w x.Then (Qact x.Kind x.Name (hdS x.L bs) bs)).Tells||((blS U w x.Else bs).Tells||(if x.Kind==13 then U x.Name (hdS x.L bs) else Que).Tells))⟩:=by cases x; rw[stS]
theorem Qagr{U V:Nm→Bool→Qfu}(w:Nm):∀ n (l:List Qab) (bs:List Qak),nns l≤n→(∀ u ∈ usL l,∀ b,U u b=V u b)→blS U w l bs=blS V w l bs:=by
 intro n
 induction n with
 | zero =>
  intro l bs h _;cases l with
  | nil=>rw[blS,blS]
  | cons x r=>rw[nns] at h; have:=Qhl x; omega
 | succ n ih =>
  intro l
  induction l with
  | nil=>intro bs _ _; rw[blS,blS]
  | cons x r ihr =>
   intro bs h hU;rw[nns] at h;have e:=Qhg x;have h1:∀ u ∈ usL x.Then,∀ b,U u b=V u b:=fun u hu=>hU u (by rw[usL,Qe0]; simp[hu])
   have h2:∀ u ∈ usL x.Else,∀ b,U u b=V u b:=fun u hu=>hU u (by rw[usL,Qe0]; simp[hu])
   have h3:∀ b,(if x.Kind==13 then U x.Name b else Que)=(if x.Kind==13 then V x.Name b else Que):=fun b=>by
    split
    ·rename_i hk;exact hU x.Name (by rw[usL,Qe0,if_pos hk]; simp) b
    ·rfl
   have hs:stS U w x bs=stS V w x bs:=by
    rw[Qalh,Qalh,ih x.Then _ (by omega) h1,ih x.Else _ (by omega) h2,h3];split
    ·rfl
    ·split
     ·rfl
     ·split
      ·rfl
      ·split
       ·rfl
       ·by_cases hk:x.Kind==13
        ·rw[if_pos hk,hU x.Name (by rw[usL,Qe0,if_pos hk]; simp)]
        ·rw[if_neg hk]; rfl
   rw[blS,blS,hs,ihr bs (by omega) fun u hu=>hU u (by rw[usL]; simp[hu])]
def itB(b:Bool):List Qak:=[⟨[103,114,111,117,112],0,false⟩,⟨[105,116],0,b⟩]
def uF(l:List Qae):Nat→Nm→Bool→Qfu
 | 0,_,_=>Que
 | n+1,s,b=>blS (uF l n) s (Qib l s).1 (itB b)
def uS(l:List Qae)(s:Nm)(b:Bool):Qfu:=uF l ((reaP l s).length+1) s b
theorem Qlu{l:List Qae}{s u:Nm}(h:u ∈ usL (Qib l s).1):u ∈ suc l s:=by
 rw[← Qago]; exact Qgr.2 h
theorem Qali{l:List Qae}(hf:fine l):∀ n m s b,(reaP l s).length<n→(reaP l s).length<m→uF l n s b=uF l m s b
 | 0,_,_,_,h,_=>absurd h (Nat.not_lt_zero _)
 | _+1,0,_,_,_,h=>absurd h (Nat.not_lt_zero _)
 | n+1,m+1,s,b,h1,h2=>by
  rw[uF,uF];refine Qagr s _ _ _ (Nat.le_refl _) fun u hu b' => ?_
  have:=Qhz hf.closed hf.noring (Qlu hu);exact Qali hf n m u b' (by omega) (by omega)
theorem Qar1{l:List Qae}(hf:fine l)(s:Nm)(b:Bool):uS l s b=blS (uS l) s (Qib l s).1 (itB b):=by
 rw[uS,uF];refine Qagr s _ _ _ (Nat.le_refl _) fun u hu b' => ?_
 have:=Qhz hf.closed hf.noring (Qlu hu);exact Qali hf _ _ u b' (by omega) (by omega)
mutual
def goN:Qab→Prop
 | ⟨k,_,_,_,a,t,e⟩=>(k≠8→a.length=1)∧(k=13∨k=9→t=[]∧e=[])∧goL t∧goL e
def goL:List Qab→Prop
 | []=>True
 | x::r=>goN x∧goL r
end
theorem Qalj(x:Qab):goN x↔(x.Kind≠8→x.L.length=1)∧(x.Kind=13∨x.Kind=9→x.Then=[]∧x.Else=[])∧goL x.Then∧goL x.Else:=by cases x; rw[goN]
theorem Qaes:∀ {l:List Qab} {x:Qab},x ∈ l→goL l→goN x
 | y::r,x,h,hg=>by
  rw[goL] at hg;rcases List.mem_cons.1 h with rfl | h
  ·exact hg.1
  ·exact Qaes h hg.2
theorem Qani:∀ n (l:List Qab) (b:Bool),nns l≤n→Qbp l b=true→goL l:=by
 intro n
 induction n with
 | zero =>
  intro l b h _;cases l with
  | nil=>rw[goL]; trivial
  | cons x r=>rw[nns] at h; have:=Qhl x; omega
 | succ n ih =>
  intro l
  induction l with
  | nil=>intro _ _ _; rw[goL]; trivial
  | cons x r ihr =>
   intro b h hb;rw[nns] at h;have e:=Qhg x;rw[Qbp,Bool.and_eq_true,Bool.and_eq_true] at hb;rw[goL];refine⟨?_,ihr b (by omega) hb.2.2⟩;have hs:=hb.1;rw[Qqc] at hs;rw[Qalj];have nilg:goL []:=by rw[goL]; trivial
   by_cases h8:x.Kind=8
   ·rw[if_pos (by simpa using h8)] at hs;simp only[Bool.and_eq_true] at hs;have hT:=Qw2 hs.2.2.2.2.2.1;have hE:=Qw2 hs.2.2.2.2.2.2;rw[hT,hE];exact⟨fun k=>absurd h8 k,fun _=>⟨rfl,rfl⟩,nilg,nilg⟩
   ·rw[if_neg (by simpa using h8)] at hs;by_cases h9:x.Kind=9
    ·rw[if_pos (by simpa using h9)] at hs;simp only[Bool.and_eq_true,beq_iff_eq] at hs;have hT:=Qw2 hs.2.2.2.2.1;have hE:=Qw2 hs.2.2.2.2.2;rw[hT,hE];exact⟨fun _=>hs.1.1,fun _=>⟨rfl,rfl⟩,nilg,nilg⟩
    ·rw[if_neg (by simpa using h9)] at hs;by_cases h10:x.Kind=10
     ·rw[if_pos (by simpa using h10)] at hs;simp only[Bool.and_eq_true,beq_iff_eq] at hs;exact⟨fun _=>hs.1.1,fun k=>by rcases k with k | k<;>(rw[h10] at k; cases k),ih _ true (by omega) hs.2.1.1,ih _ true (by omega) hs.2.1.2⟩
     ·rw[if_neg (by simpa using h10)] at hs;by_cases h11:(x.Kind==11||x.Kind==12)=true
      ·rw[if_pos h11] at hs;simp only[Bool.and_eq_true,beq_iff_eq] at hs;have hE:=Qw2 hs.2.2.2.2.2;rw[hE];exact⟨fun _=>hs.2.1.1,fun k=>by
        rw[Bool.or_eq_true,beq_iff_eq,beq_iff_eq] at h11;omega,ih _ true (by omega) hs.2.2.1,nilg⟩
      ·rw[if_neg h11] at hs;by_cases h13:x.Kind=13
       ·rw[if_pos (by simpa using h13)] at hs;simp only[Bool.and_eq_true,beq_iff_eq] at hs;have hT:=Qw2 hs.2.2.2.2.1;have hE:=Qw2 hs.2.2.2.2.2;rw[hT,hE];exact⟨fun _=>hs.2.1.1,fun _=>⟨rfl,rfl⟩,nilg,nilg⟩
       ·rw[if_neg (by simpa using h13)] at hs;cases hs
theorem Q2o{l:List Qae}(hf:fine l)(s:Nm):goL (Qib l s).1:=by
 unfold Qib;cases hq:fndT l s with
 | none=>show goL []; rw[goL]; trivial
 | some x =>
  have:=hf.fit x (List.mem_of_find?_eq_some hq);unfold fitT isP at this;simp only[Bool.and_eq_true] at this;exact Qani _ x.L false (Nat.le_refl _) this.2.2.2
theorem Qqe{l:List Qae}(ho:okTs l)(s:Nm):nns (Qib l s).1≤100:=by
 unfold Qib;cases hq:fndT l s with
 | none=>simp[nns]
 | some x=>exact ho.nn x (List.mem_of_find?_eq_some hq)
theorem Qoo:∀ {q:List Qab} {x:Qab},x ∈ q→∀ v ∈ usN x,v ∈ usL q
 | z::q,x,hx,v,hv=>by
  rw[usL,List.mem_append];rcases List.mem_cons.1 hx with rfl | hx
  ·exact .inl hv
  ·exact .inr (Qoo hx v hv)
section
variable {P:Program} {tb:Tbl}
theorem Qaet{f:FuncId}{fn:Func}{c:Code}{us:Array Value}{G:Gh}{w:World}{B:Nat×Nat}{Q:Exit→St→Prop}{σ0:St}{R:Ending→World→Prop}{z:List UInt8}(hf:P.funcs[f]? = some fn)(hb:fn.body=some c)(h:T B P fn.ntmps c Q σ0)
  (hR:Rel fn.ntmps G σ0 { tmps:=us++Array.replicate (fn.ntmps-us.size) undef,defers:=[] } w)
  (hQ:∀ e G' σ' a' w', Ex B G w G' w' → Rel fn.ntmps G' σ' a' w' → Q e σ' → e = .panic (Qml z)∧R (.panicked (Qml z)) w'):Calls P f us w R:=by
 refine callsIn_wide.1 (callsIn_of_wp_marks (F:=Fence.wide) (n:=0) hf hb trivial (wpIn_mono (h.out none ⟨w.heap.size,[]⟩ G _ w hR (.none rfl)) ?_));rintro e a' w' ⟨G', σ', hE,hR', hF', hq⟩;have key:∀ (Ds:List Nat) (w' : World),Ds.Nodup→Ex B G w G' w' → Rel fn.ntmps G' σ' a' w' → (∀ b ∈ Ds,w.heap.size≤b∧w'.heap[b]? = some (.deferred (some []))∧b ∉ G'.name∧∀ T ∈ G'.tok,¬ T.has b)→LeavesInM Fence.wide 0 P fn a'.tmps R (Ds.map Qnm) (.panicking (Qml z)) w' := by
  intro Ds
  induction Ds with
  | nil=>exact fun w' _ hE hR' _=>(hQ e G' σ' a' w' hE hR' hq).2
  | cons b Ds ih =>
   intro w' hnd hE hR' hD;obtain⟨d1,d2,d3,d4⟩:=hD b (by simp);have hnb:¬ G'.has b:=fun hh=>hh.elim d3 fun⟨T,hT,ht⟩=>d4 T hT ht
   have hk:Kept G'.has G'.com w' (w'.putObj b (.deferred none)):=Qh0 _ d2 (Qu9 d2) hnb;refine⟨by simp,.inl ⟨b,_,rfl,run_takeDeferred d2,ih _ (List.nodup_cons.1 hnd).2 (hE.kept hk fun i hi=>World.putObj_heap_other (by omega)) (hR'.kept hk) fun i hi=>?_⟩⟩;obtain⟨k1,k2,k3⟩:=hD i (by simp[hi]);refine⟨k1,?_,k3⟩;rw[World.putObj_heap_other (fun(e:i=b)=>(List.nodup_cons.1 hnd).1 (e ▸ hi))];exact k2
 obtain⟨Ds,m1,m2,m3⟩:=hF'.marks;have hl:=key Ds w' m2 hE hR' m3;rw[List.append_nil] at m1;rw[← m1] at hl;obtain rfl:=(hQ e G' σ' a' w' hE hR' hq).1;exact hl
theorem CallPan.ofT{f:FuncId}{fn:Func}{c:Code}(hf:P.funcs[f]? = some fn)(hb:fn.body=some c)(hn:isFn P f=true){args:List D}(hN:args.length≤fn.ntmps){s s' : S}{z:List UInt8}
  (hs:s'.heap.all (fun cs=>cs.all (D.lt s.heap.length s'.live.length))=true)
  (hn' : s'.heap.length=s.heap.length)
  (h:T (s.heap.length,s.live.length) P fn.ntmps c (fun e σ => ∃ τ,Le (s.heap.length,s.live.length) fn.ntmps σ τ ∧ (e = .panic (Qml z)∧EndR s.heap.length s.live.length s' .undef .undef τ.s)) ⟨Qu7 args 0,s⟩):CallPan P f args s z s' := by
 refine⟨hn,fun G w us hI hl hrel=>?_⟩;have hR:Rel fn.ntmps G ⟨Qu7 args 0,s⟩ { tmps:=us++Array.replicate (fn.ntmps-us.size) undef,defers:=[] } w:=by
  refine⟨hI,fun t d hd=>?_,by simp; omega⟩;obtain⟨h1,h2⟩:=Qot args 0 t d hd;have hlt:t<args.length:=(List.getElem?_eq_some_iff.1 h1).1;have hlt2:t<us.size:=by omega
  refine⟨by simp; omega,?_⟩;refine hrel t d _ h1 ?_;simp only[Array.getD_eq_getD_getElem?,Array.getElem?_append_left hlt2,Array.getElem?_eq_getElem hlt2,Option.getD_some]
 have hln:G.name.length=s.heap.length:=hI.names;have hlt:G.tok.length=s.live.length:=by rw[← hI.live]; simp
 refine Qaet (z:=z) hf hb (T_up h fun e σ' hq=>hq) hR fun e G' σ' a' w' hE hR' hq=>?_
 obtain⟨he,⟨J,hJ0,h4,h5,h6⟩⟩:=hq;refine⟨he,?_⟩;unfold Qahq at hJ0;simp only[Bool.and_eq_true] at hJ0;obtain⟨⟨hJ1,hJ2⟩,hJ3⟩:=hJ0;have nJ:=Qc0 J hJ1;have bJ:=Qj1 hJ2;have lT:G'.tok.length = σ'.s.live.length:=by have:=congrArg List.length hR'.inv.live; simpa using this
 have h7:=LeH.app h5 (LeH.refl (σ'.s.heap.drop s.heap.length));rw[List.take_append_drop] at h7;have hinv1:=Inv.le (h := σ'.s.heap) (live := σ'.s.live) hR'.inv h7;have hlen:(s'.heap.map fun cs=>cs.map (D.ren (List.range s.heap.length) J)).length=s.heap.length:=by rw[List.length_map]; exact hn'
 have hlJ:J.length=s'.live.length:=by rw[← h6]; simp
 have hnl:s.heap.length≤G'.name.length:=by rw[hinv1.names]; simp only[List.length_append,hlen]; omega
 have hinv2:Inv (G'.sub (List.range s.heap.length) J) ⟨s'.heap,s'.live⟩ w' := hinv1.sub (I:=List.range s.heap.length) (J:=J) List.nodup_range nJ (fun i hi=>by have:=List.mem_range.1 hi; simp only[List.length_append,hlen]; omega) bJ (by
  have:=Q05 (s'.heap.map fun cs=>cs.map (D.ren (List.range s.heap.length) J)) (σ'.s.heap.drop s.heap.length) [];rw[hlen] at this;exact this) h6 (by rw[List.length_range,hlJ]; exact hs)
 have hst:Stp G w (G'.sub (List.range s.heap.length) J) w' := Qaj1 hE hln hlt hnl (fun j hj=>by rw[lT]; exact bJ j hj) (by simpa using hJ3);exact⟨undef,_,rfl,hst,hinv2,.undef⟩
def CallS(P:Program)(f:FuncId)(args:List D)(s:S){A C:Type}(t:A→D)(ss:A→S)(zp:C→List UInt8)(sp:C→S):A⊕C→Prop
 | .inl y=>CallOK P f args s (t y) (ss y)
 | .inr y=>CallPan P f args s (zp y) (sp y)
theorem CallS.a{f:FuncId}{args:List D}{s:S}{A C:Type}{t:A→D}{ss:A→S}{zp:C→List UInt8}{sp:C→S}{y:A}(h:CallS P f args s t ss zp sp (.inl y)):CallOK P f args s (t y) (ss y):=h
theorem CallS.b{f:FuncId}{args:List D}{s:S}{A C:Type}{t:A→D}{ss:A→S}{zp:C→List UInt8}{sp:C→S}{y:C}(h:CallS P f args s t ss zp sp (.inr y)):CallPan P f args s (zp y) (sp y):=h
def retS(tb:Tbl)(rs:List ResultVar)(n m:Nat){A C:Type}(t:A→D)(ss:A→S)(zp:C→List UInt8)(sp:C→S)(o:A⊕C)(e:Exit)(τ : St):Prop :=
 match e with
 | .panic ch=>∃ y,o = .inr y∧ch=Qml (zp y)∧EndR n m (sp y) .undef .undef τ.s
 | .normal=>∃ y,o = .inl y∧retR tb rs (EndR n m (ss y) (t y)) .normal τ
 | .ret=>∃ y,o = .inl y∧retR tb rs (EndR n m (ss y) (t y)) .ret τ
 | _=>False
theorem CallS.ofB(hm:P.follows .mixedOrders=true)(hT:TblOk P tb){f:FuncId}{fn:Func}{c:Code}(lv:List (Nat×List Nat))(hf:P.funcs[f]? = some fn)(hb:fn.body=some c)(hn:isFn P f=true){args:List D}(hN:args.length≤fn.ntmps){s:S}{A C:Type}{t:A→D}{ss:A→S}{zp:C→List UInt8}{sp:C→S}{o:A⊕C}
  (hr:∀ y,(t y).lt s.heap.length (ss y).live.length=true) (hs:∀ y,(ss y).heap.all (fun cs=>cs.all (D.lt s.heap.length (ss y).live.length))=true) (hn1:∀ y,(ss y).heap.length=s.heap.length)
  (hp:∀ y,(sp y).heap.all (fun cs=>cs.all (D.lt s.heap.length (sp y).live.length))=true) (hn2:∀ y,(sp y).heap.length=s.heap.length)
  (h:bwp (s.heap.length,s.live.length) P tb fn.ntmps lv c (fun e σ => ∃ τ,Le (s.heap.length,s.live.length) fn.ntmps σ τ ∧ retS tb fn.results.toList s.heap.length s.live.length t ss zp sp o e τ) ⟨Qu7 args 0,s⟩):CallS P f args s t ss zp sp o:=by
 have hTT:=Qao hm hT c _ _ h;cases o with
 | inl y =>
  refine CallOK.ofT hT hf hb hn hN (hr y) (hs y) (hn1 y) (T_up hTT fun e σ ⟨τ,h1,h2⟩=>⟨τ,h1,τ,Le.refl _ _ _,?_⟩);cases e with
  | normal=>obtain⟨y', e,h3⟩:=h2; cases e; exact h3
  | ret=>obtain⟨y', e,h3⟩:=h2; cases e; exact h3
  | panic ch=>obtain⟨y', e,h3⟩:=h2; cases e
  | _=>exact h2.elim
 | inr y =>
  refine CallPan.ofT hf hb hn hN (hp y) (hn2 y) (T_up hTT fun e σ ⟨τ,h1,h2⟩=>⟨τ,h1,τ,Le.refl _ _ _,?_⟩);cases e with
  | normal=>obtain⟨y', e,h3⟩:=h2; cases e
  | ret=>obtain⟨y', e,h3⟩:=h2; cases e
  | panic ch=>obtain⟨y', e,h3,h4⟩:=h2; cases e; exact⟨by rw[h3],h4⟩
  | _=>exact h2.elim
theorem Qaeu{A C:Type}{x:A}{y:A⊕C}{d:D}{u:S}{n m:Nat}{t:A→D}{ss:A→S}(h:some (.inl x)=some y)(k:EndR n m (ss x) (t x) d u):∃ z,y = .inl z∧EndR n m (ss z) (t z) d u:=by cases h; exact⟨x,rfl,k⟩
theorem Qalk{A C:Type}{x:C}{y:A⊕C}{u:S}{n m:Nat}{zp:C→List UInt8}{sp:C→S}{v:List UInt8}(h:some (.inr x)=some y)(hv:v=zp x)(k:EndR n m (sp x) .undef .undef u):∃ z,y = .inr z∧Qml v=Qml (zp z)∧EndR n m (sp z) .undef .undef u:=by cases h; exact⟨x,rfl,by rw[hv],k⟩
theorem Qw4{A C R:Type}{x:Option (A⊕C)}{f:A⊕C→Option R}{r:R}{g:FuncId}{args:List D}{s:S}(t:A→D)(ss:A→S)(zp:C→List UInt8)(sp:C→S){K:D→S→Prop}{KP:List UInt8→S→Prop}(h:(x>>=f)=some r)
  (hok:∀ y,x=some (.inl y)→CallOK P g args s (t y) (ss y)) (hpan:∀ y,x=some (.inr y)→CallPan P g args s (zp y) (sp y))
  (k:∀ y,x=some (.inl y)→f (.inl y)=some r→K (t y) (ss y)) (kp:∀ y,x=some (.inr y)→f (.inr y)=some r→KP (zp y) (sp y)) :
  (∃ r s', Qada true P g args s r s' ∧ K r s')∨(∃ z s', CallPan P g args s z s' ∧ KP z s'):=by
 cases hx:x with
 | none=>rw[hx] at h; cases h
 | some o =>
  rw[hx] at h;cases o with
  | inl y=>exact .inl ⟨t y,ss y,(hok y hx).g,k y hx h⟩
  | inr y=>exact .inr ⟨zp y,sp y,hpan y hx,kp y hx h⟩
end
end Go.Proofs.YtfgegilhjlnohaaGreat
end
