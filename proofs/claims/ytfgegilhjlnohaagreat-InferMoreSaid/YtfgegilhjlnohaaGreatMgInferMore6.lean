/- A part of the proof. -/
import Derived.Test.YtfgegilhjlnohaaGreatMgInferMore5
import Derived.Test.YtfgegilhjlnohaaGreatRows
import Derived.WalkKit
import Derived.WalkSpells
import Derived.RegionTactic
import Derived.ChangeAlike
import Derived.StillTailTactics
import Derived.Deep.QuietTactic
import Derived.BigQuiet
import Derived.Lib.Hide
import Derived.Deep.DeepFit
import Derived.Lib.Strings
import Derived.WalkSmall
import Derived.Shelf.RegionOpenPlain
import Derived.Lib.Walk
import Derived.Lib.Builder
import Derived.Lib.UnsafeStr
import Derived.Laws.Externs

noncomputable section
namespace Go.Proofs.YtfgegilhjlnohaaGreat
open Go.RowKit
set_option linter.unusedSimpArgs false
set_option linter.unusedVariables false
section
variable {P:Program} {tb:Tbl}
def Qaa5(p q:Nat)(hvl:List Nat)(ops:List Oper):Bool :=
 let an:=Qqk ops []
 (List.range ops.length).all fun i=>match ops[i]? with
  | some o=>o.after.toList.all (fun e => !Region.binds .any e||decide (e.on<i))&&(List.range i).all fun a=>(a==p&&i==q)||(an.getD i []).contains a||Qrs hvl ops a i
  | none=>true
theorem Qpw{p q:Nat}{hvl:List Nat}{ops:List Oper}(h:Qaa5 p q hvl ops=true){i:Nat}{o:Oper}(ho:ops[i]? = some o):(∀ e ∈ o.after,Region.binds .any e=true→e.on<i) ∧
  ∀ a,a<i→(a=p∧i=q)∨Reach ops a i∨Qrs hvl ops a i=true:=by
 unfold Qaa5 at h;rw[List.all_eq_true] at h;have:=h i (List.mem_range.2 (List.getElem?_eq_some_iff.1 ho).1);simp only[ho,Bool.and_eq_true,List.all_eq_true,Bool.or_eq_true,List.mem_range,List.contains_iff_mem,beq_iff_eq] at this;obtain⟨h1,h2⟩:=this;refine⟨fun e he hb=>?_,fun a ha=>?_⟩
 ·have:=h1 e (by simpa using he);simpa [hb] using this
 ·rcases h2 a ha with (h | h) | h
  ·exact .inl h
  ·cases hq:(Qqk ops [])[i]? with
   | none=>simp[List.getD,hq] at h
   | some l =>
    simp[List.getD,hq] at h;exact .inr (.inl (Qj0 ops [] [] rfl rfl (fun i l a h=>by simp at h) i l a hq h))
  ·exact .inr (.inr h)
def Qajy(p:Nat)(ops:List Oper):Bool :=
 let an:=Qqk ops []
 (List.range (ops.length-(p+2))).all fun k=>(an.getD (k+(p+2)) []).contains p
theorem Qad3{p:Nat}{ops:List Oper}(h:Qajy p ops=true):∀ x,p+2≤x→x<ops.length→Reach ops p x:=fun x h1 h2=>by
 unfold Qajy at h;rw[List.all_eq_true] at h;have:=h (x-(p+2)) (List.mem_range.2 (by omega));rw[show x-(p+2)+(p+2)=x by omega,List.contains_iff_mem] at this;cases hq:(Qqk ops [])[x]? with
 | none=>simp[List.getD,hq] at this
 | some l =>
  simp[List.getD,hq] at this;exact Qj0 ops [] [] rfl rfl (fun i l a h=>by simp at h) x l p hq this
theorem Q62{base:Nat}{hvl:List Nat}{N:Nat}{ops:List Oper}{K:St→Prop}:∀ {A B:List Nat} {σ : St},dOps base hvl P tb N ops (A++B) σ K↔dOps base hvl P tb N ops A σ (fun τ => dOps base hvl P tb N ops B τ K)
 | [],_,_=>Iff.rfl
 | a::A,B,σ => by
  show dOne base hvl P tb N ops a σ (fun τ => dOps base hvl P tb N ops (A++B) τ K)↔dOne base hvl P tb N ops a σ (fun τ => dOps base hvl P tb N ops A τ fun τ => dOps base hvl P tb N ops B τ K);have:(fun τ => dOps base hvl P tb N ops (A++B) τ K)=(fun τ => dOps base hvl P tb N ops A τ fun τ => dOps base hvl P tb N ops B τ K):=funext fun τ => propext Q62
  rw[this]
theorem Q00{base:Nat}{hvl:List Nat}{N:Nat}{ops:List Oper}{K K' : St→Prop}:∀ {A:List Nat} {σ : St},base ≤ σ.s.heap.length→(∀ τ,base ≤ τ.s.heap.length→K τ → K' τ)→dOps base hvl P tb N ops A σ K→dOps base hvl P tb N ops A σ K'
 | [],σ,hb,hk,h=>hk σ hb h
 | a::A,σ,hb,hk,h=>Qhj hb (fun τ h1 h2=>Q00 h1 hk h2) h
theorem Qaa6(listed:Array Bool):∀ n:Nat,(∃ x,x<n∧listed.getD x true=false)→∃ x,x<n∧listed.getD x true=false∧∀ y,y<x→listed.getD y true=true
 | 0,⟨x,h,_⟩=>by omega
 | n+1,⟨x,h1,h2⟩=>by
  by_cases h:∃ x,x<n∧listed.getD x true=false
  ·obtain⟨y,h3,h4,h5⟩:=Qaa6 listed n h;exact⟨y,by omega,h4,h5⟩
  ·have hall:∀ y,y<n→listed.getD y true=true:=fun y hy=>by
    cases hq:listed.getD y true with
    | true=>rfl
    | false=>exact(h ⟨y,hy,hq⟩).elim
   have hxn:x=n:=by
    by_cases hx:x<n
    ·rw[hall x hx] at h2; cases h2
    ·omega
   subst hxn;exact⟨x,by omega,h2,hall⟩
theorem Qaoy{n:Nat}{listed:Array Bool}{i:Nat}(hs:listed.size=n)(hi:i<n){ord A B:List Nat}(hnd:ord.Nodup)(h:(ord.filter fun i => !listed.getD i true)=A++i::B):(ord.filter fun k => !(listed.setIfInBounds i true).getD k true)=A++B:=by
 have e1:(ord.filter fun k => !(listed.setIfInBounds i true).getD k true)=(ord.filter fun k => !listed.getD k true).filter fun k=>k != i:=by
  rw[List.filter_filter];apply List.filter_congr;intro k hk;by_cases hki:k=i
  ·subst hki;have hks:k<listed.size:=by omega
   simp[Array.getD_eq_getD_getElem?,hks]
  ·rw[getD_set_ne true (fun e=>hki e.symm)];simp[hki]
 rw[e1,h];have hnd:(A++i::B).Nodup:=by
  rw[← h]; exact List.Pairwise.filter _ hnd
 rw[List.nodup_append] at hnd;obtain⟨n1,n2,n3⟩:=hnd;rw[List.nodup_cons] at n2;rw[List.filter_append,List.filter_cons];simp only[bne_self_eq_false,Bool.false_eq_true,if_false];congr 1
 ·exact List.filter_eq_self.2 fun x hx=>by
   have:=n3 x hx i (by simp);simpa using this
 ·exact List.filter_eq_self.2 fun x hx=>by
   have:x≠i:=fun e=>n2.1 (e ▸ hx)
   simpa using this
theorem Q01{n p:Nat}(h:p+2≤n):List.range n=List.range p++(p::(p+1)::(List.range (n-(p+2))).map (· + (p+2))):=by
 apply List.ext_getElem?;intro k;by_cases h1:k<p
 ·rw[List.getElem?_append_left (by simpa using h1),List.getElem?_range h1,List.getElem?_range (by omega)]
 ·rw[List.getElem?_append_right (by simpa using h1),List.length_range];rcases (by omega:k=p∨k=p+1∨p+2≤k) with rfl | rfl | h2
  ·rw[List.getElem?_range (by omega)]; simp
  ·rw[List.getElem?_range (by omega),show p+1-p=1 by omega]; rfl
  ·obtain⟨m,rfl⟩:∃ m,k=m+(p+2):=⟨k-(p+2),by omega⟩;rw[show m+(p+2)-p=m+1+1 by omega,List.getElem?_cons_succ,List.getElem?_cons_succ,List.getElem?_map];by_cases h3:m+(p+2)<n
   ·rw[List.getElem?_range h3,List.getElem?_range (by omega)]; rfl
   ·rw[List.getElem?_eq_none (by simpa using h3),List.getElem?_eq_none (by simp; omega)]; rfl
def both(base:Nat)(hvl:List Nat)(P:Program)(tb:Tbl)(N:Nat)(ops:List Oper)(p:Nat)(K:St→Prop)(σ : St):Prop :=
 base ≤ σ.s.heap.length∧dOps base hvl P tb N ops (p::(p+1)::(List.range (ops.length-(p+2))).map (· + (p+2))) σ K∧dOps base hvl P tb N ops ((p+1)::p::(List.range (ops.length-(p+2))).map (· + (p+2))) σ K
theorem Qad4{base:Nat}{hvl:List Nat}{N:Nat}{ops:List Oper}{p:Nat}{K:St→Prop}(hK:Qv8 K):Qv8 (both base hvl P tb N ops p K):=fun σ τ he ⟨h0,h1,h2⟩ =>
 ⟨by rw[← he.2]; exact h0,Qzy hK _ σ τ h0 he h1,Qzy hK _ σ τ h0 he h2⟩
theorem Q02(hT:TblOk P tb){rd:Option Nat}{base:Nat}{hvl:List Nat}{N:Nat}{ops:List Oper}{p q:Nat}(hl:Qaa5 p q hvl ops=true){Q:Exit→Act→World→Prop}{K:St→Prop}(hK:Qv8 K){B:Nat×Nat}{G0:Gh}{w0:World}{ds:List Deferred}(hQ:∀ a w G σ,Ex B G0 w0 G w→Rel N G σ a w→a.defers=ds→K σ → Q .normal a w) :
  ∀ (fuel:Nat) (listed:Array Bool) (σ : St) (a:Act) (w:World) (G:Gh),listed.size=ops.length→Down ops listed→(listed.getD p false=true∨listed.getD q false=true)→((List.range ops.length).filter fun i => !listed.getD i true).length=fuel→Ex B G0 w0 G w→Rel N G σ a w→a.defers=ds→base ≤ σ.s.heap.length →
   dOps base hvl P tb N ops ((List.range ops.length).filter fun i => !listed.getD i true) σ K→wpAnyIn (FW rd) 0 P .any ops.toArray Q fuel listed a w
 | 0,listed,σ,a,w,G,hs,hdn,hpq,hf,hE,hR,hd,hbs,h=>by
  have hnil:=List.eq_nil_of_length_eq_zero hf;rw[hnil] at h;refine⟨?_,hQ a w G σ hE hR hd h⟩;apply List.eq_nil_iff_forall_not_mem.2;intro i hi;obtain⟨h1,o,ho,-⟩:=mem_ready.1 hi;have:i ∈ (List.range ops.length).filter fun i => !listed.getD i true:=by
   rw[List.mem_filter,List.mem_range];exact⟨by have:=(Array.getElem?_eq_some_iff.1 ho).1; simpa using this,by rw[h1]; rfl⟩
  rw[hnil] at this;cases this
 | fuel+1,listed,σ,a,w,G,hs,hdn,hpq,hf,hE,hR,hd,hbs,h=>by
  refine⟨fun hr=>?_,fun i hi=>?_⟩
  ·exfalso;generalize hL:((List.range ops.length).filter fun i => !listed.getD i true)=L at hf;cases L with
   | nil=>simp at hf
   | cons x r =>
    have hx:x ∈ (List.range ops.length).filter fun i => !listed.getD i true:=by rw[hL]; simp
    rw[List.mem_filter,List.mem_range] at hx;obtain⟨hx1,hx2⟩:=hx;have ho:ops[x]? = some ops[x]:=List.getElem?_eq_getElem hx1;have hmem:x ∈ Region.ready .any ops.toArray listed:=by
     refine mem_ready.2 ⟨by simpa using hx2,ops[x],by simp,fun e he hb=>?_⟩;have hlt:=(Qpw hl ho).1 e he hb;cases hg:listed.getD e.on false
     ·exfalso;have hmm:e.on ∈ (List.range ops.length).filter fun i => !listed.getD i true:=by
       rw[List.mem_filter,List.mem_range];refine⟨by omega,?_⟩;have hlt2:e.on<listed.size:=by omega
       simp only[Array.getD_eq_getD_getElem?,Array.getElem?_eq_getElem hlt2,Option.getD_some] at hg ⊢;simp[hg]
      have hsorted:((List.range ops.length).filter fun i => !listed.getD i true).Pairwise (· < ·):=List.Pairwise.filter _ List.pairwise_lt_range;rw[hL] at hmm hsorted;rcases List.mem_cons.1 hmm with h0 | h0
      ·omega
      ·have:=List.rel_of_pairwise_cons hsorted h0; omega
     ·rfl
    rw[hr] at hmem;cases hmem
  ·obtain⟨h1,o,ho,hp⟩:=mem_ready.1 hi;have ho' : ops[i]? = some o:=by simpa using ho
   have hil:i<ops.length:=(List.getElem?_eq_some_iff.1 ho').1;have him:i ∈ (List.range ops.length).filter fun i => !listed.getD i true:=by
    rw[List.mem_filter,List.mem_range]; exact⟨hil,by rw[h1]; rfl⟩
   have hsorted:((List.range ops.length).filter fun i => !listed.getD i true).Pairwise (· < ·):=List.Pairwise.filter _ List.pairwise_lt_range;obtain⟨A,B,hAB⟩:=List.append_of_mem him;have hA:∀ x ∈ A,x<i∧listed.getD x true=false:=fun x hx=>by
    refine⟨?_,?_⟩
    ·rw[hAB] at hsorted;exact(List.pairwise_append.1 hsorted).2.2 x hx i (by simp)
    ·have:x ∈ (List.range ops.length).filter fun i => !listed.getD i true:=by rw[hAB]; simp[hx]
     rw[List.mem_filter] at this;simpa using this.2
   rw[hAB] at h;have hfront:=Qj2 hK A σ hbs (fun x hx=>by
    obtain⟨hx1,hx2⟩:=hA x hx;rcases (Qpw hl ho').2 x hx1 with ⟨rfl,rfl⟩ | hre | h0
    ·exfalso;have hlt2:x<listed.size:=by omega
     have hlt3:i<listed.size:=by omega
     simp only[Array.getD_eq_getD_getElem?,Array.getElem?_eq_getElem hlt2,Array.getElem?_eq_getElem hlt3,Option.getD_some] at hx2 h1 hpq;rcases hpq with h0 | h0
     ·rw[hx2] at h0; cases h0
     ·rw[h1] at h0; cases h0
    ·have:=hdn.reach hs hre fun o2 ho2 e he hb=>by
      rw[ho'] at ho2;cases ho2;exact hp e he hb
     have hlt2:x<listed.size:=by omega
     simp only[Array.getD_eq_getD_getElem?,Array.getElem?_eq_getElem hlt2,Option.getD_some] at this hx2;rw[this] at hx2; cases hx2
    ·exact h0) h
   have hnew:((List.range ops.length).filter fun k => !(listed.setIfInBounds i true).getD k true)=A++B:=by
    have e1:((List.range ops.length).filter fun k => !(listed.setIfInBounds i true).getD k true)=((List.range ops.length).filter fun k => !listed.getD k true).filter fun k=>k != i:=by
     rw[List.filter_filter];apply List.filter_congr;intro k hk;by_cases hki:k=i
     ·subst hki;have hks:k<listed.size:=by omega
      simp[Array.getD_eq_getD_getElem?,hks]
     ·rw[getD_set_ne true (fun e=>hki e.symm)];simp[hki]
    rw[e1,hAB];have hnd:(A++i::B).Nodup:=by
     rw[← hAB]; exact List.Pairwise.filter _ List.nodup_range
    rw[List.nodup_append] at hnd;obtain⟨n1,n2,n3⟩:=hnd;rw[List.nodup_cons] at n2;rw[List.filter_append,List.filter_cons];simp only[bne_self_eq_false,Bool.false_eq_true,if_false];congr 1
    ·exact List.filter_eq_self.2 fun x hx=>by
      have:=n3 x hx i (by simp);simpa using this
    ·exact List.filter_eq_self.2 fun x hx=>by
      have:x≠i:=fun e=>n2.1 (e ▸ hx)
      simpa using this
   refine Qmb hT hR hbs ((Qhj hbs (K' := fun τ => base ≤ τ.s.heap.length∧dOps base hvl P tb N ops (A++B) τ K) (fun τ h1 h2=>⟨h1,h2⟩) hfront)) fun a' w' G' σ' s1 r1 d1 k1=>?_
   have hdn' : Down ops (listed.setIfInBounds i true):=fun k o2 ho2 hk e he hb=>by
    refine getD_set_true ?_;by_cases hki:k=i
    ·subst hki;rw[ho'] at ho2;cases ho2;exact hp e he hb
    ·rw[getD_set_ne true (fun e=>hki e.symm)] at hk;exact hdn k o2 ho2 hk e he hb
   refine Q02 hT hl hK hQ fuel _ σ' a' w' G' (by simp[hs]) hdn' (hpq.imp getD_set_true getD_set_true) ?_ (hE.trans (s1.ex _)) r1 (d1.trans hd) k1.1 ?_
   ·rw[hnew];rw[hAB] at hf;simp at hf ⊢; omega
   ·rw[hnew]; exact k1.2
theorem Q5q(hT:TblOk P tb){rd:Option Nat}{base:Nat}{hvl:List Nat}{N:Nat}{ops:List Oper}{p:Nat}(hl:Qaa5 p (p+1) hvl ops=true)(hpn:p+1<ops.length)(hRe:∀ x,p+2≤x→x<ops.length→Reach ops p x){Q:Exit→Act→World→Prop}{K:St→Prop}(hK:Qv8 K){B:Nat×Nat}{G0:Gh}{w0:World}{ds:List Deferred}(hQ:∀ a w G σ,Ex B G0 w0 G w→Rel N G σ a w→a.defers=ds→K σ → Q .normal a w) :
  ∀ (fuel:Nat) (listed:Array Bool) (σ : St) (a:Act) (w:World) (G:Gh),listed.size=ops.length→Down ops listed→(∀ x,p≤x→x<ops.length→listed.getD x true=false)→((List.range p).filter fun i => !listed.getD i true).length+(ops.length-p)=fuel→Ex B G0 w0 G w→Rel N G σ a w→a.defers=ds→base ≤ σ.s.heap.length →
   dOps base hvl P tb N ops ((List.range p).filter fun i => !listed.getD i true) σ (both base hvl P tb N ops p K)→wpAnyIn (FW rd) 0 P .any ops.toArray Q fuel listed a w
 | 0,listed,σ,a,w,G,hs,hdn,hun,hf,hE,hR,hd,hbs,h=>by omega
 | fuel+1,listed,σ,a,w,G,hs,hdn,hun,hf,hE,hR,hd,hbs,h=>by
  refine⟨fun hr=>?_,fun i hi=>?_⟩
  ·exfalso;obtain⟨x,hx1,hx2,hx3⟩:=Qaa6 listed ops.length ⟨p,by omega,hun p (Nat.le_refl _) (by omega)⟩;have ho:ops[x]? = some ops[x]:=List.getElem?_eq_getElem hx1;have hmem:x ∈ Region.ready .any ops.toArray listed:=by
    refine mem_ready.2 ⟨hx2,ops[x],by simp,fun e he hb=>?_⟩;have hlt:=(Qpw hl ho).1 e he hb;have h3:=hx3 e.on hlt;have hlt2:e.on<listed.size:=by omega
    simp only[Array.getD_eq_getD_getElem?,Array.getElem?_eq_getElem hlt2,Option.getD_some] at h3 ⊢;exact h3
   rw[hr] at hmem;cases hmem
  ·obtain⟨h1,o,ho,hp⟩:=mem_ready.1 hi;have ho' : ops[i]? = some o:=by simpa using ho
   have hil:i<ops.length:=(List.getElem?_eq_some_iff.1 ho').1;have hdn' : Down ops (listed.setIfInBounds i true):=fun k o2 ho2 hk e he hb=>by
    refine getD_set_true ?_;by_cases hki:k=i
    ·subst hki;rw[ho'] at ho2;cases ho2;exact hp e he hb
    ·rw[getD_set_ne true (fun e=>hki e.symm)] at hk;exact hdn k o2 ho2 hk e he hb
   have ind:∀ x,x<i→listed.getD x true=false→(x=p→i=p+1→False)→Qrs hvl ops x i=true:=fun x hx1 hx2 hne=>by
    rcases (Qpw hl ho').2 x hx1 with ⟨h0,h2⟩ | hre | h0
    ·exact(hne h0 h2).elim
    ·have:=hdn.reach hs hre fun o2 ho2 e he hb=>by
      rw[ho'] at ho2;cases ho2;exact hp e he hb
     have hlt2:x<listed.size:=by omega
     simp only[Array.getD_eq_getD_getElem?,Array.getElem?_eq_getElem hlt2,Option.getD_some] at this hx2;rw[this] at hx2; cases hx2
    ·exact h0
   have hset:∀ x,x≠i→(listed.setIfInBounds i true).getD x true=listed.getD x true:=fun x hx=>getD_set_ne true (fun e=>hx e.symm)
   have hsetF:(listed.setIfInBounds i true).getD i false=true:=by
    have:i<listed.size:=by omega
    simp[Array.getD_eq_getD_getElem?,this]
   have hsetT:(listed.setIfInBounds i true).getD i true=true:=by
    have:i<listed.size:=by omega
    simp[Array.getD_eq_getD_getElem?,this]
   rcases (by omega:i<p∨i=p∨i=p+1∨p+2≤i) with hip | rfl | rfl | hip
   ·
    have him:i ∈ (List.range p).filter fun i => !listed.getD i true:=by
     rw[List.mem_filter,List.mem_range]; exact⟨hip,by rw[h1]; rfl⟩
    have hsorted:((List.range p).filter fun i => !listed.getD i true).Pairwise (· < ·):=List.Pairwise.filter _ List.pairwise_lt_range;obtain⟨A,B,hAB⟩:=List.append_of_mem him;have hA:∀ x ∈ A,x<i∧listed.getD x true=false:=fun x hx=>by
     refine⟨?_,?_⟩
     ·rw[hAB] at hsorted;exact(List.pairwise_append.1 hsorted).2.2 x hx i (by simp)
     ·have:x ∈ (List.range p).filter fun i => !listed.getD i true:=by rw[hAB]; simp[hx]
      rw[List.mem_filter] at this;simpa using this.2
    rw[hAB] at h;have hfront:=Qj2 (Qad4 hK) A σ hbs (fun x hx=>ind x (hA x hx).1 (hA x hx).2 fun e _=>by have:=(hA x hx).1; omega) h;have hnew:((List.range p).filter fun k => !(listed.setIfInBounds i true).getD k true)=A++B:=Qaoy hs hil List.nodup_range hAB;refine Qmb hT hR hbs ((Qhj hbs (K' := fun τ => base ≤ τ.s.heap.length∧dOps base hvl P tb N ops (A++B) τ (both base hvl P tb N ops p K)) (fun τ h1 h2=>⟨h1,h2⟩) hfront)) fun a' w' G' σ' s1 r1 d1 k1=>?_
    refine Q5q hT hl hpn hRe hK hQ fuel _ σ' a' w' G' (by simp[hs]) hdn' (fun x hx1 hx2=>by rw[hset x (by omega)]; exact hun x hx1 hx2) ?_ (hE.trans (s1.ex _)) r1 (d1.trans hd) k1.1 ?_
    ·rw[hnew];rw[hAB] at hf;simp at hf ⊢; omega
    ·rw[hnew]; exact k1.2
   ·
    have h' : dOps base hvl P tb N ops (((List.range i).filter fun k => !listed.getD k true)++i::((i+1)::(List.range (ops.length-(i+2))).map (· + (i+2)))) σ K:=Q62.2 (Q00 hbs (fun τ _ hτ => hτ.2.1) h);have hfront:=Qj2 hK _ σ hbs (fun x hx=>by
     rw[List.mem_filter,List.mem_range] at hx;exact ind x hx.1 (by simpa using hx.2) fun e=>by have:=hx.1; omega) h'
    have hnew:((List.range ops.length).filter fun k => !(listed.setIfInBounds i true).getD k true)=((List.range i).filter fun k => !listed.getD k true)++((i+1)::(List.range (ops.length-(i+2))).map (· + (i+2))):=by
     rw[Q01 (show i+2≤ops.length by omega),List.filter_append,List.filter_cons,List.filter_cons];rw[if_neg (by rw[hsetT]; simp),if_pos (by rw[hset _ (by omega),hun _ (by omega) (by omega)]; rfl)];congr 1
     ·exact List.filter_congr fun k hk=>by rw[hset k (by have:=List.mem_range.1 hk; omega)]
     ·congr 1;refine List.filter_eq_self.2 fun k hk=>?_
      obtain⟨y,hy,rfl⟩:=List.mem_map.1 hk;have:=List.mem_range.1 hy;rw[hset _ (by omega),hun _ (by omega) (by omega)]; rfl
    refine Qmb hT hR hbs ((Qhj hbs (K' := fun τ => base ≤ τ.s.heap.length∧dOps base hvl P tb N ops _ τ K) (fun τ h1 h2=>⟨h1,h2⟩) hfront)) fun a' w' G' σ' s1 r1 d1 k1=>?_
    refine Q02 hT hl hK hQ fuel _ σ' a' w' G' (by simp[hs]) hdn' (.inl hsetF) ?_ (hE.trans (s1.ex _)) r1 (d1.trans hd) k1.1 ?_
    ·rw[hnew];simp at hf ⊢; omega
    ·rw[hnew]; exact k1.2
   ·
    have h' : dOps base hvl P tb N ops (((List.range p).filter fun k => !listed.getD k true)++(p+1)::(p::(List.range (ops.length-(p+2))).map (· + (p+2)))) σ K:=Q62.2 (Q00 hbs (fun τ _ hτ => hτ.2.2) h);have hfront:=Qj2 hK _ σ hbs (fun x hx=>by
     rw[List.mem_filter,List.mem_range] at hx;exact ind x (by have:=hx.1; omega) (by simpa using hx.2) fun e=>by have:=hx.1; omega) h'
    have hnew:((List.range ops.length).filter fun k => !(listed.setIfInBounds (p+1) true).getD k true)=((List.range p).filter fun k => !listed.getD k true)++(p::(List.range (ops.length-(p+2))).map (· + (p+2))):=by
     rw[Q01 (show p+2≤ops.length by omega),List.filter_append,List.filter_cons,List.filter_cons];rw[if_pos (by rw[hset _ (by omega),hun _ (by omega) (by omega)]; rfl),if_neg (by rw[hsetT]; simp)];congr 1
     ·exact List.filter_congr fun k hk=>by rw[hset k (by have:=List.mem_range.1 hk; omega)]
     ·congr 1;refine List.filter_eq_self.2 fun k hk=>?_
      obtain⟨y,hy,rfl⟩:=List.mem_map.1 hk;have:=List.mem_range.1 hy;rw[hset _ (by omega),hun _ (by omega) (by omega)]; rfl
    refine Qmb hT hR hbs ((Qhj hbs (K' := fun τ => base ≤ τ.s.heap.length∧dOps base hvl P tb N ops _ τ K) (fun τ h1 h2=>⟨h1,h2⟩) hfront)) fun a' w' G' σ' s1 r1 d1 k1=>?_
    refine Q02 hT hl hK hQ fuel _ σ' a' w' G' (by simp[hs]) hdn' (.inr hsetF) ?_ (hE.trans (s1.ex _)) r1 (d1.trans hd) k1.1 ?_
    ·rw[hnew];simp at hf ⊢; omega
    ·rw[hnew]; exact k1.2
   ·exfalso;have:=hdn.reach hs (hRe i hip hil) fun o2 ho2 e he hb=>by
     rw[ho'] at ho2;cases ho2;exact hp e he hb
    have h3:=hun p (Nat.le_refl _) (by omega);have hlt2:p<listed.size:=by omega
    simp only[Array.getD_eq_getD_getElem?,Array.getElem?_eq_getElem hlt2,Option.getD_some] at this h3;rw[this] at h3; cases h3
end
section
variable {P:Program} {tb:Tbl}
def Qaoz(P:Program)(c:Call)(e:Operand→Option D)(s:S)(K:D→S→Prop)(KP:List UInt8→S→Prop):Prop :=
 match c.callee with
 | .value f=>match e f,evs e c.args.toList with
  | some (.fn (.func g) first cap),some ds=>(∃ r s', Qada true P g ((first++ds++cap).map dn) s r s' ∧ K r s')∨(∃ z s', CallPan P g ((first++ds++cap).map dn) s z s' ∧ KP z s')
  | _,_=>False
 | _=>False
theorem Qad5{rd:Option Nat}{N:Nat}{G:Gh}{σ : St}{a:Act}{w:World}(hR:Rel N G σ a w){o:Oper}{c:Call}(ho:Qbn o.op=some c){e:Operand→Option D}(hev:∀ x d,e x=some d→DRel G w d (a.eval x)){K:D→S→Prop}{KP:List UInt8→S→Prop}(h:Qaoz P c e σ.s K KP)
  {next:Act→World→Prop} {Q:Exit→Act→World→Prop} (hn:∀ u w' G' d s', Stp G w G' w' → Inv G' s' w' → DRel G' w' d u→K d s' → next (a.put o.dst u) w')
  (hp:∀ z w' G' s', Stp G w G' w' → Inv G' s' w' → KP z s' → Q (.panic (Qml z)) a w'):o.wpIn (FW rd) 0 P a w next Q:=by
 have hoc:o.op = .call c:=by
  cases hop:o.op with
  | call c' =>
   rw[hop] at ho;simp only[Qbn] at ho;split at ho
   ·cases ho; rfl
   ·cases ho
  | _=>rw[hop] at ho; cases ho
 unfold Qaoz at h;split at h
 ·rename_i f hc;split at h
  ·rename_i g first cap ds hf hds
   rcases h with ⟨r,s', hcall,hK⟩ | ⟨z,s', hcall,hK⟩
   ·exact Q0m hR ho hev (gn:=true) (K:=K) (by
     unfold Qaae;rw[hc];simp only[hf,hds];exact⟨r,s', hcall,hK⟩) hn
   ·have hfv:∃ us vs,a.eval f = .func (.func g) us vs∧us.size=first.length∧vs.size=cap.length∧(∀ (j:Nat) c u,first[j]? = some c→us[j]? = some u→DRel G w c u)∧(∀ (j:Nat) c u,cap[j]? = some c→vs[j]? = some u→DRel G w c u):=by
     have:=hev f _ hf;generalize a.eval f=q at this;cases this with
     | fn _ _ _ us vs h1 h2 h3 h4=>exact⟨us,vs,rfl,h1.symm,h2.symm,h3,h4⟩
    obtain⟨us,vs,hfv,l1,l2,k1,k2⟩:=hfv;obtain⟨e1,e2⟩:=Qhd hev _ _ hds;have hrun:(execOp a.eval o).run P w = .ok (.enter g (us++c.args.map a.eval++vs)) w:=by
     unfold execOp;simp only[hoc];simp[resolve,hc,hfv,Deferred.ofValue,invoke,Qrm hcall.fn]
    refine Qmm (by rw[hoc]; intro c; simp) ?_;rw[hrun,Oper.uponIn_enter];refine⟨FW_n _,Qv5 ?_⟩;refine(hcall.out G w (us++c.args.map a.eval++vs) hR.inv (by simp[l1,l2,e1]) (fun j d u hd hu=>?_)).mono fun en w' ⟨u,G', he,h1,h2,h3⟩=>?_
    ·rw[List.getElem?_map] at hd;obtain⟨d0,hd0,rfl⟩:=Option.map_eq_some_iff.1 hd;refine Qanw ?_;have hsz:(c.args.map a.eval).size=ds.length:=by simp[e1]
     by_cases hj:j<first.length+ds.length
     ·rw[List.getElem?_append_left (by simpa using hj)] at hd0;rw[Array.getElem?_append_left (by simp[l1]; simp at hsz; omega)] at hu;by_cases hj2:j<first.length
      ·rw[List.getElem?_append_left hj2] at hd0;rw[Array.getElem?_append_left (by omega)] at hu;exact k1 j d0 u hd0 hu
      ·rw[List.getElem?_append_right (by omega)] at hd0;rw[Array.getElem?_append_right (by omega),l1] at hu;exact e2 _ d0 u hd0 (by simpa using hu)
     ·rw[List.getElem?_append_right (by simp; omega)] at hd0;rw[Array.getElem?_append_right (by simp[l1]; simp at hsz; omega)] at hu;simp only[List.length_append] at hd0;simp only[Array.size_append,l1,hsz] at hu;exact k2 _ d0 u hd0 hu
    ·subst he;exact hp z w' G' s' h1 h2 hK
  ·exact h.elim
 ·exact h.elim
def pOne(P:Program)(N:Nat)(ops:List Oper)(i:Nat)(σ : St)(K:St→Prop)(KP:List UInt8→St→Prop):Prop :=
 match ops[i]? with
 | none=>K σ
 | some o=>match Q27 ops σ.env o.guard with
  | some true=>match Qbn o.op with
   | some c=>Qaoz P c (ev σ.env) σ.s (fun d s' => Qya (Qadc ops i) d fun d=>putE N σ.env o.dst d fun env' => K ⟨env', s'⟩) fun z s' => KP z ⟨σ.env,s'⟩
   | none=>False
  | some false=>putE N σ.env o.dst .undef fun env' => K ⟨env', σ.s⟩
  | none=>False
def Qad6(ops:List Oper)(i:Nat):Option (Nat×Operand×Oper):=match ops[i]?,ops[i+1]? with
 | some o,some o2=>match o.op,o2.op,o.dst with
  | .makeInterface t x,.panic (.tmp d),some d' => if d=d' ∧ o.guard.isNone=true∧o2.guard.isNone=true then some (t,x,o) else none
  | _,_,_=>none
 | _,_=>none
def isSt(tb:Tbl)(t:Nat):Bool:=match tb.lookup t with
 | some ti=>match ti.d with | .struct _=>true | _=>false
 | none=>false
def Qaqu(tb:Tbl)(N:Nat)(ops:List Oper)(i:Nat)(r:List Nat)(t:Nat)(x:Operand)(o:Oper)(σ : St)(KP:List UInt8→St→Prop):Prop :=
 r.head? = some (i+1)∧isSt tb t=true∧(∀ d,o.dst=some d→d<N)∧∃ z,ev σ.env x=some (.p (.agg [.v (Qd6 z)]))∧Qml z=[{ v :=.iface t (.agg #[Qd6 z]),recovered:=false }]∧KP z ⟨[],σ.s⟩
theorem Qad7(hT:TblOk P tb){rd:Option Nat}{N:Nat}{G:Gh}{σ : St}{a:Act}{w:World}(hR:Rel N G σ a w){ops:List Oper}{i t:Nat}{r:List Nat}{x:Operand}{o:Oper}{KP:List UInt8→St→Prop}(hpp:Qad6 ops i=some (t,x,o))(h:Qaqu tb N ops i r t x o σ KP)
  {Q:Exit→Act→World→Prop} (hp:∀ z a' w' G' σ', Stp G w G' w' → Rel N G' σ' a' w' → a'.defers=a.defers→KP z σ' → Q (.panic (Qml z)) a' w'):wpOpIn (FW rd) 0 P ops.toArray Q i (wpOpsIn (FW rd) 0 P ops.toArray Q r) a w:=by
 obtain⟨hr,hst,hdN,z,hx,hch,hk⟩:=h;unfold Qad6 at hpp;split at hpp
 ·rename_i o1 o2 ho1 ho2;split at hpp
  ·rename_i t' x' d d' e1 e2 e3;split at hpp
   ·rename_i hc;obtain⟨rfl,hg1,hg2⟩:=hc;simp only[Option.some.injEq,Prod.mk.injEq] at hpp;obtain⟨rfl,rfl,rfl⟩:=hpp;have hu:∃ fs,P.underlying t' = some (.struct fs):=by
     unfold isSt at hst;split at hst
     ·rename_i ti hti;have h2:=hT.und hti;split at hst
      ·rename_i fs hd; exact⟨fs,by rw[h2,hd]⟩
      ·cases hst
     ·cases hst
    obtain⟨fs,hu⟩:=hu;have hv:a.eval x' = .agg #[Qd6 z]:=by
     have:=Quj hR.env _ _ hx;generalize a.eval x' = u at this;cases this with
     | p _ _ h =>
      cases h with
      | agg _ us h1 h0 h2 =>
       have hs:us.size=1:=h1.symm;have h3:=h2 0 _ us[0] rfl (by simp);have h4:us[0]=Qd6 z:=by
        revert h3;generalize us[0]=q;intro h3;generalize hq:Qd6 z=q2 at h3;cases h3;rfl
       congr 1;apply Array.ext
       ·simpa using hs
       ·intro j hj1 hj2;have hj0:j=0:=by simp at hj2; omega
        subst hj0;exact h4
    have hg1' : o1.guard=none:=by cases hh:o1.guard with | none=>rfl | some _=>rw[hh] at hg1; cases hg1
    have hg2' : o2.guard=none:=by cases hh:o2.guard with | none=>rfl | some _=>rw[hh] at hg2; cases hg2
    match r,hr with
    | j::r', hr =>
     have hj:j=i+1:=by simpa using hr
     subst hj;unfold wpOpIn;simp only[List.getElem?_toArray,ho1];rw[if_pos (by simp[Region.wanted,hg1'])];refine Qmm (by rw[e1]; intro c; simp) ?_;have hrun:(execOp a.eval o1).run P w = .ok (.value (.iface t' (.agg #[Qd6 z]))) w:=by
      unfold execOp;simp only[e1,hv];simp[Instr.makeInterface,run_underlying hu]
     rw[hrun,Oper.uponIn_value,wpOpsIn_cons];have hd:d<a.tmps.size:=by rw[hR.size]; exact hdN d e3
     unfold wpOpIn;simp only[List.getElem?_toArray,ho2];rw[if_pos (by simp[Region.wanted,hg2'])];refine Qmm (by rw[e2]; intro c; simp) ?_;have hrun2:(execOp (a.put o1.dst (.iface t' (.agg #[Qd6 z]))).eval o2).run P w = .halt (.panic (.iface t' (.agg #[Qd6 z]))) w:=by
      unfold execOp;simp only[e2,e3];simp[Act.put,Act.eval,hd,Instr.panic,goPanic,go_sem]
     rw[hrun2,Oper.uponIn_panic,← hch];exact hp z _ w G ⟨[],σ.s⟩ (.refl G w) ⟨hR.inv,fun t d hl=>by simp at hl,by simpa [e3,Act.put] using hR.size⟩ (Qcz _ _ _) hk
   ·cases hpp
  ·cases hpp
 ·cases hpp
def pOps(pk mk:List Nat)(P:Program)(tb:Tbl)(N:Nat)(ops:List Oper)(KP:List UInt8→St→Prop):List Nat→St→(St→Prop)→Prop
 | [],σ,K=>K σ
 | i::r,σ,K=>match pk.contains i with
  | true=>match Qad6 ops i with
   | some (t,x,o)=>Qaqu tb N ops i r t x o σ KP
   | none=>pOne P N ops i σ (fun σ' => pOps pk mk P tb N ops KP r σ' K) KP
  | false=>match Qajo mk i with
   | some hm=>xOne tb N ops i hm σ fun σ' => pOps pk mk P tb N ops KP r σ' K
   | none=>bOne true P tb N ops i σ fun σ' => pOps pk mk P tb N ops KP r σ' K
theorem Q5r{rd:Option Nat}{N:Nat}{G:Gh}{σ : St}{a:Act}{w:World}(hR:Rel N G σ a w){ops:List Oper}{i:Nat}{K:St→Prop}{KP:List UInt8→St→Prop}(h:pOne P N ops i σ K KP)
  {next:Act→World→Prop} {Q:Exit→Act→World→Prop} (hn:∀ a' w' G' σ', Stp G w G' w' → Rel N G' σ' a' w' → a'.defers=a.defers→K σ' → next a' w')
  (hp:∀ z w' G' σ', Stp G w G' w' → Rel N G' σ' a w' → KP z σ' → Q (.panic (Qml z)) a w'):wpOpIn (FW rd) 0 P ops.toArray Q i next a w:=by
 unfold pOne at h;unfold wpOpIn;split at h
 ·rename_i ho;simp only[List.getElem?_toArray,ho];exact hn a w G σ (.refl G w) hR rfl h
 ·rename_i o ho;simp only[List.getElem?_toArray,ho];split at h
  ·rename_i hw;rw[if_pos (Qkx hR ops o true hw)];split at h
   ·rename_i c hc;refine Qad5 hR hc (Quj hR.env) h (fun u w' G' d s' r1 r2 r3 r4=>?_) (fun z w' G' s' s1 i1 k1=>hp z w' G' ⟨σ.env,s'⟩ s1 ⟨i1,hR.env.mono s1,hR.size⟩ k1);obtain⟨env', q1,q2⟩:=Ql3 hR r1 r2 r3 (Qu5 r4);exact hn _ _ _ _ r1 q1 (Qcz _ _ _) q2
   ·exact h.elim
  ·rename_i hw;rw[if_neg (by rw[Qkx hR ops o false hw]; simp)];refine⟨fun f _=>Qaaf _ _,?_⟩;obtain⟨env', q1,q2⟩:=Ql3 hR (.refl G w) hR.inv .undef h;exact hn _ _ _ _ (.refl G w) q1 (Qcz _ _ _) q2
  ·exact h.elim
theorem Qtk(hT:TblOk P tb){rd:Option Nat}{pk mk:List Nat}{N:Nat}{ops:List Oper}{Q:Exit→Act→World→Prop}{K:St→Prop}{KP:List UInt8→St→Prop}{B:Nat×Nat}{G0:Gh}{w0:World}{ds:List Deferred}(hQ:∀ a w G σ,Ex B G0 w0 G w→Rel N G σ a w→a.defers=ds→K σ → Q .normal a w)
  (hP:∀ z (a:Act) w G σ,Ex B G0 w0 G w→Rel N G σ a w→a.defers=ds→KP z σ → Q (.panic (Qml z)) a w) :
  ∀ (l:List Nat) (σ : St) (a:Act) (w:World) (G:Gh),Ex B G0 w0 G w→Rel N G σ a w→a.defers=ds→pOps pk mk P tb N ops KP l σ K→wpOpsIn (FW rd) 0 P ops.toArray Q l a w
 | [],σ,a,w,G,hE,hR,hd,h=>hQ a w G σ hE hR hd h
 | i::r,σ,a,w,G,hE,hR,hd,h=>by
  rw[wpOpsIn_cons];unfold pOps at h;split at h
  ·split at h
   ·rename_i hpp;exact Qad7 hT hR hpp h fun z a' w' G' σ' s1 r1 d1 k1=>hP z a' w' G' σ' (hE.trans (s1.ex B)) r1 (d1.trans hd) k1
   ·exact Q5r hR h (fun a' w' G' σ' s1 r1 d1 h1=>Qtk hT hQ hP r σ' a' w' G' (hE.trans (s1.ex B)) r1 (d1.trans hd) h1) fun z w' G' σ' s1 i1 k1=>hP z a w' G' σ' (hE.trans (s1.ex B)) i1 hd k1
  ·split at h
   ·exact Qti hT hR h fun a' w' G' σ' s1 r1 d1 h1=>Qtk hT hQ hP r σ' a' w' G' (hE.trans (s1.ex B)) r1 (d1.trans hd) h1
   ·exact Qij hT hR h fun a' w' G' σ' s1 r1 d1 h1=>Qtk hT hQ hP r σ' a' w' G' (hE.trans (s1.ex B)) r1 (d1.trans hd) h1
inductive PT where
 | nil
 | pan (i:Nat) (r:PT)
 | op (i:Nat) (sub r:PT)
def PT.heads:PT→List Nat
 | .nil=>[]
 | .pan i r=>i::r.heads
 | .op i _ r=>i::r.heads
def ptAt(ops:Array Oper)(hs:List Nat)(L:Array Bool):Bool := !(Region.ready .any ops L).isEmpty&&(Region.ready .any ops L).all fun x=>hs.contains x
def ptOk(ops:Array Oper):PT→Array Bool→Nat→Bool
 | .nil,_,_=>true
 | .pan _ r,L,k=>ptOk ops r L k
 | .op i sub r,L,k=>(match k with
  | 0=>false
  | k' + 1=>ptAt ops sub.heads (L.setIfInBounds i true)&&ptOk ops sub (L.setIfInBounds i true) k')&&ptOk ops r L k
def Qaqv(ops:Array Oper)(t:PT):Bool:=match ops.size with
 | 0=>false
 | k+1=>ptAt ops t.heads (Array.replicate ops.size false)&&ptOk ops t (Array.replicate ops.size false) k
def panT(P:Program)(tb:Tbl)(N:Nat)(ops:List Oper)(KP:List UInt8→St→Prop):PT→St→Prop
 | .nil,_=>True
 | .pan i r,σ => pOne P N ops i σ (fun _=>False) KP∧panT P tb N ops KP r σ
 | .op i sub r,σ => bOne true P tb N ops i σ (fun σ' => panT P tb N ops KP sub σ')∧panT P tb N ops KP r σ
theorem Q63{rd:Option Nat}{ops:Array Oper}{hs:List Nat}{L:Array Bool}(h:ptAt ops hs L=true){Q:Exit→Act→World→Prop}{k:Nat}{a:Act}{w:World}
  (hx:∀ x ∈ hs,wpOpIn (FW rd) 0 P ops Q x (wpAnyIn (FW rd) 0 P .any ops Q k (L.setIfInBounds x true)) a w):wpAnyIn (FW rd) 0 P .any ops Q (k+1) L a w:=by
 unfold ptAt at h;rw[Bool.and_eq_true,List.all_eq_true] at h;refine⟨fun hr=>?_,fun x hm=>hx x ?_⟩
 ·rw[hr] at h; cases h.1
 ·have:=h.2 x hm;simpa using this
theorem Qahl(hT:TblOk P tb){rd:Option Nat}{N:Nat}{ops:List Oper}{Q:Exit→Act→World→Prop}{KP:List UInt8→St→Prop}{B:Nat×Nat}{G0:Gh}{w0:World}{ds:List Deferred}
  (hP:∀ z (a:Act) w G σ,Ex B G0 w0 G w→Rel N G σ a w→a.defers=ds→KP z σ → Q (.panic (Qml z)) a w) :
  ∀ (t:PT) (k:Nat) (L:Array Bool) (σ : St) (a:Act) (w:World) (G:Gh),ptOk ops.toArray t L k=true→Ex B G0 w0 G w→Rel N G σ a w→a.defers=ds→panT P tb N ops KP t σ →
   ∀ x ∈ t.heads,wpOpIn (FW rd) 0 P ops.toArray Q x (wpAnyIn (FW rd) 0 P .any ops.toArray Q k (L.setIfInBounds x true)) a w:=by
 intro t
 induction t with
 | nil=>intro k L σ a w G _ _ _ _ _ x hx; cases hx
 | pan i r ih =>
  intro k L σ a w G hk hE hR hd h x hx;rcases List.mem_cons.1 hx with rfl | hx
  ·exact Q5r hR h.1 (fun _ _ _ _ _ _ _ hk=>hk.elim) fun z w' G' σ' s1 i1 k1=>hP z a w' G' σ' (hE.trans (s1.ex B)) i1 hd k1
  ·exact ih k L σ a w G hk hE hR hd h.2 x hx
 | op i sub r ihs ihr =>
  intro k L σ a w G hk hE hR hd h x hx;unfold ptOk at hk;rw[Bool.and_eq_true] at hk;rcases List.mem_cons.1 hx with rfl | hx
  ·cases k with
   | zero=>cases hk.1
   | succ k =>
    have hk1:=hk.1;simp only[Bool.and_eq_true] at hk1;exact Qij hT hR h.1 fun a' w' G' σ' s1 r1 d1 h1=>Q63 hk1.1 fun y hy=>ihs k _ σ' a' w' G' hk1.2 (hE.trans (s1.ex B)) r1 (d1.trans hd) h1 y hy
  ·exact ihr k L σ a w G hk.2 hE hR hd h.2 x hx
def Qahm(ops:Array Oper):Bool→PT→Array Bool→Nat→Bool
 | b,.nil,L,_ => !b||(Region.ready .any ops L).isEmpty
 | _,.pan _ _,_,_=>false
 | b,.op i sub r,L,k=>(!b||ptAt ops (i::r.heads) L)&&(match k with
  | 0=>false
  | k' + 1=>Qahm ops true sub (L.setIfInBounds i true) k')&&Qahm ops false r L k
def allT(P:Program)(tb:Tbl)(N:Nat)(ops:List Oper)(leaf:St→Prop):Bool→PT→St→Prop
 | b,.nil,σ => match b with
  | true=>leaf σ
  | false=>True
 | _,.pan _ _,_=>False
 | _,.op i sub r,σ => bOne true P tb N ops i σ (fun σ' => allT P tb N ops leaf true sub σ')∧allT P tb N ops leaf false r σ
theorem Qahn(hT:TblOk P tb){rd:Option Nat}{N:Nat}{ops:List Oper}{Q:Exit→Act→World→Prop}{leaf:St→Prop}{B:Nat×Nat}{G0:Gh}{w0:World}{ds:List Deferred}
  (hQ:∀ a w G σ,Ex B G0 w0 G w→Rel N G σ a w→a.defers=ds→leaf σ → Q .normal a w) :
  ∀ (t:PT) (b:Bool) (k:Nat) (L:Array Bool) (σ : St) (a:Act) (w:World) (G:Gh),Qahm ops.toArray b t L k=true→Ex B G0 w0 G w→Rel N G σ a w→a.defers=ds→allT P tb N ops leaf b t σ →
   (b=true→wpAnyIn (FW rd) 0 P .any ops.toArray Q k L a w)∧∀ k', k=k' + 1→∀ x ∈ t.heads,wpOpIn (FW rd) 0 P ops.toArray Q x (wpAnyIn (FW rd) 0 P .any ops.toArray Q k' (L.setIfInBounds x true)) a w:=by
 intro t
 induction t with
 | nil =>
  intro b k L σ a w G hk hE hR hd h;refine⟨fun hb=>?_,fun k' _ x hx=>by cases hx⟩;subst hb;have hn:Region.ready .any ops.toArray L=[]:=by
   unfold Qahm at hk;simpa using hk
  have hq:=hQ a w G σ hE hR hd h;cases k with
  | zero=>exact⟨hn,hq⟩
  | succ k=>exact⟨fun _=>hq,fun x hx=>by rw[hn] at hx; cases hx⟩
 | pan i r ih =>
  intro b k L σ a w G hk hE hR hd h;exact h.elim
 | op i sub r ihs ihr =>
  intro b k L σ a w G hk hE hR hd h;unfold Qahm at hk;rw[Bool.and_eq_true,Bool.and_eq_true] at hk;obtain⟨⟨hk1,hk2⟩,hk3⟩:=hk;have h1:bOne true P tb N ops i σ (fun σ' => allT P tb N ops leaf true sub σ'):=h.1;have h2:allT P tb N ops leaf false r σ := h.2;cases k with
  | zero=>cases hk2
  | succ k =>
   have hx:∀ k', k+1=k' + 1→∀ x ∈ (PT.op i sub r).heads,wpOpIn (FW rd) 0 P ops.toArray Q x (wpAnyIn (FW rd) 0 P .any ops.toArray Q k' (L.setIfInBounds x true)) a w:=by
    intro k' hk' x hx;obtain rfl:k=k' := by omega
    rcases List.mem_cons.1 hx with rfl | hx
    ·exact Qij hT hR h1 fun a' w' G' σ' s1 r1 d1 h1=>(ihs true k _ σ' a' w' G' hk2 (hE.trans (s1.ex B)) r1 (d1.trans hd) h1).1 rfl
    ·exact(ihr false (k+1) L σ a w G hk3 hE hR hd h2).2 k rfl x hx
   refine⟨fun hb=>?_,hx⟩;subst hb;exact Q63 (hs:=(PT.op i sub r).heads) (by simpa [PT.heads] using hk1) fun x hxx=>hx k rfl x hxx
end
section
variable {P:Program} {tb:Tbl}
def Q64(ops:List Oper)(j:Nat):Bool :=
 Nat.ble j ops.length&&(List.range (ops.length-j)).all fun d=>match ops[j+d]? with
  | some o=>o.after.toList.all (fun e => !Region.binds .any e||decide (e.on<j+d)) &&
   ((List.range j).all (fun x=>((Qqk ops []).getD (j+d) []).contains x)&&(d==0||o.after.toList.any fun e=>Region.binds .any e&&e.on==j+d-1))
  | none=>false
theorem Qamu{o:Oper}{x:Nat}(h:(o.after.toList.any fun e=>Region.binds .any e&&e.on==x)=true):∃ e ∈ o.after,Region.binds .any e=true∧e.on=x:=by
 rw[List.any_eq_true] at h;obtain⟨e,he,hb⟩:=h;rw[Bool.and_eq_true,beq_iff_eq] at hb;exact⟨e,by simpa using he,hb.1,hb.2⟩
theorem Qyc{ops:List Oper}{j:Nat}(h:Q64 ops j=true):j≤ops.length∧∀ i o,j≤i→ops[i]? = some o→(∀ e ∈ o.after,Region.binds .any e=true→e.on<i)∧(∀ x,x<j→Reach ops x i)∧(j<i→∃ e ∈ o.after,Region.binds .any e=true∧e.on=i-1):=by
 unfold Q64 at h;rw[Bool.and_eq_true,List.all_eq_true] at h;refine⟨Nat.le_of_ble_eq_true h.1,fun i o hi ho=>?_⟩;have hil:i<ops.length:=(List.getElem?_eq_some_iff.1 ho).1;have:=h.2 (i-j) (List.mem_range.2 (by omega));rw[show j+(i-j)=i by omega,ho] at this;simp only[Bool.and_eq_true,List.all_eq_true,Bool.or_eq_true,decide_eq_true_eq,Bool.not_eq_true', List.mem_range,beq_iff_eq,List.contains_iff_mem] at this;obtain⟨h1,h2,h3⟩:=this;refine⟨fun e he hb=>?_,fun x hx=>?_,fun hji=>?_⟩
 ·rcases h1 e (by simpa using he) with k | k
  ·rw[hb] at k; cases k
  ·exact k
 ·have hx:=h2 x hx;cases hq:(Qqk ops [])[i]? with
  | none=>simp[List.getD,hq] at hx
  | some l =>
   simp[List.getD,hq] at hx;exact Qj0 ops [] [] rfl rfl (fun i l a h=>by simp at h) i l x hq hx
 ·rcases h3 with k | k
  ·omega
  ·exact Qamu k
theorem Qaho(hT:TblOk P tb){rd:Option Nat}{mk:List Nat}{N:Nat}{ops:List Oper}{j:Nat}(ht:Q64 ops j=true){Q:Exit→Act→World→Prop}{K:St→Prop}{B:Nat×Nat}{G0:Gh}{w0:World}{ds:List Deferred}(hQ:∀ a w G σ,Ex B G0 w0 G w→Rel N G σ a w→a.defers=ds→K σ → Q .normal a w) :
  ∀ (k i:Nat),j≤i→i+k=ops.length→∀ (L:Array Bool) (σ : St) (a:Act) (w:World) (G:Gh),L.size=ops.length→(∀ x,x<i→L.getD x true=true)→(∀ x,i≤x→x<ops.length→L.getD x true=false)→Ex B G0 w0 G w→Rel N G σ a w→a.defers=ds →
   xOps mk P tb N ops (List.range' i k) σ K→wpAnyIn (FW rd) 0 P .any ops.toArray Q k L a w:=by
 obtain⟨hj,hsp⟩:=Qyc ht;intro k
 induction k with
 | zero =>
  intro i hji hik L σ a w G hs h1 h2 hE hR hd h;refine⟨?_,hQ a w G σ hE hR hd h⟩;apply List.eq_nil_iff_forall_not_mem.2;intro x hx;obtain⟨g1,o,ho,-⟩:=mem_ready.1 hx;have hxl:x<ops.length:=by have:=(Array.getElem?_eq_some_iff.1 ho).1; simpa using this
  have g2:=h1 x (by omega);have hxs:x<L.size:=by omega
  simp only[Array.getD_eq_getD_getElem?,Array.getElem?_eq_getElem hxs,Option.getD_some] at g1 g2;rw[g1] at g2; cases g2
 | succ k ih =>
  intro i hji hik L σ a w G hs h1 h2 hE hR hd h;have hil:i<ops.length:=by omega
  have ho:ops[i]? = some ops[i]:=List.getElem?_eq_getElem hil;have his:i<L.size:=by omega
  have flip:∀ x,x<L.size→∀ b,L.getD x true=b→L.getD x false=b:=fun x hx b hb=>by
   simp only[Array.getD_eq_getD_getElem?,Array.getElem?_eq_getElem hx,Option.getD_some] at hb ⊢;exact hb
  refine⟨fun hr=>?_,fun x hx=>?_⟩
  ·exfalso;have:i ∈ Region.ready .any ops.toArray L:=by
    refine mem_ready.2 ⟨h2 i (Nat.le_refl _) hil,ops[i],by simp,fun e he hb=>?_⟩;have:=(hsp i _ hji ho).1 e he hb;exact flip _ (by omega) _ (h1 _ this)
   rw[hr] at this; cases this
  ·obtain⟨g1,o,hox,hb⟩:=mem_ready.1 hx;have hox' : ops[x]? = some o:=by simpa using hox
   have hxl:x<ops.length:=(List.getElem?_eq_some_iff.1 hox').1;have hxi:x=i:=by
    by_cases hlt:x<i
    ·rw[h1 x hlt] at g1; cases g1
    ·by_cases hgt:i<x
     ·exfalso;obtain⟨e,he,hb1,hb2⟩:=(hsp x o (by omega) hox').2.2 (by omega);have:=hb e he hb1;rw[hb2,flip (x-1) (by omega) _ (h2 (x-1) (by omega) (by omega))] at this;cases this
     ·omega
   subst hxi;have hnext:∀ a' w' G' σ', Stp G w G' w' → Rel N G' σ' a' w' → a'.defers=a.defers→xOps mk P tb N ops (List.range' (x+1) k) σ' K→wpAnyIn (FW rd) 0 P .any ops.toArray Q k (L.setIfInBounds x true) a' w' := fun a' w' G' σ' s1 r1 d1 hk=>by
    refine ih (x+1) (by omega) (by omega) _ σ' a' w' G' (by simpa using hs) (fun y hy=>?_) (fun y hy hyl=>?_) (hE.trans (s1.ex B)) r1 (d1.trans hd) hk
    ·by_cases hyx:y=x
     ·subst hyx;simp[Array.getD_eq_getD_getElem?,his]
     ·have:=h1 y (by omega);simp only[Array.getD_eq_getD_getElem?,Array.getElem?_setIfInBounds,if_neg (fun e:x=y=>hyx e.symm)] at this ⊢;exact this
    ·have:=h2 y (by omega) hyl;simp only[Array.getD_eq_getD_getElem?,Array.getElem?_setIfInBounds,if_neg (show ¬ x=y by omega)] at this ⊢;exact this
   rw[List.range'_succ] at h;unfold xOps at h;split at h
   ·split at h
    ·exact Q5m hR h hnext
    ·exact Qti hT hR h hnext
   ·exact Qij hT hR h hnext
end
theorem TblOk.nil(P:Program):TblOk P []:=fun t ti h=>by cases h
theorem TblOk.cons{P:Program}(t:Nat)(ti:TI)(l:Tbl)(h:P.underlying t=some ti.d)(hi:(P.info? t).map (fun i=>(i.size,i.bytes,i.zero))=some (ti.size,ti.bytes,some ti.zero))(hc:ti.cmp=true→Qal6 P t=true)(hbl:∀ q ∈ ti.bld,q.2.2<ti.zero.cells.size∧liesAt q.1 q.1.depth t (ti.zero.cells.size / q.1.cellsOf t) q.2.2 q.2.1 1=true)(hl:TblOk P l):TblOk P ((t,ti)::l):=by
 intro t' ti' h';rw[List.lookup_cons] at h';by_cases ht:t' = t
 ·subst ht;simp only[beq_self_eq_true,Option.some.injEq] at h';subst h';obtain⟨i,h1,h2⟩:=Option.map_eq_some_iff.1 hi;simp only[Prod.mk.injEq] at h2;exact⟨h,i,h1,h2.1,h2.2.1,h2.2.2,hc,hbl⟩
 ·have hb:(t' == t)=false:=by simpa using ht
  rw[hb] at h';exact hl t' ti' h'
def tb:Tbl:=[(1,⟨.func #[] #[] false,1,8,.nilFunc,false,[]⟩),
 (3,⟨.int .i64,1,8,.int .i64 0,false,[]⟩),
 (4,⟨.bool,1,1,.bool false,false,[]⟩),
 (5,⟨.int .u8,1,1,.int .u8 0,false,[]⟩),
 (9,⟨.string,1,16,.string ByteArray.empty,false,[]⟩),
 (21,⟨.int .i32,1,4,.int .i32 0,false,[]⟩),
 (22,⟨.slice 56,1,24,.slice none 0 0,false,[]⟩),
 (24,⟨.int .i64,1,8,.int .i64 0,false,[]⟩),
 (29,⟨.slice 9,1,24,.slice none 0 0,false,[]⟩),
 (35,⟨.int .i64,1,8,.int .i64 0,false,[]⟩),
 (36,⟨.slice 38,1,24,.slice none 0 0,false,[]⟩),
 (37,⟨.struct #[⟨ "Kind",35,0,false, "", "",0⟩,⟨ "Name",9,1,false, "", "",8⟩,⟨ "Text",9,2,false, "", "",24⟩,⟨ "N",3,3,false, "", "",40⟩,⟨ "L",36,4,false, "", "",48⟩,⟨ "Then",36,5,false, "", "",72⟩,⟨ "Else",36,6,false, "", "",96⟩],7,120,.agg #[.int .i64 0,.string ByteArray.empty,.string ByteArray.empty,.int .i64 0,.slice none 0 0,.slice none 0 0,.slice none 0 0],false,[]⟩),
 (38,⟨.struct #[⟨ "Kind",35,0,false, "", "",0⟩,⟨ "Name",9,1,false, "", "",8⟩,⟨ "Text",9,2,false, "", "",24⟩,⟨ "N",3,3,false, "", "",40⟩,⟨ "L",36,4,false, "", "",48⟩,⟨ "Then",36,5,false, "", "",72⟩,⟨ "Else",36,6,false, "", "",96⟩],7,120,.agg #[.int .i64 0,.string ByteArray.empty,.string ByteArray.empty,.int .i64 0,.slice none 0 0,.slice none 0 0,.slice none 0 0],false,[]⟩),
 (39,⟨.slice 46,1,24,.slice none 0 0,false,[]⟩),
 (43,⟨.int .u64,1,8,.int .u64 0,false,[]⟩),
 (44,⟨.int .i64,1,8,.int .i64 0,false,[]⟩),
 (45,⟨.struct #[⟨ "Name",9,0,false, "", "",0⟩,⟨ "K",44,1,false, "", "",16⟩,⟨ "Secret",4,2,false, "", "",24⟩],3,32,.agg #[.string ByteArray.empty,.int .i64 0,.bool false],false,[]⟩),
 (46,⟨.struct #[⟨ "Name",9,0,false, "", "",0⟩,⟨ "K",44,1,false, "", "",16⟩,⟨ "Secret",4,2,false, "", "",24⟩],3,32,.agg #[.string ByteArray.empty,.int .i64 0,.bool false],true,[]⟩),
 (55,⟨.struct #[⟨ "Name",9,0,false, "", "",0⟩,⟨ "L",36,1,false, "", "",16⟩],2,40,.agg #[.string ByteArray.empty,.slice none 0 0],false,[]⟩),
 (56,⟨.struct #[⟨ "Name",9,0,false, "", "",0⟩,⟨ "L",36,1,false, "", "",16⟩],2,40,.agg #[.string ByteArray.empty,.slice none 0 0],false,[]⟩),
 (57,⟨.slice 5,1,24,.slice none 0 0,false,[]⟩),
 (65,⟨.map 9 29,1,8,.map none,false,[]⟩),
 (66,⟨.struct #[⟨ "to",65,0,false, "", "nuncio/calls",0⟩],1,8,.agg #[.map none],false,[]⟩),
 (67,⟨.struct #[⟨ "to",65,0,false, "", "nuncio/calls",0⟩],1,8,.agg #[.map none],false,[]⟩),
 (78,⟨.func #[38] #[4] false,1,8,.nilFunc,false,[]⟩),
 (87,⟨.struct #[⟨ "name",9,0,false, "", "nuncio/infer",0⟩],1,16,.agg #[.string ByteArray.empty],false,[]⟩),
 (88,⟨.struct #[⟨ "name",9,0,false, "", "nuncio/infer",0⟩],1,16,.agg #[.string ByteArray.empty],true,[]⟩),
 (90,⟨.pointer 93,1,8,.pointer none,false,[]⟩),
 (91,⟨.map 119 3,1,8,.map none,false,[]⟩),
 (92,⟨.struct #[⟨ "l",22,0,false, "", "nuncio/infer",0⟩,⟨ "secrets",29,1,false, "", "nuncio/infer",24⟩,⟨ "done",91,2,false, "", "nuncio/infer",48⟩],3,56,.agg #[.slice none 0 0,.slice none 0 0,.map none],false,[]⟩),
 (93,⟨.struct #[⟨ "l",22,0,false, "", "nuncio/infer",0⟩,⟨ "secrets",29,1,false, "", "nuncio/infer",24⟩,⟨ "done",91,2,false, "", "nuncio/infer",48⟩],3,56,.agg #[.slice none 0 0,.slice none 0 0,.map none],false,[]⟩),
 (100,⟨.map 9 3,1,8,.map none,false,[]⟩),
 (118,⟨.struct #[⟨ "name",9,0,false, "", "nuncio/infer",0⟩,⟨ "it",44,1,false, "", "nuncio/infer",16⟩],2,24,.agg #[.string ByteArray.empty,.int .i64 0],false,[]⟩),
 (119,⟨.struct #[⟨ "name",9,0,false, "", "nuncio/infer",0⟩,⟨ "it",44,1,false, "", "nuncio/infer",16⟩],2,24,.agg #[.string ByteArray.empty,.int .i64 0],true,[]⟩),
 (121,⟨.func #[156] #[] false,1,8,.nilFunc,false,[]⟩),
 (122,⟨.func #[156] #[] false,1,8,.nilFunc,false,[]⟩),
 (125,⟨.func #[36] #[] false,1,8,.nilFunc,false,[]⟩),
 (127,⟨.int .i64,1,8,.int .i64 0,false,[]⟩),
 (135,⟨.int .u32,1,4,.int .u32 0,false,[]⟩),
 (137,⟨.int .u64,1,8,.int .u64 0,false,[]⟩),
 (138,⟨.slice 147,1,24,.slice none 0 0,false,[]⟩),
 (141,⟨.pointer 143,1,8,.pointer none,false,[]⟩),
 (142,⟨.struct #[⟨ "L",138,0,false, "", "",0⟩,⟨ "At",3,1,false, "", "",24⟩,⟨ "Bad",4,2,false, "", "",32⟩],3,40,.agg #[.slice none 0 0,.int .i64 0,.bool false],false,[]⟩),
 (143,⟨.struct #[⟨ "L",138,0,false, "", "",0⟩,⟨ "At",3,1,false, "", "",24⟩,⟨ "Bad",4,2,false, "", "",32⟩],3,40,.agg #[.slice none 0 0,.int .i64 0,.bool false],false,[]⟩),
 (145,⟨.int .i64,1,8,.int .i64 0,false,[]⟩),
 (146,⟨.struct #[⟨ "Kind",145,0,false, "", "",0⟩,⟨ "Text",9,1,false, "", "",8⟩,⟨ "N",3,2,false, "", "",24⟩,⟨ "From",3,3,false, "", "",32⟩,⟨ "To",3,4,false, "", "",40⟩],5,48,.agg #[.int .i64 0,.string ByteArray.empty,.int .i64 0,.int .i64 0,.int .i64 0],false,[]⟩),
 (147,⟨.struct #[⟨ "Kind",145,0,false, "", "",0⟩,⟨ "Text",9,1,false, "", "",8⟩,⟨ "N",3,2,false, "", "",24⟩,⟨ "From",3,3,false, "", "",32⟩,⟨ "To",3,4,false, "", "",40⟩],5,48,.agg #[.int .i64 0,.string ByteArray.empty,.int .i64 0,.int .i64 0,.int .i64 0],true,[]⟩),
 (152,⟨.slice 44,1,24,.slice none 0 0,false,[]⟩),
 (156,⟨.func #[38,3] #[4] false,1,8,.nilFunc,false,[]⟩),
 (157,⟨.array 3 36,3,72,.agg #[.slice none 0 0,.slice none 0 0,.slice none 0 0],false,[]⟩),
 (158,⟨.struct #[⟨ "name",4,0,false, "", "nuncio/tree",0⟩,⟨ "text",4,1,false, "", "nuncio/tree",1⟩,⟨ "num",4,2,false, "", "nuncio/tree",2⟩,⟨ "then",4,3,false, "", "nuncio/tree",3⟩,⟨ "other",4,4,false, "", "nuncio/tree",4⟩,⟨ "l",3,5,false, "", "nuncio/tree",8⟩],6,16,.agg #[.bool false,.bool false,.bool false,.bool false,.bool false,.int .i64 0],false,[]⟩),
 (159,⟨.struct #[⟨ "name",4,0,false, "", "nuncio/tree",0⟩,⟨ "text",4,1,false, "", "nuncio/tree",1⟩,⟨ "num",4,2,false, "", "nuncio/tree",2⟩,⟨ "then",4,3,false, "", "nuncio/tree",3⟩,⟨ "other",4,4,false, "", "nuncio/tree",4⟩,⟨ "l",3,5,false, "", "nuncio/tree",8⟩],6,16,.agg #[.bool false,.bool false,.bool false,.bool false,.bool false,.int .i64 0],true,[]⟩),
 (162,⟨.int .u64,1,8,.int .u64 0,false,[]⟩),
 (166,⟨.pointer 3,1,8,.pointer none,false,[]⟩),
 (176,⟨.array 10 9,10,160,.agg #[.string ByteArray.empty,.string ByteArray.empty,.string ByteArray.empty,.string ByteArray.empty,.string ByteArray.empty,.string ByteArray.empty,.string ByteArray.empty,.string ByteArray.empty,.string ByteArray.empty,.string ByteArray.empty],false,[]⟩),
 (178,⟨.func #[44,152] #[44,4] true,1,8,.nilFunc,false,[]⟩),
 (179,⟨.slice 182,1,24,.slice none 0 0,false,[]⟩),
 (181,⟨.struct #[⟨ "of",44,0,false, "", "nuncio/kind",0⟩,⟨ "name",9,1,false, "", "nuncio/kind",8⟩,⟨ "is",44,2,false, "", "nuncio/kind",24⟩],3,32,.agg #[.int .i64 0,.string ByteArray.empty,.int .i64 0],false,[]⟩),
 (182,⟨.struct #[⟨ "of",44,0,false, "", "nuncio/kind",0⟩,⟨ "name",9,1,false, "", "nuncio/kind",8⟩,⟨ "is",44,2,false, "", "nuncio/kind",24⟩],3,32,.agg #[.int .i64 0,.string ByteArray.empty,.int .i64 0],true,[]⟩),
 (191,⟨.pointer 162,1,8,.pointer none,false,[]⟩),
 (194,⟨.slice 145,1,24,.slice none 0 0,false,[]⟩),
 (204,⟨.func #[212] #[] false,1,8,.nilFunc,false,[]⟩),
 (205,⟨.func #[212] #[] false,1,8,.nilFunc,false,[]⟩),
 (207,⟨.slice 3,1,24,.slice none 0 0,false,[]⟩),
 (212,⟨.func #[21,3] #[4] false,1,8,.nilFunc,false,[]⟩)]
set_option maxRecDepth 100000 in
theorem tbOk:TblOk Tryz.prog tb:=by
 unfold tb;refine .cons 1 _ _ (by kernel_rfl) (by kernel_rfl) (fun h=>nomatch h) (fun q hq=>nomatch hq) ?_;refine .cons 3 _ _ (by kernel_rfl) (by kernel_rfl) (fun h=>nomatch h) (fun q hq=>nomatch hq) ?_;refine .cons 4 _ _ (by kernel_rfl) (by kernel_rfl) (fun h=>nomatch h) (fun q hq=>nomatch hq) ?_;refine .cons 5 _ _ (by kernel_rfl) (by kernel_rfl) (fun h=>nomatch h) (fun q hq=>nomatch hq) ?_;refine .cons 9 _ _ (by kernel_rfl) (by kernel_rfl) (fun h=>nomatch h) (fun q hq=>nomatch hq) ?_;refine .cons 21 _ _ (by kernel_rfl) (by kernel_rfl) (fun h=>nomatch h) (fun q hq=>nomatch hq) ?_;refine .cons 22 _ _ (by kernel_rfl) (by kernel_rfl) (fun h=>nomatch h) (fun q hq=>nomatch hq) ?_;refine .cons 24 _ _ (by kernel_rfl) (by kernel_rfl) (fun h=>nomatch h) (fun q hq=>nomatch hq) ?_;refine .cons 29 _ _ (by kernel_rfl) (by kernel_rfl) (fun h=>nomatch h) (fun q hq=>nomatch hq) ?_;refine .cons 35 _ _ (by kernel_rfl) (by kernel_rfl) (fun h=>nomatch h) (fun q hq=>nomatch hq) ?_;refine .cons 36 _ _ (by kernel_rfl) (by kernel_rfl) (fun h=>nomatch h) (fun q hq=>nomatch hq) ?_;refine .cons 37 _ _ (by kernel_rfl) (by kernel_rfl) (fun h=>nomatch h) (fun q hq=>nomatch hq) ?_;refine .cons 38 _ _ (by kernel_rfl) (by kernel_rfl) (fun h=>nomatch h) (fun q hq=>nomatch hq) ?_;refine .cons 39 _ _ (by kernel_rfl) (by kernel_rfl) (fun h=>nomatch h) (fun q hq=>nomatch hq) ?_;refine .cons 43 _ _ (by kernel_rfl) (by kernel_rfl) (fun h=>nomatch h) (fun q hq=>nomatch hq) ?_
 refine .cons 44 _ _ (by kernel_rfl) (by kernel_rfl) (fun h=>nomatch h) (fun q hq=>nomatch hq) ?_;refine .cons 45 _ _ (by kernel_rfl) (by kernel_rfl) (fun h=>nomatch h) (fun q hq=>nomatch hq) ?_;refine .cons 46 _ _ (by kernel_rfl) (by kernel_rfl) (fun _=>by kernel_rfl) (fun q hq=>nomatch hq) ?_;refine .cons 55 _ _ (by kernel_rfl) (by kernel_rfl) (fun h=>nomatch h) (fun q hq=>nomatch hq) ?_;refine .cons 56 _ _ (by kernel_rfl) (by kernel_rfl) (fun h=>nomatch h) (fun q hq=>nomatch hq) ?_;refine .cons 57 _ _ (by kernel_rfl) (by kernel_rfl) (fun h=>nomatch h) (fun q hq=>nomatch hq) ?_;refine .cons 65 _ _ (by kernel_rfl) (by kernel_rfl) (fun h=>nomatch h) (fun q hq=>nomatch hq) ?_;refine .cons 66 _ _ (by kernel_rfl) (by kernel_rfl) (fun h=>nomatch h) (fun q hq=>nomatch hq) ?_;refine .cons 67 _ _ (by kernel_rfl) (by kernel_rfl) (fun h=>nomatch h) (fun q hq=>nomatch hq) ?_;refine .cons 78 _ _ (by kernel_rfl) (by kernel_rfl) (fun h=>nomatch h) (fun q hq=>nomatch hq) ?_;refine .cons 87 _ _ (by kernel_rfl) (by kernel_rfl) (fun h=>nomatch h) (fun q hq=>nomatch hq) ?_;refine .cons 88 _ _ (by kernel_rfl) (by kernel_rfl) (fun _=>by kernel_rfl) (fun q hq=>nomatch hq) ?_;refine .cons 90 _ _ (by kernel_rfl) (by kernel_rfl) (fun h=>nomatch h) (fun q hq=>nomatch hq) ?_;refine .cons 91 _ _ (by kernel_rfl) (by kernel_rfl) (fun h=>nomatch h) (fun q hq=>nomatch hq) ?_;refine .cons 92 _ _ (by kernel_rfl) (by kernel_rfl) (fun h=>nomatch h) (fun q hq=>nomatch hq) ?_
 refine .cons 93 _ _ (by kernel_rfl) (by kernel_rfl) (fun h=>nomatch h) (fun q hq=>nomatch hq) ?_;refine .cons 100 _ _ (by kernel_rfl) (by kernel_rfl) (fun h=>nomatch h) (fun q hq=>nomatch hq) ?_;refine .cons 118 _ _ (by kernel_rfl) (by kernel_rfl) (fun h=>nomatch h) (fun q hq=>nomatch hq) ?_;refine .cons 119 _ _ (by kernel_rfl) (by kernel_rfl) (fun _=>by kernel_rfl) (fun q hq=>nomatch hq) ?_;refine .cons 121 _ _ (by kernel_rfl) (by kernel_rfl) (fun h=>nomatch h) (fun q hq=>nomatch hq) ?_;refine .cons 122 _ _ (by kernel_rfl) (by kernel_rfl) (fun h=>nomatch h) (fun q hq=>nomatch hq) ?_;refine .cons 125 _ _ (by kernel_rfl) (by kernel_rfl) (fun h=>nomatch h) (fun q hq=>nomatch hq) ?_;refine .cons 127 _ _ (by kernel_rfl) (by kernel_rfl) (fun h=>nomatch h) (fun q hq=>nomatch hq) ?_;refine .cons 135 _ _ (by kernel_rfl) (by kernel_rfl) (fun h=>nomatch h) (fun q hq=>nomatch hq) ?_;refine .cons 137 _ _ (by kernel_rfl) (by kernel_rfl) (fun h=>nomatch h) (fun q hq=>nomatch hq) ?_;refine .cons 138 _ _ (by kernel_rfl) (by kernel_rfl) (fun h=>nomatch h) (fun q hq=>nomatch hq) ?_;refine .cons 141 _ _ (by kernel_rfl) (by kernel_rfl) (fun h=>nomatch h) (fun q hq=>nomatch hq) ?_;refine .cons 142 _ _ (by kernel_rfl) (by kernel_rfl) (fun h=>nomatch h) (fun q hq=>nomatch hq) ?_;refine .cons 143 _ _ (by kernel_rfl) (by kernel_rfl) (fun h=>nomatch h) (fun q hq=>nomatch hq) ?_;refine .cons 145 _ _ (by kernel_rfl) (by kernel_rfl) (fun h=>nomatch h) (fun q hq=>nomatch hq) ?_
 refine .cons 146 _ _ (by kernel_rfl) (by kernel_rfl) (fun h=>nomatch h) (fun q hq=>nomatch hq) ?_;refine .cons 147 _ _ (by kernel_rfl) (by kernel_rfl) (fun _=>by kernel_rfl) (fun q hq=>nomatch hq) ?_;refine .cons 152 _ _ (by kernel_rfl) (by kernel_rfl) (fun h=>nomatch h) (fun q hq=>nomatch hq) ?_;refine .cons 156 _ _ (by kernel_rfl) (by kernel_rfl) (fun h=>nomatch h) (fun q hq=>nomatch hq) ?_;refine .cons 157 _ _ (by kernel_rfl) (by kernel_rfl) (fun h=>nomatch h) (fun q hq=>nomatch hq) ?_;refine .cons 158 _ _ (by kernel_rfl) (by kernel_rfl) (fun h=>nomatch h) (fun q hq=>nomatch hq) ?_;refine .cons 159 _ _ (by kernel_rfl) (by kernel_rfl) (fun _=>by kernel_rfl) (fun q hq=>nomatch hq) ?_;refine .cons 162 _ _ (by kernel_rfl) (by kernel_rfl) (fun h=>nomatch h) (fun q hq=>nomatch hq) ?_;refine .cons 166 _ _ (by kernel_rfl) (by kernel_rfl) (fun h=>nomatch h) (fun q hq=>nomatch hq) ?_;refine .cons 176 _ _ (by kernel_rfl) (by kernel_rfl) (fun h=>nomatch h) (fun q hq=>nomatch hq) ?_;refine .cons 178 _ _ (by kernel_rfl) (by kernel_rfl) (fun h=>nomatch h) (fun q hq=>nomatch hq) ?_;refine .cons 179 _ _ (by kernel_rfl) (by kernel_rfl) (fun h=>nomatch h) (fun q hq=>nomatch hq) ?_;refine .cons 181 _ _ (by kernel_rfl) (by kernel_rfl) (fun h=>nomatch h) (fun q hq=>nomatch hq) ?_;refine .cons 182 _ _ (by kernel_rfl) (by kernel_rfl) (fun _=>by kernel_rfl) (fun q hq=>nomatch hq) ?_;refine .cons 191 _ _ (by kernel_rfl) (by kernel_rfl) (fun h=>nomatch h) (fun q hq=>nomatch hq) ?_
 refine .cons 194 _ _ (by kernel_rfl) (by kernel_rfl) (fun h=>nomatch h) (fun q hq=>nomatch hq) ?_;refine .cons 204 _ _ (by kernel_rfl) (by kernel_rfl) (fun h=>nomatch h) (fun q hq=>nomatch hq) ?_;refine .cons 205 _ _ (by kernel_rfl) (by kernel_rfl) (fun h=>nomatch h) (fun q hq=>nomatch hq) ?_;refine .cons 207 _ _ (by kernel_rfl) (by kernel_rfl) (fun h=>nomatch h) (fun q hq=>nomatch hq) ?_;refine .cons 212 _ _ (by kernel_rfl) (by kernel_rfl) (fun h=>nomatch h) (fun q hq=>nomatch hq) ?_;exact .nil _
theorem mixed:Tryz.prog.follows .mixedOrders=true:=by kernel_rfl
theorem Qajz{a b:ByteArray}(h:a=b):Ending.returned (.string a) = .returned (.string b):=by rw[h]
theorem Q5s{k:IntKind}{a b:Int}{c d:Bool}(h:a=b)(g:c=d):Ending.returned (.tuple #[.int k a,.bool c]) = .returned (.tuple #[.int k b,.bool d]):=by rw[h,g]
theorem Qaa7(s:ByteArray)(i:Nat)(h:i<s.size):s[i]=s.data.toList.getD i 0:=by
 have h' : i<s.data.toList.length:=by simpa using h
 rw[List.getD,List.getElem?_eq_getElem h'];rfl
theorem Qnn(s:ByteArray):s.size=s.data.toList.length:=by simp
def sV(l:List UInt8):V :=.v (Qd6 l)
def iV(n:Int):V :=.v (.int .i64 n)
def bV(b:Bool):V :=.v (.bool b)
theorem us1{us:Array Value}(h:us.size=1):∃ a,us = #[a]:=by
 match us,h with
 | ⟨[a]⟩,_=>exact⟨a,rfl⟩
theorem us2{us:Array Value}(h:us.size=2):∃ a b,us = #[a,b]:=by
 match us,h with
 | ⟨[a,b]⟩,_=>exact⟨a,b,rfl⟩
theorem Qasw{G:Gh}{w:World}{a b:Value}(ha:scal a=true)(hb:scal b=true):DRel G w (.tup [.p (.v a),.p (.v b)]) (.tuple #[a,b]):=by
 refine .tup _ _ rfl fun j c u hc hu=>?_
 match j with
 | 0=>simp at hc hu; subst hc; subst hu; exact .p _ _ (.v _ ha)
 | 1=>simp at hc hu; subst hc; subst hu; exact .p _ _ (.v _ hb)
 | j+2=>simp at hc
def Q65:Code→Nat
 | .seq a b=>Q65 a+Q65 b+1
 | .cond _ a b=>Q65 a+Q65 b+1
 | .block _ b=>Q65 b+1
 | .loop b=>Q65 b+1
 | .rangeFunc _ _ a b=>Q65 a+Q65 b+1
 | _=>1
def skey:Code→Nat
 | .region id _ _=>3000000+id
 | x=>2000000+1000*Qiv x+Q65 x
def Qav:Code→List Code
 | .seq a b=>Qav a++Qav b
 | .cond _ a b=>Qav a++Qav b
 | .block _ b=>Qav b
 | .loop b=>b::Qav b
 | .rangeFunc g ps a b =>.rangeFunc g ps a b::(Qav a++Qav b)
 | .scope b=>Qav b
 | _=>[]
section
variable {P:Program} {tb:Tbl}
def Qaf2(o:Option (List Nat))(n:Nat):Nat:=match o with
 | some [b]=>if b≤n then b else n
 | _=>n
theorem Qaa8(o:Option (List Nat))(n:Nat):Qaf2 o n≤n:=by
 unfold Qaf2;split
 ·split
  ·assumption
  ·exact Nat.le_refl _
 ·exact Nat.le_refl _
def rwp (P : Program) (tb : Tbl) (N : Nat) (lv : List (Nat × List Nat)) (id : Nat) (ops : Array Oper) (dr : Bool) (Q : St → Prop) (σ : St) : Prop := Qame σ fun σ => match dr with
    | false => match lv.lookup (9000000 + id) with
      | none => bOps true P tb N ops.toList (List.range ops.toList.length) σ fun σ' => Q (keep (lv.lookup id) σ')
      | some mk => xOps mk P tb N ops.toList (List.range ops.toList.length) σ fun σ' => Q (keep (lv.lookup id) σ')
    | true => match lv.lookup (9400000 + id) with
     | some _ => ∃ (t : PT) (τ : St), Qahm ops true t (Array.replicate ops.size false) ops.size = true ∧ allT P tb N ops.toList (fun σ' => keep (lv.lookup id) σ' = τ) true t σ ∧ Q τ
     | none => match lv.lookup (9800000 + id) with
     | some [j] => Q64 ops.toList j = true ∧ Qaa3 ((lv.lookup (5000000 + id)).getD []) ops.toList j = true ∧ (lv.lookup (7000000 + id)).isSome = true ∧ dOps (Qaf2 (lv.lookup (8000000 + id)) σ.s.heap.length) ((lv.lookup (5000000 + id)).getD []) P tb N ops.toList (List.range j) σ fun σ' =>
        xOps ((lv.lookup (9000000 + id)).getD []) P tb N ops.toList (List.range' j (ops.toList.length - j)) (keep (lv.lookup (7000000 + id)) σ') fun σ2 => Q (keep (lv.lookup id) σ2)
     | _ => match lv.lookup (6000000 + id) with
      | some [j] => Qajv ops.toList j = true ∧ Qaa3 ((lv.lookup (5000000 + id)).getD []) ops.toList j = true ∧ (lv.lookup (7000000 + id)).isSome = true ∧ dOps σ.s.heap.length ((lv.lookup (5000000 + id)).getD []) P tb N ops.toList (List.range j) σ fun σ' =>
        ∃ σ2, Apv tb ops.toList j N (keep (lv.lookup (7000000 + id)) σ') σ2 ∧ Q (keep (lv.lookup id) σ2)
      | some [p, _] => Qaa5 p (p + 1) ((lv.lookup (5000000 + id)).getD []) ops.toList = true ∧ Qajy p ops.toList = true ∧ p + 1 < ops.toList.length ∧ (lv.lookup id).isSome = true ∧
        dOps σ.s.heap.length ((lv.lookup (5000000 + id)).getD []) P tb N ops.toList (List.range p) σ (both σ.s.heap.length ((lv.lookup (5000000 + id)).getD []) P tb N ops.toList p fun σ' => Q (keep (lv.lookup id) σ'))
      | _ => Qaf0 ((lv.lookup (5000000 + id)).getD []) ops.toList = true ∧ (lv.lookup id).isSome = true ∧ dOps (Qaf2 (lv.lookup (8000000 + id)) σ.s.heap.length) ((lv.lookup (5000000 + id)).getD []) P tb N ops.toList (List.range ops.toList.length) σ fun σ' => Q (keep (lv.lookup id) σ')
def panE(o:Option (List Nat))(σ : St):St:=match o with
 | none=>⟨[],σ.s⟩
 | some l=>keep (some l) σ
theorem Qaf3{N:Nat}{G:Gh}{σ : St}{a:Act}{w:World}(h:Rel N G σ a w)(o:Option (List Nat)):Rel N G (panE o σ) a w:=by
 unfold panE;split
 ·exact⟨h.inv,fun t d hd=>by simp at hd,h.size⟩
 ·exact Qgy h _
def rwpP(P:Program)(tb:Tbl)(N:Nat)(lv:List (Nat×List Nat))(pk:List Nat)(id:Nat)(ops:Array Oper)(dr:Bool)(Q:Exit→St→Prop)(σ : St):Prop:=Qame σ fun σ => match dr with
 | false=>pOps pk ((lv.lookup (9000000+id)).getD []) P tb N ops.toList (fun z τ => Q (.panic (Qml z)) (panE (lv.lookup (9700000+id)) τ)) (List.range ops.toList.length) σ fun σ' => Q .normal (keep (lv.lookup id) σ')
 | true=>rwp P tb N lv id ops true (Q .normal) σ ∨ ∃ t:PT,Qaqv ops t=true∧panT P tb N ops.toList (fun z τ => Q (.panic (Qml z)) (panE (lv.lookup (9700000+id)) τ)) t σ
def bwp(B:Nat×Nat)(P:Program)(tb:Tbl)(N:Nat)(lv:List (Nat×List Nat)):Code→(Exit→St→Prop)→St→Prop
 | .skip,Q,σ => Q .normal σ
 | .label _,Q,σ => Q .normal σ
 | .region id ops dr,Q,σ => match lv.lookup (9600000+id) with
  | none=>match lv.lookup (9500000+id) with
   | none=>rwp P tb N lv id ops dr (Q .normal) σ
   | some _=>∃ τ,Le B N σ τ ∧ rwp P tb N lv id ops dr (Q .normal) τ
  | some pk=>∃ τ,Le B N σ τ ∧ rwpP P tb N lv pk id ops dr Q τ
 | .seq x y,Q,σ => match lv.lookup (skey x) with
  | none=>bwp B P tb N lv x (fun e σ' => match e with | .normal=>bwp B P tb N lv y Q σ' | e=>Q e σ') σ
  | some _=>∃ M:Exit→St→Prop,bwp B P tb N lv x M σ ∧ ∀ e σ', M e σ' → ∃ τ,Le B N σ' τ ∧ (match e with | .normal=>bwp B P tb N lv y Q τ | e=>Q e τ)
 | .cond c x y,Q,σ => match ev σ.env c with
  | some (.p (.v (.bool b)))=>(b=true→bwp B P tb N lv x Q σ)∧(b=false→bwp B P tb N lv y Q σ)
  | _=>False
 | .block id b,Q,σ => bwp B P tb N lv b (fun e σ' => match e with | .exit i=>if i=id then Q .normal σ' else Q (.exit i) σ' | e=>Q e σ') σ
 | .exit id,Q,σ => Q (.exit id) σ
 | .ret,Q,σ => Q .ret σ
 | .goto l,Q,σ => Q (.goto l) σ
 | .scope b,Q,σ => ∃ M:Exit→St→Prop,T B P N (.scope b) M σ ∧ ∀ e σ', M e σ' → ∃ τ,Le B N σ' τ ∧ Q e τ
 | .loop b,Q,σ => ∃ M:Exit→St→Prop,T B P N (.loop b) M (keep (lv.lookup (1000000+Qiv b)) σ)∧∀ e σ', M e σ' → ∃ τ,Le B N σ' τ ∧ Q e τ
 | .rangeFunc g ps x y,Q,σ => ∃ M:Exit→St→Prop,T B P N (.rangeFunc g ps x y) M (keep (lv.lookup (4000000+Qiv (.rangeFunc g ps x y))) σ)∧∀ e σ', M e σ' → ∃ τ,Le B N σ' τ ∧ Q e τ
 | _,_,_=>False
theorem T_up{B:Nat×Nat}{N:Nat}{c:Code}{M Q:Exit→St→Prop}{σ : St}(h:T B P N c M σ)(k:∀ e σ', M e σ' → ∃ τ,Le B N σ' τ ∧ Q e τ):T B P N c Q σ := ⟨fun rd lo G a w hR hF =>
 wpIn_mono (h.out rd lo G a w hR hF) fun e a' w' ⟨G', σ', hE,hR', hF', hq⟩=>by
  obtain⟨τ,hl,hq⟩:=k e σ' hq;obtain⟨G2,e2,r2⟩:=hl.out G' a' w' hR';exact⟨G2,τ,hE.trans e2,r2,hF'.ext e2.ext rfl,hq⟩⟩
theorem Qaqw{B:Nat×Nat}{N:Nat}{x y:Code}{M Q:Exit→St→Prop}{σ : St}(h:T B P N x M σ)(k:∀ e σ', M e σ' → match e with | .normal=>T B P N y Q σ' | e=>Q e σ'):T B P N (.seq x y) Q σ := ⟨fun rd lo G a w hR hF=>by
 refine wpIn_seq (wpIn_mono (h.out rd lo G a w hR hF) fun e a' w' ⟨G', σ', hE,hR', hF', hq⟩=>?_);have hq:=k e σ' hq;cases e with
 | normal=>exact wpIn_mono (hq.out rd lo G' a' w' hR' hF') fun e a'' w'' ⟨G'', σ'', hE', hR'', hF'', hq'⟩=>⟨G'', σ'', hE.trans hE', hR'', hF'', hq'⟩
 | exit id=>exact⟨G', σ', hE,hR', hF', hq⟩
 | goto l=>exact⟨G', σ', hE,hR', hF', hq⟩
 | ret=>exact⟨G', σ', hE,hR', hF', hq⟩
 | panic ch=>exact⟨G', σ', hE,hR', hF', hq⟩
 | outgrown=>exact⟨G', σ', hE,hR', hF', hq⟩⟩
theorem Q03(hm:P.follows .mixedOrders=true)(hT:TblOk P tb){B:Nat×Nat}{N:Nat}{lv:List (Nat×List Nat)}{id:Nat}{ops:Array Oper}{dr:Bool}{Q:Exit→St→Prop}{σ : St}(h:rwp P tb N lv id ops dr (Q .normal) σ):T B P N (.region id ops dr) Q σ :=.mk fun rd lo G a w hR hF=>by
 unfold rwp at h;rw[Q6o] at h;have hops:ops.toList.toArray=ops:=by simp
 cases dr with
 | false =>
  refine wpIn_region ?_;simp only at h;split at h
  ·have:=Qtg hT (rd:=rd) (ops:=ops.toList) (Q:=fun e a' w' => ∃ G' σ', Ex B G w G' w' ∧ Rel N G' σ' a' w' ∧ Fr rd lo G' a' w' ∧ Q e σ') (G0:=G) (w0:=w) (ds:=a.defers) (fun a' w' G' σ' hE hR' hd hK=>⟨G', _,hE,Qgy hR' _,hF.ext hE.ext hd,hK⟩) _ σ a w G (.refl B G w) hR rfl h;rw[hops] at this;simpa using this
  ·have:=Qtj hT (rd:=rd) (ops:=ops.toList) (Q:=fun e a' w' => ∃ G' σ', Ex B G w G' w' ∧ Rel N G' σ' a' w' ∧ Fr rd lo G' a' w' ∧ Q e σ') (G0:=G) (w0:=w) (ds:=a.defers) (fun a' w' G' σ' hE hR' hd hK=>⟨G', _,hE,Qgy hR' _,hF.ext hE.ext hd,hK⟩) _ σ a w G (.refl B G w) hR rfl h;rw[hops] at this;simpa using this
 | true =>
  simp only at h;split at h
  ·obtain⟨t,τ,h1,h2,h3⟩:=h;refine wpIn_region_any hm ?_;have hd:Stp G w G { w with drawn:=w.drawn+1 }:=Stp.drewN G w _;have:=(Qahn hT (rd:=rd) (N:=N) (ops:=ops.toList) (Q:=fun e a' w' => ∃ G' σ', Ex B G w G' w' ∧ Rel N G' σ' a' w' ∧ Fr rd lo G' a' w' ∧ Q e σ') (leaf:=fun σ' => keep (lv.lookup id) σ' = τ) (B:=B) (G0:=G) (w0:=w) (ds:=a.defers)
    (fun a' w' G' σ' hE hR' hd hK=>⟨G', _,hE,Qgy hR' (lv.lookup id),hF.ext hE.ext hd,by rw[hK]; exact h3⟩) t true ops.size (Array.replicate ops.size false) σ a { w with drawn:=w.drawn+1 } G (by rw[hops]; exact h1) (hd.ex B) ⟨hR.inv.drewN _,hR.env.mono hd,hR.size⟩ rfl h2).1 rfl
   rw[hops] at this;exact this
  split at h
  ·rename_i j hj;obtain⟨h1,h2,h3,h4⟩:=h;obtain⟨hjl,hsp⟩:=Qyc h1;obtain⟨l,hl⟩:=Option.isSome_iff_exists.1 h3;refine wpIn_region_any hm ?_;have hsz:ops.size=ops.toList.length:=by simp
   have hall:((List.range j).filter fun i => !(Array.replicate ops.size false).getD i true)=List.range j:=by
    rw[List.filter_eq_self];intro i hi;have:i<ops.size:=by have:=List.mem_range.1 hi; omega
    simp[Array.getD_eq_getD_getElem?,this]
   have hd:Stp G w G { w with drawn:=w.drawn+1 }:=Stp.drewN G w _;have:=Qxr hT (rd:=rd) (ops:=ops.toList) (j:=j) (k:=ops.toList.length-j) hjl h2 (fun i o hi ho x hx=>(hsp i o hi ho).2.1 x hx) (ds:=a.defers) (Q:=fun e a' w' => ∃ G' σ', Ex B G w G' w' ∧ Rel N G' σ' a' w' ∧ Fr rd lo G' a' w' ∧ Q e σ')
    (K:=fun σ' => xOps ((lv.lookup (9000000+id)).getD []) P tb N ops.toList (List.range' j (ops.toList.length-j)) (keep (lv.lookup (7000000+id)) σ') fun σ2=>Q .normal (keep (lv.lookup id) σ2)) (fun σ τ he hq=>by
     have e:keep (lv.lookup (7000000+id)) σ = keep (lv.lookup (7000000+id)) τ := by
      rw[hl];simp only[keep,he.2,Qmo l he.1]
     show xOps _ P tb N ops.toList _ (keep (lv.lookup (7000000+id)) τ) _;rw[← e]; exact hq) (G0:=G) (w0:=w) (fun a' w' G' σ' L l1 l2 l3 hE hR' hd hK=>Qaho hT h1 (Q:=fun e a' w' => ∃ G' σ', Ex B G w G' w' ∧ Rel N G' σ' a' w' ∧ Fr rd lo G' a' w' ∧ Q e σ') (fun a2 w2 G2 σ2 e2 r2 d2 k2=>⟨G2,_,e2,Qgy r2 _,hF.ext e2.ext d2,k2⟩)
     (ops.toList.length-j) j (Nat.le_refl _) (by omega) L _ a' w' G' l1 l2 l3 hE (Qgy hR' _) hd hK)
    j (Array.replicate ops.size false) σ a { w with drawn:=w.drawn+1 } G (by simp) (fun i o ho hi=>by
     have hlt:i<ops.size:=by rw[hsz]; exact(List.getElem?_eq_some_iff.1 ho).1
     simp[Array.getD_eq_getD_getElem?,hlt] at hi) (fun i _ hi=>by
     have hlt:i<ops.size:=by simpa using hi
     simp[Array.getD_eq_getD_getElem?,hlt]) (by rw[hall]; simp) (hd.ex B) ⟨hR.inv.drewN _,hR.env.mono hd,hR.size⟩ rfl (Qaa8 _ _) (by rw[hall]; exact h4)
   rw[hops] at this;have hjz:j+(ops.toList.length-j)=ops.size:=by omega
   rw[hjz] at this;exact this
  split at h
  ·rename_i j hj;obtain⟨h1,h2,h3,h4⟩:=h;have ht:=Qad1 h1;obtain⟨l,hl⟩:=Option.isSome_iff_exists.1 h3;refine wpIn_region_any hm ?_;have hsz:ops.size=j+6:=by have:=ht.len; simpa using this
   have hall:((List.range j).filter fun i => !(Array.replicate ops.size false).getD i true)=List.range j:=by
    rw[List.filter_eq_self];intro i hi;have:i<ops.size:=by have:=List.mem_range.1 hi; omega
    simp[Array.getD_eq_getD_getElem?,this]
   have hd:Stp G w G { w with drawn:=w.drawn+1 }:=Stp.drewN G w _;have:=Qxr hT (rd:=rd) (ops:=ops.toList) (j:=j) (k:=6) (by rw[ht.len]; omega) h2 (fun i o hi ho x hx=>by
     have hi6:i<j+6:=by have:=(List.getElem?_eq_some_iff.1 ho).1; rw[ht.len] at this; exact this
     have:=ht.pre (i-j) (by omega) x hx;rw[show j+(i-j)=i by omega] at this;obtain⟨e,he,hb,hon⟩:=(Qwa ho).1 this;exact hon ▸ Reach.one ho he hb) (ds:=a.defers) (Q:=fun e a' w' => ∃ G' σ', Ex B G w G' w' ∧ Rel N G' σ' a' w' ∧ Fr rd lo G' a' w' ∧ Q e σ') (K:=fun σ' => ∃ σ2,Apv tb ops.toList j N (keep (lv.lookup (7000000+id)) σ') σ2∧Q .normal (keep (lv.lookup id) σ2)) (fun σ τ he hq=>by
     have e:keep (lv.lookup (7000000+id)) σ = keep (lv.lookup (7000000+id)) τ := by
      rw[hl];simp only[keep,he.2,Qmo l he.1]
     show ∃ σ2,Apv tb ops.toList j N (keep (lv.lookup (7000000+id)) τ) σ2∧Q .normal (keep (lv.lookup id) σ2);rw[← e]; exact hq) (G0:=G) (w0:=w) (fun a' w' G' σ' L l1 l2 l3 hE hR' hd ⟨σ2,hA,hK⟩=>Qajx hT ht hA (Qgy hR' _) (fun a2 w2 G2 e2 r2 d2=>⟨G2,_,hE.trans (e2.ex B),Qgy r2 _,hF.ext (hE.trans (e2.ex B)).ext (d2.trans hd),hK⟩) L l1 l2 l3)
    j (Array.replicate ops.size false) σ a { w with drawn:=w.drawn+1 } G (by simp) (fun i o ho hi=>by
     have hlt:i<ops.size:=by have:=(List.getElem?_eq_some_iff.1 ho).1; simpa using this
     simp[Array.getD_eq_getD_getElem?,hlt] at hi) (fun i _ hi=>by
     have hlt:i<ops.size:=by simpa using hi
     simp[Array.getD_eq_getD_getElem?,hlt]) (by rw[hall]; simp) (hd.ex B) ⟨hR.inv.drewN _,hR.env.mono hd,hR.size⟩ rfl (Nat.le_refl _) (by rw[hall]; exact h4)
   rw[hops,← hsz] at this;exact this
  ·rename_i p _ hj;obtain⟨h1,h2,h3,h4,h5⟩:=h;obtain⟨l,hl⟩:=Option.isSome_iff_exists.1 h4;refine wpIn_region_any hm ?_;have hsz:ops.size=ops.toList.length:=by simp
   have hall:((List.range p).filter fun i => !(Array.replicate ops.size false).getD i true)=List.range p:=by
    rw[List.filter_eq_self];intro i hi;have:i<ops.size:=by have:=List.mem_range.1 hi; omega
    simp[Array.getD_eq_getD_getElem?,this]
   have hd:Stp G w G { w with drawn:=w.drawn+1 }:=Stp.drewN G w _;have:=Q5q hT (rd:=rd) (ops:=ops.toList) h1 h3 (Qad3 h2) (ds:=a.defers) (Q:=fun e a' w' => ∃ G' σ', Ex B G w G' w' ∧ Rel N G' σ' a' w' ∧ Fr rd lo G' a' w' ∧ Q e σ') (K:=fun σ' => Q .normal (keep (lv.lookup id) σ')) (fun σ τ he hq=>by
     have e:keep (lv.lookup id) σ = keep (lv.lookup id) τ := by
      rw[hl];simp only[keep,he.2,Qmo l he.1]
     show Q .normal (keep (lv.lookup id) τ);rw[← e]; exact hq) (G0:=G) (w0:=w) (fun a' w' G' σ' hE hR' hd hK=>⟨G', _,hE,Qgy hR' _,hF.ext hE.ext hd,hK⟩)
    ops.size (Array.replicate ops.size false) σ a { w with drawn:=w.drawn+1 } G (by simp) (fun i o ho hi=>by
     have hlt:i<ops.size:=by rw[hsz]; exact(List.getElem?_eq_some_iff.1 ho).1
     simp[Array.getD_eq_getD_getElem?,hlt] at hi) (fun i _ hi=>by
     have hlt:i<ops.size:=by simpa using hi
     simp[Array.getD_eq_getD_getElem?,hlt]) (by rw[hall]; simp at h3 ⊢; omega) (hd.ex B) ⟨hR.inv.drewN _,hR.env.mono hd,hR.size⟩ rfl (Nat.le_refl _) (by rw[hall]; exact h5)
   rw[hops] at this;exact this
  ·obtain⟨h1,h2,h3⟩:=h;obtain⟨l,hl⟩:=Option.isSome_iff_exists.1 h2;refine wpIn_region_any hm ?_;have hsz:ops.size=ops.toList.length:=by simp
   have hall:((List.range ops.toList.length).filter fun i => !(Array.replicate ops.size false).getD i true)=List.range ops.toList.length:=by
    rw[List.filter_eq_self];intro i hi;have:i<ops.size:=by simpa using hi
    simp[Array.getD_eq_getD_getElem?,this]
   have hd:Stp G w G { w with drawn:=w.drawn+1 }:=Stp.drewN G w _;have:=Qaa2 hT (rd:=rd) (ops:=ops.toList) h1 (ds:=a.defers) (Q:=fun e a' w' => ∃ G' σ', Ex B G w G' w' ∧ Rel N G' σ' a' w' ∧ Fr rd lo G' a' w' ∧ Q e σ') (K:=fun σ' => Q .normal (keep (lv.lookup id) σ')) (fun σ τ he hq=>by
     have e:keep (lv.lookup id) σ = keep (lv.lookup id) τ := by
      rw[hl];simp only[keep,he.2,Qmo l he.1]
     show Q .normal (keep (lv.lookup id) τ);rw[← e]; exact hq) (G0:=G) (w0:=w) (fun a' w' G' σ' hE hR' hd hK=>⟨G', _,hE,Qgy hR' _,hF.ext hE.ext hd,hK⟩)
    ops.size (Array.replicate ops.size false) σ a { w with drawn:=w.drawn+1 } G (by simp) (fun i o ho hi=>by
     have hlt:i<ops.size:=by rw[hsz]; exact(List.getElem?_eq_some_iff.1 ho).1
     simp[Array.getD_eq_getD_getElem?,hlt] at hi) (by rw[hall]; simp) (hd.ex B) ⟨hR.inv.drewN _,hR.env.mono hd,hR.size⟩ rfl (Qaa8 _ _) (by rw[hall]; exact h3)
   rw[hops] at this;exact this
theorem Qahp(hm:P.follows .mixedOrders=true)(hT:TblOk P tb){B:Nat×Nat}{N:Nat}{lv:List (Nat×List Nat)}{pk:List Nat}{id:Nat}{ops:Array Oper}{dr:Bool}{Q:Exit→St→Prop}{σ : St}(h:rwpP P tb N lv pk id ops dr Q σ):T B P N (.region id ops dr) Q σ :=.mk fun rd lo G a w hR hF=>by
 unfold rwpP at h;rw[Q6o] at h;have hops:ops.toList.toArray=ops:=by simp
 cases dr with
 | true =>
  rcases h with h | ⟨t,h1,h2⟩
  ·exact(Q03 (Q:=Q) hm hT h).out rd lo G a w hR hF
  ·refine wpIn_region_any hm ?_;have hd:Stp G w G { w with drawn:=w.drawn+1 }:=Stp.drewN G w _;unfold Qaqv at h1;split at h1
   ·cases h1
   ·rename_i k hk;rw[Bool.and_eq_true] at h1;rw[hk] at h1 ⊢;refine Q63 h1.1 ?_;have:=Qahl hT (rd:=rd) (N:=N) (ops:=ops.toList) (Q:=fun e a' w' => ∃ G' σ', Ex B G w G' w' ∧ Rel N G' σ' a' w' ∧ Fr rd lo G' a' w' ∧ Q e σ') (KP:=fun z τ => Q (.panic (Qml z)) (panE (lv.lookup (9700000+id)) τ)) (B:=B) (G0:=G) (w0:=w) (ds:=a.defers)
     (fun _ a' w' G' σ' hE hR' hd hK=>⟨G', _,hE,Qaf3 hR' _,hF.ext hE.ext hd,hK⟩) t k _ σ a { w with drawn:=w.drawn+1 } G (by rw[hops]; exact h1.2) (hd.ex B) ⟨hR.inv.drewN _,hR.env.mono hd,hR.size⟩ rfl h2
    rw[hops] at this;exact this
 | false =>
  refine wpIn_region ?_;have:=Qtk hT (rd:=rd) (ops:=ops.toList) (Q:=fun e a' w' => ∃ G' σ', Ex B G w G' w' ∧ Rel N G' σ' a' w' ∧ Fr rd lo G' a' w' ∧ Q e σ') (G0:=G) (w0:=w) (ds:=a.defers) (fun a' w' G' σ' hE hR' hd hK=>⟨G', _,hE,Qgy hR' _,hF.ext hE.ext hd,hK⟩)
   (fun _ a' w' G' σ' hE hR' hd hK=>⟨G', _,hE,Qaf3 hR' _,hF.ext hE.ext hd,hK⟩) _ σ a w G (.refl B G w) hR rfl h
  rw[hops] at this;simpa using this
theorem Qao(hm:P.follows .mixedOrders=true)(hT:TblOk P tb){B:Nat×Nat}{N:Nat}{lv:List (Nat×List Nat)}:∀ (c:Code) (Q:Exit→St→Prop) (σ : St),bwp B P tb N lv c Q σ → T B P N c Q σ
 | .skip,Q,σ,h=>⟨fun rd lo G a w hR hF=>wpIn_skip ⟨G,σ,.refl B G w,hR,hF,h⟩⟩
 | .label l,Q,σ,h=>⟨fun rd lo G a w hR hF=>wpIn_label ⟨G,σ,.refl B G w,hR,hF,h⟩⟩
 | .exit id,Q,σ,h=>⟨fun rd lo G a w hR hF=>wpIn_exit ⟨G,σ,.refl B G w,hR,hF,h⟩⟩
 | .ret,Q,σ,h=>⟨fun rd lo G a w hR hF=>wpIn_ret ⟨G,σ,.refl B G w,hR,hF,h⟩⟩
 | .goto l,Q,σ,h=>⟨fun rd lo G a w hR hF=>wpIn_goto ⟨G,σ,.refl B G w,hR,hF,h⟩⟩
 | .scope b,Q,σ,h=>by
  obtain⟨M,h1,h2⟩:=h;exact T_up h1 h2
 | .region id ops dr,Q,σ,h=>by
  unfold bwp at h;split at h
  ·split at h
   ·exact Q03 hm hT h
   ·obtain⟨τ,hl,h⟩:=h;exact Qhe hl (Q03 hm hT h)
  ·obtain⟨τ,hl,h⟩:=h;exact Qhe hl (Qahp hm hT h)
 | .seq x y,Q,σ,h=>by
  unfold bwp at h;split at h
  ·refine Qaqw (Qao hm hT x _ σ h) fun e σ' hq=>?_
   cases e with
   | normal=>exact Qao hm hT y Q σ' hq
   | _=>exact hq
  ·obtain⟨M,h1,h2⟩:=h;refine Qaqw (T_up (Q:=fun e τ => match e with | .normal=>bwp B P tb N lv y Q τ | e=>Q e τ) (Qao hm hT x M σ h1) h2) fun e σ' hq=>?_
   cases e with
   | normal=>exact Qao hm hT y Q σ' hq
   | _=>exact hq
 | .cond c x y,Q,σ,h =>.mk fun rd lo G a w hR hF=>by
  unfold bwp at h;split at h
  ·rename_i b hb;have hc:=Quj hR.env c _ hb;have hv:a.eval c = .bool b:=by
    generalize a.eval c=q at hc;cases hc with | p _ _ hc=>cases hc; rfl
   exact wpIn_cond_split hv (fun hb=>(Qao hm hT x Q σ (h.1 hb)).out rd lo G a w hR hF) (fun hb=>(Qao hm hT y Q σ (h.2 hb)).out rd lo G a w hR hF)
  ·exact h.elim
 | .block id b,Q,σ,h =>.mk fun rd lo G a w hR hF=>by
  refine wpIn_block (wpIn_mono ((Qao hm hT b _ σ h).out rd lo G a w hR hF) fun e a' w' ⟨G', σ', hE,hR', hF', hq⟩=>?_);cases e with
  | normal=>exact⟨G', σ', hE,hR', hF', hq⟩
  | exit i =>
   have hq:if i=id then Q .normal σ' else Q (.exit i) σ' := hq
   show if i=id then _ else _
   split
   ·rename_i hi; rw[if_pos hi] at hq; exact⟨G', σ', hE,hR', hF', hq⟩
   ·rename_i hi; rw[if_neg hi] at hq; exact⟨G', σ', hE,hR', hF', hq⟩
  | goto l=>exact⟨G', σ', hE,hR', hF', hq⟩
  | ret=>exact⟨G', σ', hE,hR', hF', hq⟩
  | panic ch=>exact⟨G', σ', hE,hR', hF', hq⟩
  | outgrown=>exact⟨G', σ', hE,hR', hF', hq⟩
 | .loop b,Q,σ,h=>by
  obtain⟨M,h1,h2⟩:=h;exact Qany _ (T_up h1 h2)
 | .rangeFunc g ps x y,Q,σ,h=>by
  obtain⟨M,h1,h2⟩:=h;exact Qany _ (T_up h1 h2)
 | .refuse _,_,_,h=>h.elim
structure TL (B:Nat×Nat) (P:Program) (N:Nat) (c:Code) (Q:Exit→St→Prop) (σ : St):Prop where
 out:∀ rd lo G a w,Rel N G σ a w→Fr rd lo G a w→∀ (b:Frame) (k:List Item) (cs:List Frame),b.roundOf=rd→∃ e a' w', (∃ G' σ', Ex B G w G' w' ∧ Rel N G' σ' a' w' ∧ Fr rd lo G' a' w' ∧ Q e σ') ∧
  ArrivesIn (Machine.fenced P (FW rd)) P (lone (b.atR a (.code c :: .inLoop c::k)) cs w) b k cs e a' w'
theorem TL.loop{B:Nat×Nat}{N:Nat}{c:Code}{Q:Exit→St→Prop}{σ : St}(h:TL B P N c Q σ):T B P N (.loop c) Q σ := ⟨fun rd lo G a w hR hF b k cs hro hb hr=>by
 obtain⟨e,a', w', hq,harr⟩:=h.out rd lo G a w hR hF b k cs (hro.trans (Q6j rd));exact⟨e,a', w', hq,.of_steps (.one (fenced_calm hb hr rfl) stepR_loop) harr⟩⟩
theorem TL.le{B:Nat×Nat}{N:Nat}{c:Code}{Q:Exit→St→Prop}{σ τ : St}(h:Le B N σ τ)(k:TL B P N c Q τ):TL B P N c Q σ := ⟨fun rd lo G a w hR hF b ks cs hro=>by
 obtain⟨G1,e1,r1⟩:=h.out G a w hR;obtain⟨e,a', w', ⟨G', σ', hE,hR', hF', hq⟩,harr⟩:=k.out rd lo G1 a w r1 (hF.ext e1.ext rfl) b ks cs hro;exact⟨e,a', w', ⟨G', σ', e1.trans hE,hR', hF', hq⟩,harr⟩⟩
theorem TL.round{B:Nat×Nat}{N:Nat}{c:Code}{Q:Exit→St→Prop}{σ : St}(h:T B P N c (fun e σ' => match e with | .normal=>TL B P N c Q σ' | e=>Q e σ') σ):TL B P N c Q σ := ⟨fun rd lo G a w hR hF b k cs hro=>by
 obtain⟨e,a₁,w₁,⟨G₁,σ₁,hE₁,hR₁,hF₁,hq⟩,harr⟩:=h.out rd lo G a w hR hF b (.inLoop c::k) cs (hro.trans (Q6j rd).symm) (Qaaf _ _) (Qai7 _ _);cases e with
 | normal =>
  obtain⟨e₂,a₂,w₂,⟨G₂,σ₂,hE₂,hR₂,hF₂,hq₂⟩,harr₂⟩:=hq.out rd lo G₁ a₁ w₁ hR₁ hF₁ b k cs hro;exact⟨e₂,a₂,w₂,⟨G₂,σ₂,hE₁.trans hE₂,hR₂,hF₂,hq₂⟩,.of_steps (StepsIn.trans harr (.one (fenced_calm (n:=0) (Qaaf _ _) (Qai7 _ _) rfl) stepR_inLoop)) harr₂⟩
 | exit id=>exact⟨_,a₁,w₁,⟨G₁,σ₁,hE₁,hR₁,hF₁,hq⟩,.pass (x :=.inLoop c) rfl (fun _ _ =>.inl (by simp)) harr⟩
 | goto l=>exact⟨_,a₁,w₁,⟨G₁,σ₁,hE₁,hR₁,hF₁,hq⟩,.pass (x :=.inLoop c) rfl (fun _ _ =>.inl (by simp)) harr⟩
 | ret=>exact⟨_,a₁,w₁,⟨G₁,σ₁,hE₁,hR₁,hF₁,hq⟩,.pass (x :=.inLoop c) rfl (fun _ _ =>.inl (by simp)) harr⟩
 | panic ch=>exact⟨_,a₁,w₁,⟨G₁,σ₁,hE₁,hR₁,hF₁,hq⟩,.pass (x :=.inLoop c) rfl (fun _ _ =>.inl (by simp)) harr⟩
 | outgrown=>exact⟨_,a₁,w₁,⟨G₁,σ₁,hE₁,hR₁,hF₁,hq⟩,.pass (x :=.inLoop c) rfl (fun _ _ =>.inl (by simp)) harr⟩⟩
inductive LeE (env:Env):Env→Prop where
 | nil:LeE env []
 | cons {t:Nat} {d d' : D} {r:Env}:env.lookup t=some d→LeD d d' → LeE env r→LeE env ((t,d')::r)
inductive LeC:List D→List D→Prop where
 | nil:LeC [] []
 | cons {d d' : D} {r r' : List D}:LeD d d' → LeC r r' → LeC (d::r) (d' :: r')
inductive LeH:List (List D)→List (List D)→Prop where
 | nil:LeH [] []
 | cons {d d' : List D} {r r' : List (List D)}:LeC d d' → LeH r r' → LeH (d::r) (d' :: r')
theorem LeC.refl:∀ l,LeC l l
 | [] =>.nil
 | d::r =>.cons (.refl d) (LeC.refl r)
theorem LeH.refl:∀ l,LeH l l
 | [] =>.nil
 | d::r =>.cons (.refl d) (LeH.refl r)
theorem LeH.app{a a' b b' : List (List D)}(h:LeH a a')(k:LeH b b'):LeH (a++b) (a' ++ b'):=by
 induction h with
 | nil=>exact k
 | cons h1 _ ih=>exact .cons h1 ih
theorem LeE.look{env env' : Env}(h:LeE env env'):∀ {t:Nat} {d' : D},env'.lookup t=some d' → ∃ d,env.lookup t=some d∧LeD d d' := by
 induction h with
 | nil=>intro t d' h; cases h
 | @cons t0 d d0 r hl hd _ ih =>
  intro t d' h;rw[List.lookup_cons] at h;by_cases ht:t=t0
  ·subst ht;simp only[beq_self_eq_true,Option.some.injEq] at h;subst h;exact⟨d,hl,hd⟩
  ·have hb:(t==t0)=false:=by simpa using ht
   rw[hb] at h;exact ih h
theorem LeC.get{l l' : List D}(h:LeC l l'):l.length=l'.length∧∀ (j:Nat) d', l'[j]? = some d' → ∃ d,l[j]? = some d∧LeD d d' := by
 induction h with
 | nil=>exact⟨rfl,fun j d' h=>by simp at h⟩
 | @cons d d0 r r' hd _ ih =>
  refine⟨by simp[ih.1],fun j d' hj=>?_⟩;cases j with
  | zero=>simp at hj; subst hj; exact⟨d,rfl,hd⟩
  | succ j=>exact ih.2 j d' (by simpa using hj)
theorem LeH.get{l l' : List (List D)}(h:LeH l l'):l.length=l'.length∧∀ (j:Nat) d', l'[j]? = some d' → ∃ d,l[j]? = some d∧LeC d d' := by
 induction h with
 | nil=>exact⟨rfl,fun j d' h=>by simp at h⟩
 | @cons d d0 r r' hd _ ih =>
  refine⟨by simp[ih.1],fun j d' hj=>?_⟩;cases j with
  | zero=>simp at hj; subst hj; exact⟨d,rfl,hd⟩
  | succ j=>exact ih.2 j d' (by simpa using hj)
theorem MapRows.le{C:Nat→Nat→Prop}{w:World}{ms ms' : List (List V)}{es:Array MapEntry}(h:MapRows C w ms es)(hl:ms.length=ms'.length)(hk:∀ (i:Nat) e e', ms[i]? = some e→ms'[i]? = some e' → e.length=e'.length)
  (hv:∀ (i:Nat) e e', ms[i]? = some e→ms'[i]? = some e' → ∀ (k:Nat) c c', e[k]? = some c→e'[k]? = some c' → LeV c c'):MapRows C w ms' es:=by
 refine⟨by rw[← hl]; exact h.1,fun i m' e hm' he=>?_⟩;obtain⟨m,hm⟩:=Qhi hl hm';obtain⟨k,v,rfl,h1,h2⟩:=h.2 i m e hm he;have hlen:=hk i _ m' hm hm'
 match m', hlen,hm' with
 | [k', v'],_,hm' => exact⟨k', v', rfl,h1.le (hv i _ _ hm hm' 0 k k' rfl rfl),h2.le (hv i _ _ hm hm' 1 v v' rfl rfl)⟩
theorem VarAt.le{G:Gh}{w:World}{b:Nat}{cs cs' : List D}(h:VarAt G w b cs)(l1:cs'.length=cs.length)(l2:∀ (j:Nat) d', cs'[j]? = some d' → ∃ d,cs[j]? = some d∧LeD d d'):VarAt G w b cs' := by
 cases h with
 | cells us ty h1 h2 h3 =>
  refine .cells us ty h1 (by rw[h2]; exact l1.symm) fun j c' u hc' hu=>?_
  obtain⟨c,hc,hd⟩:=l2 j c' hc';obtain⟨g1,g2⟩:=h3 j c u hc hu;exact⟨g1,g2.le hd⟩
 | map fl ms es clock h1 h2 h3 =>
  subst h1
  match cs', l1,l2 with
  | [d'],_,l2 =>
   obtain⟨d,hd,hle⟩:=l2 0 d' rfl;have hd:D.tup [.p (.sl fl ms)]=d:=Option.some.inj hd;cases hle with
   | refl=>exact .map fl ms es clock (by rw[hd]) h2 h3
   | p=>cases hd
   | own=>cases hd
   | drop=>cases hd
   | @tup xs ys k =>
    injection hd with hd
    obtain⟨x,rfl,e⟩:=Qadk hd.symm;injection e with e
    subst e;obtain⟨k1,k2⟩:=k
    match ys,k1,k2 with
    | [y],_,k2 =>
     have hv:=k2 0 _ _ rfl rfl;cases hv with
     | refl=>exact .map fl ms es clock rfl h2 h3
     | sl _ f' _ ms' _ q1 q2 q3=>exact .map f' ms' es clock rfl h2 (h3.le q1 q2 q3)
theorem Inv.le{G:Gh}{h h' : List (List D)}{live:List Nat}{w:World}(hI:Inv G ⟨h,live⟩ w)(k:LeH h h'):Inv G ⟨h', live⟩ w:=by
 obtain⟨k1,k2⟩:=k.get;refine⟨hI.com,by rw[hI.names]; exact k1,hI.nodup,fun i b cs' hb hcs' => ?_,hI.live,hI.tok,hI.pro,hI.glob⟩;obtain⟨cs,hcs,hle⟩:=k2 i cs' hcs';obtain⟨l1,l2⟩:=hle.get;exact(hI.var i b cs hb hcs).le l1.symm l2
theorem Le.weak{B:Nat×Nat}{N:Nat}{env env' : Env}{h h' : List (List D)}{live live' : List Nat}(he:LeE env env')(hh:LeH h h')(hl:live=live'):Le B N ⟨env,⟨h,live⟩⟩ ⟨env', ⟨h', live'⟩⟩:=⟨fun G a w hR=>by
 subst hl;refine⟨G,.refl B G w,⟨hR.inv.le hh,fun t d' hd=>?_,hR.size⟩⟩;obtain⟨d,h1,h2⟩:=he.look hd;obtain⟨k1,k2⟩:=hR.env t d h1;exact⟨k1,k2.le h2⟩⟩
theorem Le.tow(k m:Nat){B:Nat×Nat}{N:Nat}{env env1 env' : Env}{s:S}{h' : List (List D)}{live' : List Nat}(h:Qadg k m env=some env1)(he:LeE env1 env')(hh:LeH (s.heap.take k) h')(hlv:s.live.take m=live')
  (h1:B.1≤k:=by exact Nat.le_of_ble_eq_true rfl) (h2:B.2≤m:=by exact Nat.le_of_ble_eq_true rfl)
  (hl:(s.heap.take k).all (fun cs=>cs.all (D.lt k m))=true:=by exact rfl):Le B N ⟨env,s⟩ ⟨env', ⟨h', live'⟩⟩ :=
 (Le.to k m (τ := ⟨env1,⟨s.heap.take k,s.live.take m⟩⟩) (by rw[h]; rfl) h1 h2 hl).trans (Le.weak he hh hlv)
def selE(env:Env):List Nat→Option Env
 | []=>some []
 | t::r=>match env.lookup t,selE env r with
  | some d,some l=>some ((t,d)::l)
  | _,_=>none
theorem Qaj0{env:Env}:∀ (l:List Nat) (env' : Env),selE env l=some env' → LeE env env'
 | [],env', h=>by cases h; exact .nil
 | t::r,env', h=>by
  unfold selE at h;split at h
  ·rename_i d l h1 h2;cases h;exact .cons h1 (.refl _) (Qaj0 r l h2)
  ·cases h
theorem Le.tz(k m:Nat){B:Nat×Nat}{N:Nat}{env env1 env' : Env}{s:S}{live' : List Nat}(h:Qadg k m env=some env1)(he:selE env1 (env'.map (·.1))=some env')(hlv:s.live.take m=live')
  (h1:B.1≤k:=by exact Nat.le_of_ble_eq_true rfl) (h2:B.2≤m:=by exact Nat.le_of_ble_eq_true rfl)
  (hl:(s.heap.take k).all (fun cs=>cs.all (D.lt k m))=true:=by exact rfl):Le B N ⟨env,s⟩ ⟨env', ⟨s.heap.take k,live'⟩⟩:=Le.tow k m h (Qaj0 _ _ he) (.refl _) hlv h1 h2 hl
theorem xle{B:Nat×Nat}{N:Nat}{σ : St}{K:St→Prop}(h:K σ):∃ τ,Le B N σ τ ∧ K τ := ⟨σ,.refl _ _ _,h⟩
section
variable {A C E:Type} {B:Nat×Nat} {N:Nat}
def JP1(B:Nat×Nat)(N:Nat)(o:A)(e1:Exit)(st1:A→St):Exit→St→Prop:=fun e σ => e=e1∧Le B N σ (st1 o)
def JP2(B:Nat×Nat)(N:Nat)(o:A⊕C)(e1:Exit)(st1:A→St)(e2:Exit)(st2:C→St):Exit→St→Prop:=fun e σ => (e=e1∧∃ y,o = .inl y∧Le B N σ (st1 y))∨(e=e2∧∃ y,o = .inr y∧Le B N σ (st2 y))
theorem JP1.a{o y:A}{e1:Exit}{st1:A→St}{σ : St}(h:some y=some o)(hl:Le B N σ (st1 y)):JP1 B N o e1 st1 e1 σ := by cases h; exact⟨rfl,hl⟩
theorem JP2.a{o:A⊕C}{y:A}{e1 e2:Exit}{st1:A→St}{st2:C→St}{σ : St}(h:some (.inl y)=some o)(hl:Le B N σ (st1 y)):JP2 B N o e1 st1 e2 st2 e1 σ := by cases h; exact .inl ⟨rfl,y,rfl,hl⟩
theorem JP2.b{o:A⊕C}{y:C}{e1 e2:Exit}{st1:A→St}{st2:C→St}{σ : St}(h:some (.inr y)=some o)(hl:Le B N σ (st2 y)):JP2 B N o e1 st1 e2 st2 e2 σ := by cases h; exact .inr ⟨rfl,y,rfl,hl⟩
theorem Qay{o:A}{e1:Exit}{st1:A→St}{G:Exit→St→Prop}(k:G e1 (st1 o)):∀ e σ,JP1 B N o e1 st1 e σ → ∃ τ,Le B N σ τ ∧ G e τ := fun e σ ⟨he,hl⟩=>he ▸ ⟨_,hl,k⟩
theorem Qf3{o:A⊕C}{e1 e2:Exit}{st1:A→St}{st2:C→St}{G:Exit→St→Prop}(k1:∀ y,o = .inl y→G e1 (st1 y))(k2:∀ y,o = .inr y→G e2 (st2 y)):∀ e σ,JP2 B N o e1 st1 e2 st2 e σ → ∃ τ,Le B N σ τ ∧ G e τ := fun e σ h=>by
 rcases h with ⟨he,y,ho,hl⟩ | ⟨he,y,ho,hl⟩
 ·exact he ▸ ⟨_,hl,k1 y ho⟩
 ·exact he ▸ ⟨_,hl,k2 y ho⟩
def JP2p(B:Nat×Nat)(N:Nat)(o:A⊕C)(e1:Exit)(st1:A→St)(e2:C→Exit)(st2:C→St):Exit→St→Prop:=fun e σ => (e=e1∧∃ y,o = .inl y∧Le B N σ (st1 y))∨(∃ y,e=e2 y∧o = .inr y∧Le B N σ (st2 y))
theorem JP2p.a{o:A⊕C}{y:A}{e1:Exit}{e2:C→Exit}{st1:A→St}{st2:C→St}{σ : St}(h:some (.inl y)=some o)(hl:Le B N σ (st1 y)):JP2p B N o e1 st1 e2 st2 e1 σ := by cases h; exact .inl ⟨rfl,y,rfl,hl⟩
theorem JP2p.b{o:A⊕C}{y:C}{e1:Exit}{e2:C→Exit}{st1:A→St}{st2:C→St}{σ : St}(h:some (.inr y)=some o)(hl:Le B N σ (st2 y)):JP2p B N o e1 st1 e2 st2 (e2 y) σ := by cases h; exact .inr ⟨y,rfl,rfl,hl⟩
theorem Qaqx{o:A⊕C}{e1:Exit}{e2:C→Exit}{st1:A→St}{st2:C→St}{G:Exit→St→Prop}(k1:∀ y,o = .inl y→G e1 (st1 y))(k2:∀ y,o = .inr y→G (e2 y) (st2 y)):∀ e σ,JP2p B N o e1 st1 e2 st2 e σ → ∃ τ,Le B N σ τ ∧ G e τ := fun e σ h=>by
 rcases h with ⟨he,y,ho,hl⟩ | ⟨y,he,ho,hl⟩
 ·exact he ▸ ⟨_,hl,k1 y ho⟩
 ·exact he ▸ ⟨_,hl,k2 y ho⟩
end
theorem bT{φ ψ : Prop}(h : φ):(true=true → φ)∧(true=false → ψ):=And.intro (fun _=>h) (fun e=>nomatch e)
theorem bF{φ ψ : Prop}(h : φ):(false=true → ψ)∧(false=false → φ):=And.intro (fun e=>nomatch e) (fun _=>h)
theorem Qxs{sz:Nat}:∀ x ∈ ([]:List (List V)),x.length=sz:=fun x hx=>nomatch hx
theorem Q04{α : Type}{c : α → List V}{l:List α}{sz:Nat}(h:∀ x,(c x).length=sz):∀ x ∈ l.map c,x.length=sz:=fun x hx=>by
 obtain⟨z,-,rfl⟩:=List.mem_map.1 hx; exact h z
section
variable {R:Type}
theorem Qad{b:Bool}{X Y:Option R}{r:R}{φ ψ : Prop}(h:(if b=true then X else Y)=some r)(k1:b=true→X=some r → φ)(k2:b=false→Y=some r → ψ):(b=true → φ)∧(b=false → ψ) :=
 ⟨fun e=>k1 e (by rw[e] at h; exact h),fun e=>k2 e (by rw[e] at h; exact h)⟩
theorem Qai{α : Type}{x:Option α}{f : α → Option R}{r:R}{φ : Prop}(h:(x>>=f)=some r)(k:∀ y,x=some y→f y=some r → φ) : φ := by
 obtain⟨y,hy,hf⟩:=Option.bind_eq_some_iff.1 h;exact k y hy hf
def idx{α : Type}(l:List α)(i:Int):Option α := if 0≤i then l[i.toNat]? else none
theorem Qa2{α : Type}{l:List α}{i:Int}{c c' : α → List V}{f : α → Option R}{r:R}{sz:Nat}{K:List V→Prop}(h:(idx l i>>=f)=some r)(hc:∀ x,c x=c' x)(hs:∀ x,(c' x).length=sz)(hz:0<sz)(k:∀ x,idx l i=some x→f x=some r→K (c' x)) :
  ∃ cell,0≤i∧(l.map c)[i.toNat]? = some cell∧cell.length=sz∧0<sz∧K cell:=by
 refine Qai h fun x hx hf=>?_
 have hk:=k x hx hf;unfold idx at hx;split at hx
 ·rename_i hi;exact⟨c' x,hi,by rw[List.getElem?_map,hx,Option.map_some,hc],hs x,hz,hk⟩
 ·cases hx
theorem Qda{l:List UInt8}{i:Int}{f:UInt8→Option R}{r:R}{K:UInt8→Prop}(h:(idx l i>>=f)=some r)(k:∀ x,idx l i=some x→f x=some r→K x):∃ c,0≤i∧l[i.toNat]? = some c∧K c:=by
 refine Qai h fun x hx hf=>?_
 have hk:=k x hx hf;unfold idx at hx;split at hx
 ·rename_i hi;exact⟨x,hi,hx,hk⟩
 ·cases hx
def need(p:Prop)[Decidable p]:Option Unit:=if p then some () else none
theorem Qrt{p:Prop}[Decidable p]{f:Unit→Option R}{r:R}{φ : Prop}(h:(need p>>=f)=some r)(k:f ()=some r → φ):p ∧ φ := by
 refine Qai h fun x hx hf=>?_
 unfold need at hx;split at hx
 ·exact⟨by assumption,k hf⟩
 ·cases hx
def cutL{α : Type}(l:List α)(lo hi:Int):Option (List α):=if 0≤lo∧lo≤hi∧hi≤l.length then some ((l.take hi.toNat).drop lo.toNat) else none
def appL{α : Type}(bytes:Nat)(a b:List α):Option (List α):=if(a.length+b.length)*bytes≤140737488355328∧a.length+b.length≤9223372036854775807 then some (a++b) else none
theorem view{d d' : D}{l live:List Nat}{K:D→List Nat→Prop}(h:LeD d d')(hl:live=l)(k:K d' live):∃ d' live,LeD d d' ∧ live=l∧K d' live:=⟨d', live,h,hl,k⟩
theorem vrfl{d:D}{l:List Nat}{K:D→List Nat→Prop}(k:K d l):∃ d' live,LeD d d' ∧ live=l∧K d' live:=⟨d,l,.refl d,rfl,k⟩
theorem Qat{α : Type}(l:List α)(c : α → List V):LeD (.p (.v (.int .i64 (l.map c).length))) (.p (.v (.int .i64 l.length))) :=.eq (by rw[List.length_map])
theorem Qaqy{α : Type}{l m:List α}{lo hi:Int}(c : α → List V)(h:cutL l lo hi=some m):Q6c (some lo) (some hi) (l.map c).length∧((l.map c).take hi.toNat).drop lo.toNat=m.map c:=by
 unfold cutL at h;split at h
 ·rename_i hc;cases h;refine⟨⟨hc.1,hc.2.1,by rw[List.length_map]; exact hc.2.2⟩,by rw[List.map_drop,List.map_take]⟩
 ·cases h
theorem Qaqz{l m:List UInt8}{lo hi:Int}(h:cutL l lo hi=some m):Q6c (some lo) (some hi) l.length∧(l.take hi.toNat).drop lo.toNat=m:=by
 unfold cutL at h;split at h
 ·rename_i hc;cases h;exact⟨⟨hc.1,hc.2.1,hc.2.2⟩,rfl⟩
 ·cases h
theorem Qaf4{α : Type}{bytes:Nat}{a b o:List α}{c : α → List V}{fs:List (List V)}{sz:Nat}(h:appL bytes a b=some o)(hf:LeLL fs (b.map c))(hs:∀ x,(c x).length=sz) :
  ((∀ x ∈ fs,x.length=sz)∧((a.map c).length+fs.length)*bytes≤140737488355328∧(a.map c).length+fs.length≤9223372036854775807)∧LeLL (a.map c++fs) (o.map c)∧(a.map c++fs).length=o.length∧∀ x ∈ a.map c,x.length=sz:=by
 unfold appL at h;split at h
 ·rename_i hc;cases h;have hl:fs.length=b.length:=by rw[hf.1,List.length_map]
  refine⟨⟨fun x hx=>?_,by rw[List.length_map,hl]; exact hc.1,by rw[List.length_map,hl]; exact hc.2⟩,by rw[List.map_append]; exact .app (.refl _) hf,by simp[hl],fun x hx=>?_⟩
  ·obtain⟨i,hi⟩:=List.getElem?_of_mem hx;obtain⟨y,hy⟩:=Qhi hf.1.symm hi;rw[(hf.2 i x y hi hy).1];obtain⟨z,-,rfl⟩:=List.mem_map.1 (List.mem_of_getElem? hy);exact hs z
  ·obtain⟨z,-,rfl⟩:=List.mem_map.1 hx;exact hs z
 ·cases h
theorem Qaa9{α R:Type}{l:List α}{c : α → List V}(lo hi:Option Int){f:List α → Option R}{r:R}{full:Bool}{lv:List Nat}{K:D→List Nat→Prop}{sz:Nat}(h:(cutL l (lo.getD 0) (hi.getD l.length)>>=f)=some r)(hs:∀ x,(c x).length=sz)
  (k:∀ m,cutL l (lo.getD 0) (hi.getD l.length)=some m→f m=some r→K (.p (.sl (full&&hi.isNone) (m.map c))) lv) :
  Q6c lo hi (l.map c).length∧(lo=none∨∀ x ∈ l.map c,x.length=sz)∧∃ d' live,LeD (.p (.sl (full&&hi.isNone) (((l.map c).take (hi.getD (l.map c).length).toNat).drop (lo.getD 0).toNat))) d' ∧ live=lv∧K d' live:=by
 refine Qai h fun m hm hf=>?_
 obtain⟨⟨h1,h2,h3⟩,h4⟩:=Qaqy c hm;have e:(hi.getD (l.map c).length)=hi.getD (l.length:Int):=by rw[List.length_map]
 refine⟨⟨h1,?_,?_⟩,.inr fun x hx=>?_,_,_,.eq ?_,rfl,k m hm hf⟩
 ·rw[e]; exact h2
 ·rw[e]; exact h3
 ·obtain⟨z,-,rfl⟩:=List.mem_map.1 hx; exact hs z
 ·rw[e,h4]
theorem Qiw{R:Type}{l:List UInt8}(lo hi:Option Int){f:List UInt8→Option R}{r:R}{lv:List Nat}{K:D→List Nat→Prop}(h:(cutL l (lo.getD 0) (hi.getD l.length)>>=f)=some r)
  (k:∀ m,cutL l (lo.getD 0) (hi.getD l.length)=some m→f m=some r→K (.p (.v (Qd6 m))) lv) :
  Q6c lo hi l.length∧∃ d' live,LeD (.p (.v (Qd6 ((l.take (hi.getD l.length).toNat).drop (lo.getD 0).toNat)))) d' ∧ live=lv∧K d' live:=by
 refine Qai h fun m hm hf=>?_
 obtain⟨⟨h1,h2,h3⟩,h4⟩:=Qaqz hm;exact⟨⟨h1,h2,h3⟩,_,_,.eq (by rw[h4]),rfl,k m hm hf⟩
theorem Qix{α R:Type}{bytes:Nat}{a b:List α}{c : α → List V}{fs:List (List V)}{sz tk e:Nat}{f:List α → Option R}{r:R}{lv:List Nat}{K:D→List Nat→Prop}(h:(appL bytes a b>>=f)=some r)(hf:LeLL fs (b.map c))(hs:∀ x,(c x).length=sz)
  (hl:lv[tk]? = some (a.map c).length) (k:∀ o,appL bytes a b=some o→f o=some r→K (.own tk e sz (o.map c)) (lv.set tk (o.map c).length)) :
  lv[tk]? = some (a.map c).length∧((∀ x ∈ fs,x.length=sz)∧((a.map c).length+fs.length)*bytes≤140737488355328∧(a.map c).length+fs.length≤9223372036854775807) ∧
   ∃ d' live,LeD (.own tk e sz (a.map c++fs)) d' ∧ live=lv.set tk (a.map c++fs).length∧K d' live:=by
 refine Qai h fun o ho hk=>?_
 obtain⟨h1,h2,h3,-⟩:=Qaf4 ho hf hs;exact⟨hl,h1,_,_,.own h2,by rw[h2.1],k o ho hk⟩
theorem Qad8{α R:Type}{bytes:Nat}{a b:List α}{c : α → List V}{es fs:List (List V)}{sz e:Nat}{f:List α → Option R}{r:R}{lv:List Nat}{K:D→List Nat→Prop}(h:(appL bytes a b>>=f)=some r)(he:LeLL es (a.map c))(hf:LeLL fs (b.map c))(hs:∀ x,(c x).length=sz)(hcl:a.length=0∨0<b.length)
  (k:∀ o,appL bytes a b=some o→f o=some r→K (.own lv.length e sz (o.map c)) (lv++[(o.map c).length])) :
  (es.length=0∨0<fs.length)∧(∀ x ∈ es,x.length=sz)∧((∀ x ∈ fs,x.length=sz)∧(es.length+fs.length)*bytes≤140737488355328∧es.length+fs.length≤9223372036854775807) ∧
   ∃ d' live,LeD (.own lv.length e sz (es++fs)) d' ∧ live=lv++[(es++fs).length]∧K d' live:=by
 refine Qai h fun o ho hk=>?_
 obtain⟨h1,h2,h3,h4⟩:=Qaf4 ho hf hs;have hl:es.length=(a.map c).length:=he.1;have h5:LeLL (es++fs) (o.map c):=by
  unfold appL at ho;split at ho
  ·cases ho; rw[List.map_append]; exact .app he hf
  ·cases ho
 refine⟨by rw[hl,List.length_map,hf.1,List.length_map]; exact hcl,fun x hx=>?_,by rw[hl]; exact h1,_,_,.own h5,by rw[h5.1],k o ho hk⟩;obtain⟨i,hi⟩:=List.getElem?_of_mem hx;obtain⟨y,hy⟩:=Qhi he.1.symm hi;rw[(he.2 i x y hi hy).1];exact h4 y (List.mem_of_getElem? hy)
theorem LeL.ceq{xs ys zs:List V}(h:ys=zs)(k:LeL xs zs):LeL xs ys:=h ▸ k
end
theorem PCall.weak{f:FuncId}{xs ys:List V}{r:D}(h:PCall P f ys r)(k:LeL xs ys):PCall P f xs r :=
 ⟨h.fn,fun C w us hgl hl hrel=>h.out C w us hgl (by rw[hl]; exact k.1) fun j y u hy hu=>by
  obtain⟨x,hx⟩:=Qhi k.1 hy;exact(hrel j x u hx hu).le (k.2 j x y hx hy)⟩
theorem Qou{f:FuncId}{fn:Func}{c:Code}{us:Array Value}{G:Gh}{w:World}{B:Nat×Nat}{Q:Exit→St→Prop}{σ0:St}{R:Ending→World→Prop}(hf:P.funcs[f]? = some fn)(hb:fn.body=some c)(h:T B P fn.ntmps c Q σ0)
  (hR:Rel fn.ntmps G σ0 { tmps:=us++Array.replicate (fn.ntmps-us.size) undef,defers:=[] } w)
  (hQ:∀ e G' σ' a' w', Ex B G w G' w' → Rel fn.ntmps G' σ' a' w' → Q e σ' → (e = .normal∨e = .ret)∧∃ v,(results fn a'.tmps).run P w' = .ok v w' ∧ R (.returned v) w'):Calls P f us w R:=by
 refine callsIn_wide.1 (callsIn_of_wp_marks (F:=Fence.wide) (n:=0) hf hb trivial (wpIn_mono (h.out none ⟨w.heap.size,[]⟩ G _ w hR (.none rfl)) ?_));rintro e a' w' ⟨G', σ', hE,hR', hF', hq⟩;have key:∀ (Ds:List Nat) (w' : World),Ds.Nodup→Ex B G w G' w' → Rel fn.ntmps G' σ' a' w' → (∀ b ∈ Ds,w.heap.size≤b∧w'.heap[b]? = some (.deferred (some []))∧b ∉ G'.name∧∀ T ∈ G'.tok,¬ T.has b)→LeavesInM Fence.wide 0 P fn a'.tmps R (Ds.map Qnm) .returning w' := by
  intro Ds
  induction Ds with
  | nil=>exact fun w' _ hE hR' _=>(hQ e G' σ' a' w' hE hR' hq).2
  | cons b Ds ih =>
   intro w' hnd hE hR' hD;obtain⟨d1,d2,d3,d4⟩:=hD b (by simp);have hnb:¬ G'.has b:=fun hh=>hh.elim d3 fun⟨T,hT,ht⟩=>d4 T hT ht
   have hk:Kept G'.has G'.com w' (w'.putObj b (.deferred none)):=Qh0 _ d2 (Qu9 d2) hnb;refine⟨by simp,.inl ⟨b,_,rfl,run_takeDeferred d2,ih _ (List.nodup_cons.1 hnd).2 (hE.kept hk fun i hi=>World.putObj_heap_other (by omega)) (hR'.kept hk) fun i hi=>?_⟩⟩;obtain⟨k1,k2,k3⟩:=hD i (by simp[hi]);refine⟨k1,?_,k3⟩;rw[World.putObj_heap_other (fun(e:i=b)=>(List.nodup_cons.1 hnd).1 (e ▸ hi))];exact k2
 obtain⟨Ds,m1,m2,m3⟩:=hF'.marks;have hl:=key Ds w' m2 hE hR' m3;rw[List.append_nil] at m1;rw[← m1] at hl;rcases (hQ e G' σ' a' w' hE hR' hq).1 with rfl | rfl
 ·exact hl
 ·exact hl
theorem PCall.ofB(hm:P.follows .mixedOrders=true)(hT:TblOk P tb){f:FuncId}{fn:Func}{c:Code}(lv:List (Nat×List Nat))(hf:P.funcs[f]? = some fn)(hb:fn.body=some c)(hn:isFn P f=true){args:List V}(hN:args.length≤fn.ntmps){r:D}
  (h:bwp (0,0) P tb fn.ntmps lv c (retQ tb fn.results.toList fun d=>LeD d r) ⟨Q0p args 0,⟨[],[]⟩⟩):PCall P f args r:=by
 refine⟨hn,fun C w us hgl hl hrel=>?_⟩;have hR:Rel fn.ntmps ⟨fun b o=>C b o∧b<w.heap.size,[],[]⟩ ⟨Q0p args 0,⟨[],[]⟩⟩ { tmps:=us++Array.replicate (fn.ntmps-us.size) undef,defers:=[] } w:=by
  refine⟨⟨fun b o h=>⟨h.2,by simp,by simp⟩,rfl,by simp,fun i b cs h=>by simp at h,rfl,fun t T b h=>by simp at h,fun T h=>by simp at h,hgl.mono fun b o u h1 h2=>⟨⟨h1,Q0b h2⟩,h2⟩⟩,fun t d hd=>?_,by simp; omega⟩;obtain⟨x,h1,h2,rfl⟩:=Qtf args 0 t d hd;have hlt:t<args.length:=(List.getElem?_eq_some_iff.1 h1).1;have hlt2:t<us.size:=by omega
  refine⟨by simp; omega,.p x _ (DRel.lt ?_)⟩;refine hrel t x _ h1 ?_;simp only[Array.getD_eq_getD_getElem?,Array.getElem?_append_left hlt2,Array.getElem?_eq_getElem hlt2,Option.getD_some]
 refine Qou hf hb (Qao hm hT c _ _ h) hR fun e G' σ' a' w' hE hR' hq=>?_
 have key:∀ (hq:Qhc tb σ' fn.results.toList fun ds=>match retD ds with | some d=>LeD d r | none=>False),∃ v,(results fn a'.tmps).run P w' = .ok v w' ∧
   ∃ u,Ending.returned v = .returned u∧DRel ⟨fun b o=>C b o∨w.heap.size≤b,[],[]⟩ w' r u∧Below w.heap.size w w' := fun hq=>by
  obtain⟨ds,us', h1,h2,h3,h4⟩:=Qf5 hT hR' _ _ hq;split at h4
  ·rename_i d hd;obtain⟨k1,k2⟩:=Q6p h2 h3 hd;refine⟨if h:us'.toArray.size=1 then us'.toArray[0] else .tuple us'.toArray,?_,_,rfl,DRel.le ?_ h4,⟨hE.ext.os,hE.ext.tape,hE.ext.output,hE.ext.size,fun k hk=>hE.ext.old k hk (by simp) (by simp)⟩⟩
   ·unfold results;rw[Sem.run_bind,Array.mapM_eq_mapM_toList,Sem.run_map]
    erw [h1]
    rfl
   ·have hcom:∀ b o,G'.com b o→C b o∨w.heap.size≤b:=fun b o hc=>by
     rcases hE.ext.new b o hc with h | h | h | ⟨T,h,_⟩
     ·exact .inl h.1
     ·exact .inr h
     ·simp at h
     ·simp at h
    rcases k2 with ⟨x,rfl⟩ | ⟨xs,rfl⟩
    ·generalize (if h:us'.toArray.size=1 then us'.toArray[0] else Value.tuple us'.toArray)=q at k1;cases k1 with
     | p _ _ k1=>exact .p _ _ (k1.mono (Nat.le_refl _) fun b o u h1 h2=>⟨hcom b o h1,h2⟩)
    ·generalize (if h:us'.toArray.size=1 then us'.toArray[0] else Value.tuple us'.toArray)=q at k1;cases k1 with
     | tup _ vs l1 l2 =>
      refine .tup _ _ l1 (fun j c u hc hu=>?_);have:=l2 j c u hc hu;rw[List.getElem?_map] at hc;obtain⟨x,-,rfl⟩:=Option.map_eq_some_iff.1 hc;cases this with
      | p _ _ k1=>exact .p _ _ (k1.mono (Nat.le_refl _) fun b o u h1 h2=>⟨hcom b o h1,h2⟩)
  ·exact h4.elim
 cases e with
 | normal=>exact⟨.inl rfl,key hq⟩
 | ret=>exact⟨.inr rfl,key hq⟩
 | _=>exact hq.elim
theorem Qal{α R:Type}{x:Option α}{f : α → Option R}{r:R}{g:FuncId}(xs:List V)(t : α → D){gn:Bool}{s:S}{K:D→S→Prop}(h:(x>>=f)=some r)(hok:∀ y,x=some y→PCall P g xs (t y))(k:∀ y,x=some y→f y=some r→K (t y) s) :
  ∃ r s', Qada gn P g (xs.map .p) s r s' ∧ K r s' := Qai h fun y hy hf=>⟨t y,s,(hok y hy).c,k y hy hf⟩
theorem Qco{α R:Type}{x:Option α}{f : α → Option R}{r:R}{g:FuncId}(xs:List V)(t : α → D){base:Nat}{s:S}{K:D→S→Prop}(h:(x>>=f)=some r)(hok:∀ y,x=some y→PCall P g xs (t y))(k:∀ y,x=some y→f y=some r→K (t y) s) :
  ∃ r s', Qahj base P g (xs.map .p) s r s' ∧ K r s' := Qai h fun y hy hf=>⟨t y,s,(hok y hy).d,k y hy hf⟩
theorem Qap{α R:Type}{x:Option α}{f : α → Option R}{r:R}{g:FuncId}{args:List D}{s:S}(t : α → D)(s' : α → S){K:D→S→Prop}(h:(x>>=f)=some r)(hok:∀ y,x=some y→CallOK P g args s (t y) (s' y))(k:∀ y,x=some y→f y=some r→K (t y) (s' y)) :
  ∃ r s', Qada true P g args s r s' ∧ K r s' := Qai h fun y hy hf=>⟨t y,s' y,(hok y hy).g,k y hy hf⟩
theorem Qtl{α R:Type}{x:Option α}{f : α → Option R}{r:R}{g:FuncId}{args:List D}{s:S}{base:Nat}(t : α → D)(s' : α → S){K:D→S→Prop}(h:(x>>=f)=some r)(hok:∀ y,x=some y→Qamp base P g args s (t y) (s' y))(k:∀ y,x=some y→f y=some r→K (t y) (s' y)) :
  ∃ r s', Qamp base P g args s r s' ∧ K r s' := Qai h fun y hy hf=>⟨t y,s' y,hok y hy,k y hy hf⟩
theorem Qpx{α R:Type}{x:Option α}{f : α → Option R}{r:R}{g:FuncId}{args:List D}{s:S}{base:Nat}(t : α → D){K:D→S→Prop}(h:(x>>=f)=some r)(hok:∀ y,x=some y→Qahj base P g args s (t y) s)(k:∀ y,x=some y→f y=some r→K (t y) s) :
  ∃ r s', Qahj base P g args s r s' ∧ K r s' := Qai h fun y hy hf=>⟨t y,s,hok y hy,k y hy hf⟩
theorem CallX.weakC{E:Value→Ending}{f:FuncId}{args args' : List D}{s:S}{r:D}{s' : S}(k:CallX E P f args' s r s')(h:LeC args args'):CallX E P f args s r s' := k.weak h.get.1 h.get.2
def Qahq(m n:Nat)(J:List Nat):Bool:=Qyb J&&J.all (Nat.blt · n)&&(J.take m==List.range m)
theorem Qwb{n i:Nat}(h:i<n):(List.range n)[i]? = some i:=List.getElem?_range h
theorem Q05{α : Type}(A B:List α)(d : α):(List.range A.length).map ((A++B).getD · d)=A:=by
 apply List.ext_getElem?;intro i;rw[List.getElem?_map];by_cases h:i<A.length
 ·rw[Qwb h];simp[List.getD,List.getElem?_append_left h,h]
 ·rw[List.getElem?_eq_none (by simpa using Nat.le_of_not_lt h),List.getElem?_eq_none (Nat.le_of_not_lt h)]; rfl
theorem Qaj1{G G' : Gh}{w w' : World}{n m:Nat}{J:List Nat}(hE:Ex (n,m) G w G' w')(hn:G.name.length=n)(hm:G.tok.length=m)(hn' : n≤G'.name.length)(hJ:∀ j ∈ J,j<G'.tok.length)(hid:J.take m=List.range m):Stp G w (G'.sub (List.range n) J) w' := by
 have hI:∀ i ∈ List.range n,i<G'.name.length:=fun i hi=>by have:=List.mem_range.1 hi; omega
 refine⟨⟨hE.ext.os,hE.ext.tape,hE.ext.output,hE.ext.size,hE.ext.com,hE.ext.old,hE.ext.new,fun b hb=>?_,hE.ext.mono,hE.ext.shp⟩,fun nm b hb=>?_,fun t T ht=>?_⟩
 ·rcases hb with hb | ⟨T,hT,hb⟩
  ·exact hE.ext.mine b (.inl (Qf6 hI hb))
  ·exact hE.ext.mine b (.inr ⟨T,Qf6 hJ hT,hb⟩)
 ·have hl:nm<n:=by rw[← hn]; exact(List.getElem?_eq_some_iff.1 hb).1
  rw[Qpt (Qwb hl) (by omega)];exact hE.name nm b hl hb
 ·have hl:t<m:=by rw[← hm]; exact(List.getElem?_eq_some_iff.1 ht).1
  obtain⟨T', h1,h2⟩:=hE.tok t T hl ht;have hJt:J[t]? = some t:=by
   have:=congrArg (·[t]?) hid;simp only[List.getElem?_take,if_pos hl,Qwb hl] at this;exact this
  exact⟨T', by rw[Qrp hJt (hJ t (List.mem_of_getElem? hJt))]; exact h1,h2⟩
structure EndR (n m:Nat) (s' : S) (r d:D) (t:S):Prop where
 ex:∃ J,Qahq m t.live.length J=true∧LeD d (r.ren (List.range n) J)∧LeH (t.heap.take n) (s'.heap.map fun cs=>cs.map (D.ren (List.range n) J))∧J.map (t.live.getD · 0)=s'.live
theorem CallOK.ofT(hT:TblOk P tb){f:FuncId}{fn:Func}{c:Code}(hf:P.funcs[f]? = some fn)(hb:fn.body=some c)(hn:isFn P f=true){args:List D}(hN:args.length≤fn.ntmps){s s' : S}{r:D}
  (hr:r.lt s.heap.length s'.live.length=true) (hs:s'.heap.all (fun cs=>cs.all (D.lt s.heap.length s'.live.length))=true)
  (hn' : s'.heap.length=s.heap.length)
  (h:T (s.heap.length,s.live.length) P fn.ntmps c (fun e σ => ∃ τ,Le (s.heap.length,s.live.length) fn.ntmps σ τ ∧ retR tb fn.results.toList (EndR s.heap.length s.live.length s' r) e τ) ⟨Qu7 args 0,s⟩):CallOK P f args s r s' := by
 refine⟨hn,fun G w us hI hl hrel=>?_⟩;have hR:Rel fn.ntmps G ⟨Qu7 args 0,s⟩ { tmps:=us++Array.replicate (fn.ntmps-us.size) undef,defers:=[] } w:=by
  refine⟨hI,fun t d hd=>?_,by simp; omega⟩;obtain⟨h1,h2⟩:=Qot args 0 t d hd;have hlt:t<args.length:=(List.getElem?_eq_some_iff.1 h1).1;have hlt2:t<us.size:=by omega
  refine⟨by simp; omega,?_⟩;refine hrel t d _ h1 ?_;simp only[Array.getD_eq_getD_getElem?,Array.getElem?_append_left hlt2,Array.getElem?_eq_getElem hlt2,Option.getD_some]
 have hln:G.name.length=s.heap.length:=hI.names;have hlt:G.tok.length=s.live.length:=by rw[← hI.live]; simp
 refine Qou hf hb (T_up h fun e σ' hq=>hq) hR fun e G' σ' a' w' hE hR' hq=>?_
 have key:∀ (hq:Qhc tb σ' fn.results.toList fun ds=>EndR s.heap.length s.live.length s' r (retE ds) σ'.s),∃ v,(results fn a'.tmps).run P w' = .ok v w' ∧
   ∃ u G', Ending.returned v = .returned u∧Stp G w G' w' ∧ Inv G' s' w' ∧ DRel G' w' r u:=fun hq=>by
  obtain⟨ds,us', h1,h2,h3,⟨J,hJ0,h4,h5,h6⟩⟩:=Qf5 hT hR' _ _ hq;unfold Qahq at hJ0;simp only[Bool.and_eq_true] at hJ0;obtain⟨⟨hJ1,hJ2⟩,hJ3⟩:=hJ0;have nJ:=Qc0 J hJ1;have bJ:=Qj1 hJ2;have lT:G'.tok.length = σ'.s.live.length:=by have:=congrArg List.length hR'.inv.live; simpa using this
  have hd:=(Qamh h2 h3).le h4;have h7:=LeH.app h5 (LeH.refl (σ'.s.heap.drop s.heap.length));rw[List.take_append_drop] at h7;have hinv1:=Inv.le (h := σ'.s.heap) (live := σ'.s.live) hR'.inv h7;have hlen:(s'.heap.map fun cs=>cs.map (D.ren (List.range s.heap.length) J)).length=s.heap.length:=by rw[List.length_map]; exact hn'
  have hlJ:J.length=s'.live.length:=by rw[← h6]; simp
  have hnl:s.heap.length≤G'.name.length:=by rw[hinv1.names]; simp only[List.length_append,hlen]; omega
  have hinv2:Inv (G'.sub (List.range s.heap.length) J) ⟨s'.heap,s'.live⟩ w' := hinv1.sub (I:=List.range s.heap.length) (J:=J) List.nodup_range nJ (fun i hi=>by have:=List.mem_range.1 hi; simp only[List.length_append,hlen]; omega) bJ (by
   have:=Q05 (s'.heap.map fun cs=>cs.map (D.ren (List.range s.heap.length) J)) (σ'.s.heap.drop s.heap.length) [];rw[hlen] at this;exact this) h6 (by rw[List.length_range,hlJ]; exact hs)
  have hst:Stp G w (G'.sub (List.range s.heap.length) J) w' := Qaj1 hE hln hlt hnl (fun j hj=>by rw[lT]; exact bJ j hj) (by simpa using hJ3);refine⟨if h:us'.toArray.size=1 then us'.toArray[0] else .tuple us'.toArray,?_,_,_,rfl,hst,hinv2,Q6q (fun i hi=>by have:=List.mem_range.1 hi; omega) (fun j hj=>by rw[lT]; exact bJ j hj) (by rw[List.length_range,hlJ]; exact hr) hd⟩;unfold results;rw[Sem.run_bind,Array.mapM_eq_mapM_toList,Sem.run_map]
  erw [h1]
  rfl
 cases e with
 | normal=>exact⟨.inl rfl,key hq⟩
 | ret=>exact⟨.inr rfl,key hq⟩
 | _=>exact hq.elim
theorem CallOK.ofB(hm:P.follows .mixedOrders=true)(hT:TblOk P tb){f:FuncId}{fn:Func}{c:Code}(lv:List (Nat×List Nat))(hf:P.funcs[f]? = some fn)(hb:fn.body=some c)(hn:isFn P f=true){args:List D}(hN:args.length≤fn.ntmps){s s' : S}{r:D}
  (hr:r.lt s.heap.length s'.live.length=true) (hs:s'.heap.all (fun cs=>cs.all (D.lt s.heap.length s'.live.length))=true)
  (hn' : s'.heap.length=s.heap.length)
  (h:bwp (s.heap.length,s.live.length) P tb fn.ntmps lv c (fun e σ => ∃ τ,Le (s.heap.length,s.live.length) fn.ntmps σ τ ∧ retR tb fn.results.toList (EndR s.heap.length s.live.length s' r) e τ) ⟨Qu7 args 0,s⟩):CallOK P f args s r s' :=
 CallOK.ofT hT hf hb hn hN hr hs hn' (Qao hm hT c _ _ h)
theorem Qb3{α : Type}{x y : α}{d:D}{u:S}{n m:Nat}{t : α → D}{ss : α → S}(h:some x=some y)(k:EndR n m (ss x) (t x) d u):EndR n m (ss y) (t y) d u:=by cases h; exact k
theorem Qam{α : Type}{x y : α}{d:D}{t : α → D}(h:some x=some y)(k:LeD d (t x)):LeD d (t y):=by cases h; exact k
end
section
variable {P:Program} {tb:Tbl}
def pubC(heap:List (List D)):D→Option V
 | .ptr nm off=>match heap[nm]? with
  | some cs=>(unps cs).map fun vs =>.ep (vs.drop off)
  | none=>none
 | d=>unp d
def pubL(heap:List (List D)):List D→Option (List V)
 | []=>some []
 | d::r=>match pubC heap d,pubL heap r with
  | some x,some y=>some (x::y)
  | _,_=>none
def pubD(heap:List (List D)):D→Option D
 | .fn f [] cap=>(pubL heap cap).map fun vs =>.fn f [] (vs.map .p)
 | .agg cs=>(pubL heap cs).map fun vs =>.p (.agg vs)
 | d=>(pubC heap d).map .p
def pubR(heap:List (List D)):List D→Option D
 | [d]=>pubD heap d
 | ds=>(pubL heap ds).map fun xs =>.tup (xs.map .p)
theorem Q5t:∀ {cs:List D} {vs:List V},unps cs=some vs→Qag0 cs=true
 | [],_,_=>rfl
 | d::r,vs,h=>by
  unfold unps at h;split at h
  ·rename_i x y hx hy;have ih:=Q5t hy;cases d with
   | p x=>exact ih
   | own t e s es=>exact ih
   | _=>cases hx
  ·cases h
theorem Qz1{G:Gh}{s:S}{w:World}(hI:Inv G s w){d:D}{x:V}{u:Value}(h:DRel G w d u)(hd:pubC s.heap d=some x):VRel (fun b o=>G.com b o∨b ∈ G.name) w x u:=by
 have up:∀ {y:V} {v:Value},VRel G.com w y v→VRel (fun b o=>G.com b o∨b ∈ G.name) w y v:=fun h=>h.mono (Nat.le_refl _) fun b o u h1 h2=>⟨.inl h1,h2⟩
 unfold pubC at hd;split at hd
 ·rename_i nm off;cases h with
  | ptr _ _ b hb =>
   split at hd
   ·rename_i cs hcs;obtain⟨vs,hv,rfl⟩:=Option.map_eq_some_iff.1 hd;obtain⟨us,ty,h1,h2,h3⟩:=(hI.var nm b cs hb hcs).row (Q5t hv);obtain⟨l1,l2⟩:=Qiu (G:=G) (w:=w) cs vs hv;refine .ep _ b off (fun k=>us.getD (off+k) undef) (fun k c hk=>?_) (fun k c hk=>?_)
    all_goals
     rw[List.getElem?_drop] at hk;obtain⟨d,hd,hx⟩:=l2 _ c hk;have hlt:off+k<us.size:=by rw[h2]; exact(List.getElem?_eq_some_iff.1 hd).1
     obtain⟨g1,g2⟩:=h3 _ d us[off+k] hd (Array.getElem?_eq_getElem hlt);have hg:us.getD (off+k) undef=us[off+k]:=by simp[Array.getD_eq_getD_getElem?,hlt]
    ·refine⟨.inr (List.mem_of_getElem? hb),?_,by rw[hg]; exact g1⟩;rw[cell_of_row w b _ us ty (0,0) h1,hg];exact Array.getElem?_eq_getElem hlt
    ·show VRel _ w c (us.getD (off+k) undef);rw[hg]; exact up (Qfy g2 hx)
   ·cases hd
 ·exact up (Qfy h hd)
theorem Qz2{G:Gh}{s:S}{w:World}(hI:Inv G s w):∀ (ds:List D) (xs:List V),pubL s.heap ds=some xs→xs.length=ds.length∧∀ (j:Nat) x,xs[j]? = some x→∃ d,ds[j]? = some d∧pubC s.heap d=some x
 | [],xs,h=>by simp[pubL] at h; subst h; exact⟨rfl,fun j x hx=>by simp at hx⟩
 | d::r,xs,h=>by
  unfold pubL at h;split at h
  ·rename_i x y hx hy;cases h;obtain⟨h1,h2⟩:=Qz2 hI r y hy;refine⟨by simp[h1],fun j z hz=>?_⟩;cases j with
   | zero=>simp at hz; subst hz; exact⟨d,rfl,hx⟩
   | succ j=>exact h2 j z hz
  ·cases h
theorem Qamv{G:Gh}{s:S}{w:World}(hI:Inv G s w){d d' : D}{u:Value}(h:DRel G w d u)(hd:pubD s.heap d=some d'):DRel ⟨fun b o=>G.com b o∨b ∈ G.name,[],[]⟩ w d' u:=by
 unfold pubD at hd;split at hd
 ·rename_i f cap;obtain⟨vs,hv,rfl⟩:=Option.map_eq_some_iff.1 hd;obtain⟨l1,l2⟩:=Qz2 hI cap vs hv;cases h with
  | fn _ _ _ us ws k1 k2 k3 k4 =>
   refine .fn f [] _ us ws k1 (by simp[l1,k2]) (fun j c u hc=>by simp at hc) (fun j c u hc hu=>?_);rw[List.getElem?_map] at hc;obtain⟨x,hx,rfl⟩:=Option.map_eq_some_iff.1 hc;obtain⟨d,hd,hp⟩:=l2 j x hx;exact .p _ _ (Qz1 hI (k4 j d u hd hu) hp)
 ·rename_i cs;obtain⟨vs,hv,rfl⟩:=Option.map_eq_some_iff.1 hd;obtain⟨l1,l2⟩:=Qz2 hI cs vs hv;cases h with
  | agg _ us k1 k2 k3 =>
   refine .p _ _ (.agg _ us (by rw[l1,k1]) (fun j c u hc hu=>?_) (fun j c u hc hu=>?_))
   ·obtain⟨d,hd,-⟩:=l2 j c hc;exact k2 j d u hd hu
   ·obtain⟨d,hd,hp⟩:=l2 j c hc;exact Qz1 hI (k3 j d u hd hu) hp
 ·obtain⟨x,hx,rfl⟩:=Option.map_eq_some_iff.1 hd;exact .p _ _ (Qz1 hI h hx)
theorem Qamw{G:Gh}{s:S}{w:World}(hI:Inv G s w){ds:List D}{us:List Value}(hl:us.length=ds.length)(h:∀ (j:Nat) d u,ds[j]? = some d→us[j]? = some u→DRel G w d u){r:D}(hr:pubR s.heap ds=some r) :
  DRel ⟨fun b o=>G.com b o∨b ∈ G.name,[],[]⟩ w r (if h:us.toArray.size=1 then us.toArray[0] else .tuple us.toArray):=by
 unfold pubR at hr;split at hr
 ·rename_i d
  match us,hl with
  | [u],_=>exact Qamv hI (h 0 d u rfl rfl) hr
 ·rename_i hne;obtain⟨xs,hx,rfl⟩:=Option.map_eq_some_iff.1 hr;obtain⟨u1,u2⟩:=Qz2 hI ds xs hx;have hsz:¬ us.toArray.size=1:=by
   simp only[List.size_toArray,hl];intro h1
   match ds,h1 with
   | [d],_=>exact hne d rfl
  rw[dif_neg hsz];refine .tup _ _ (by simp[u1,hl]) (fun j c u hc hu=>?_);rw[List.getElem?_map] at hc;obtain⟨x,hx', rfl⟩:=Option.map_eq_some_iff.1 hc;obtain⟨d,hd,hxd⟩:=u2 j x hx';exact .p _ _ (Qz1 hI (h j d u hd (by simpa using hu)) hxd)
def retM(tb:Tbl)(rs:List ResultVar)(R:D→Prop)(e:Exit)(σ : St):Prop :=
 match e with
 | .normal=>Qhc tb σ rs fun ds=>match pubR σ.s.heap ds with | some d=>R d | none=>False
 | .ret=>Qhc tb σ rs fun ds=>match pubR σ.s.heap ds with | some d=>R d | none=>False
 | _=>False
theorem PCall.ofM(hm:P.follows .mixedOrders=true)(hT:TblOk P tb){f:FuncId}{fn:Func}{c:Code}(lv:List (Nat×List Nat))(hf:P.funcs[f]? = some fn)(hb:fn.body=some c)(hn:isFn P f=true){args:List V}(hN:args.length≤fn.ntmps){r:D}
  (h:bwp (0,0) P tb fn.ntmps lv c (retM tb fn.results.toList fun d=>LeD d r) ⟨Q0p args 0,⟨[],[]⟩⟩):PCall P f args r:=by
 refine⟨hn,fun C w us hgl hl hrel=>?_⟩;have hR:Rel fn.ntmps ⟨fun b o=>C b o∧b<w.heap.size,[],[]⟩ ⟨Q0p args 0,⟨[],[]⟩⟩ { tmps:=us++Array.replicate (fn.ntmps-us.size) undef,defers:=[] } w:=by
  refine⟨⟨fun b o h=>⟨h.2,by simp,by simp⟩,rfl,by simp,fun i b cs h=>by simp at h,rfl,fun t T b h=>by simp at h,fun T h=>by simp at h,hgl.mono fun b o u h1 h2=>⟨⟨h1,Q0b h2⟩,h2⟩⟩,fun t d hd=>?_,by simp; omega⟩;obtain⟨x,h1,h2,rfl⟩:=Qtf args 0 t d hd;have hlt:t<args.length:=(List.getElem?_eq_some_iff.1 h1).1;have hlt2:t<us.size:=by omega
  refine⟨by simp; omega,.p x _ (DRel.lt ?_)⟩;refine hrel t x _ h1 ?_;simp only[Array.getD_eq_getD_getElem?,Array.getElem?_append_left hlt2,Array.getElem?_eq_getElem hlt2,Option.getD_some]
 refine Qou hf hb (Qao hm hT c _ _ h) hR fun e G' σ' a' w' hE hR' hq=>?_
 have key:∀ (hq:Qhc tb σ' fn.results.toList fun ds=>match pubR σ'.s.heap ds with | some d=>LeD d r | none=>False),∃ v,(results fn a'.tmps).run P w' = .ok v w' ∧
   ∃ u,Ending.returned v = .returned u∧DRel ⟨fun b o=>C b o∨w.heap.size≤b,[],[]⟩ w' r u∧Below w.heap.size w w' := fun hq=>by
  obtain⟨ds,us', h1,h2,h3,h4⟩:=Qf5 hT hR' _ _ hq;split at h4
  ·rename_i d hd;refine⟨if h:us'.toArray.size=1 then us'.toArray[0] else .tuple us'.toArray,?_,_,rfl,DRel.le (DRel.weak (Qamw hR'.inv h2 h3 hd) fun b o hc=>?_) h4,⟨hE.ext.os,hE.ext.tape,hE.ext.output,hE.ext.size,fun k hk=>hE.ext.old k hk (by simp) (by simp)⟩⟩
   ·unfold results;rw[Sem.run_bind,Array.mapM_eq_mapM_toList,Sem.run_map]
    erw [h1]
    rfl
   ·rcases hc with hc | hc
    ·rcases hE.ext.new b o hc with h | h | h | ⟨T,h,_⟩
     ·exact .inl h.1
     ·exact .inr h
     ·simp at h
     ·simp at h
    ·rcases hE.ext.mine b (.inl hc) with h | h | ⟨T,h,_⟩
     ·exact .inr h
     ·simp at h
     ·simp at h
  ·exact h4.elim
 cases e with
 | normal=>exact⟨.inl rfl,key hq⟩
 | ret=>exact⟨.inr rfl,key hq⟩
 | _=>exact hq.elim
def IEnd(N:Nat)(xs:List (List V))(e:Exit)(σ : St):Prop :=
 ((e = .normal∨e = .ret)∧Le (0,1) N σ ⟨[],⟨[],[xs.length]⟩⟩)∨((e = .normal∨e = .ret)∧Le (0,1) N σ ⟨[],⟨[],[xs.length+1]⟩⟩)
theorem IterOK.ofB(hm:P.follows .mixedOrders=true)(hT:TblOk P tb){f:FuncId}{fn:Func}{c:Code}(lv:List (Nat×List Nat))(hf:P.funcs[f]? = some fn)(hb:fn.body=some c)(hn:isFn P f=true){cap:List V}{xs:List (List V)}(hN:cap.length+1≤fn.ntmps)
  (hres:fn.results.toList=[]) (h:bwp (0,1) P tb fn.ntmps lv c (fun e σ => ∃ τ,Le (0,1) fn.ntmps σ τ ∧ IEnd fn.ntmps xs e τ) ⟨Qu7 (.yld P 0 xs::cap.map .p) 0,⟨[],[0]⟩⟩):IterOK P f cap xs:=by
 refine⟨hn,fun G w us hI hl hrel=>?_⟩;have hlen:(D.yld P 0 xs::cap.map .p).length=cap.length+1:=by simp
 have hR:Rel fn.ntmps G ⟨Qu7 (.yld P 0 xs::cap.map .p) 0,⟨[],[0]⟩⟩ { tmps:=us++Array.replicate (fn.ntmps-us.size) undef,defers:=[] } w:=by
  refine⟨hI,fun t d hd=>?_,by simp; omega⟩;obtain⟨h1,h2⟩:=Qot _ 0 t d hd;have hlt:t<(D.yld P 0 xs::cap.map .p).length:=(List.getElem?_eq_some_iff.1 h1).1;have hlt2:t<us.size:=by omega
  refine⟨by simp; omega,?_⟩;refine hrel t d _ h1 ?_;simp only[Array.getD_eq_getD_getElem?,Array.getElem?_append_left hlt2,Array.getElem?_eq_getElem hlt2,Option.getD_some]
 refine Qou hf hb (T_up (Qao hm hT c _ _ h) fun e σ' hq=>hq) hR fun e G' σ' a' w' hE hR' hq=>?_
 have hnm:G.name.length≤0:=by rw[hI.names]; exact Nat.le_refl _
 have htk:G.tok.length≤1:=by have:=congrArg List.length hI.live; simp at this; omega
 have hrun:∃ v,(results fn a'.tmps).run P w' = .ok v w' ∧ ∀ G,DRel G w' (.tup []) v:=by
  have e1:fn.results = #[]:=by rw[← Array.toArray_toList (xs:=fn.results),hres]
  refine⟨.tuple #[],?_,fun G =>.tup [] #[] rfl fun j c u hc=>by simp at hc⟩;unfold results;rw[e1];simp
 obtain⟨v,hv,hvr⟩:=hrun;rcases hq with ⟨he,hle⟩ | ⟨he,hle⟩
 ·obtain⟨G2,e2,r2⟩:=hle.out G' a' w' hR';exact⟨he,v,hv,v,G2,.tup [],_,rfl,(hE.trans e2).stp hnm htk,r2.inv,hvr _,.inl rfl⟩
 ·obtain⟨G2,e2,r2⟩:=hle.out G' a' w' hR';exact⟨he,v,hv,v,G2,.tup [],_,rfl,(hE.trans e2).stp hnm htk,r2.inv,hvr _,.inr rfl⟩
end
@[reducible] def wr (n:Int):Int:=IntKind.i64.wrap n
def nV(k:IntKind)(n:Int):V :=.v (.int k n)
def cInt(n:Int):List V:=[iV n]
def cNum(k:IntKind)(n:Int):List V:=[nV k n]
def cStr(l:List UInt8):List V:=[sV l]
def cSl{α : Type}(c : α → List V)(l:List α):List V:=[.sl false (l.map c)]
end Go.Proofs.YtfgegilhjlnohaaGreat
end
noncomputable section
set_option linter.unusedVariables false
namespace Go.Proofs.YtfgegilhjlnohaaGreat
open Go.RowKit
theorem RelL.of_le{xs ys:List V}(h:LeL xs ys):RelL xs ys:=fun C w us hu hr=>⟨hu.trans h.1,fun j y u hy hu=>by
 obtain⟨x,hx⟩:=Qhi h.1 hy;exact(hr j x u hx hu).le (h.2 j x y hx hy)⟩
def b2s(l:List Int):Option (List UInt8):=if l.all (fun n=>decide (0≤n∧n≤255))=true then some (l.map fun n=>UInt8.ofNat n.toNat) else none
theorem Qaba{R:Type}{l:List Int}{f:List UInt8→Option R}{r:R}{lv:List Nat}{K:D→List Nat→Prop}(h:(b2s l>>=f)=some r)(k:∀ m,b2s l=some m→f m=some r→K (.p (.v (Qd6 m))) lv) :
  ∃ m:List UInt8,l.map (cNum .u8)=m.map Qgw∧∃ d' live,LeD (.p (.v (Qd6 m))) d' ∧ live=lv∧K d' live:=by
 refine Qai h fun m hm hf=>?_
 have hk:=k m hm hf;refine⟨m,?_,_,_,.refl _,rfl,hk⟩;unfold b2s at hm;split at hm
 ·rename_i hl;cases hm;rw[List.map_map];refine List.map_congr_left fun n hn=>?_
  have:=List.all_eq_true.1 hl n hn;simp only[decide_eq_true_eq] at this;obtain⟨N,rfl⟩:∃ N:Nat,n=(N:Int):=⟨n.toNat,by omega⟩;have hN:N≤255:=by omega
  simp only[Function.comp,cNum,nV,Qgw,Int.toNat_natCast,UInt8.toNat_ofNat'];rw[Nat.mod_eq_of_lt (by omega)]
 ·cases hm
def s2b(l:List UInt8):List Int:=l.map fun x=>(x.toNat:Int)
theorem Qaj2(a:List Int)(b:List UInt8):a.map (cNum .u8)++b.map Qgw=(a++s2b b).map (cNum .u8):=by
 rw[List.map_append];unfold s2b;rw[List.map_map];rfl
theorem Qaf5{R:Type}{bytes:Nat}{a:List Int}{b:List UInt8}{sz tk e:Nat}{f:List Int→Option R}{r:R}{lv:List Nat}{K:D→List Nat→Prop}(h:(appL bytes a (s2b b)>>=f)=some r)(hl:lv[tk]? = some (a.map (cNum .u8)).length)
  (k:∀ o,appL bytes a (s2b b)=some o→f o=some r→K (.own tk e sz (o.map (cNum .u8))) (lv.set tk (o.map (cNum .u8)).length)) :
  lv[tk]? = some (a.map (cNum .u8)).length∧(((a.map (cNum .u8)).length+b.length)*bytes≤140737488355328∧(a.map (cNum .u8)).length+b.length≤9223372036854775807) ∧
   ∃ d' live,LeD (.own tk e sz (a.map (cNum .u8)++b.map Qgw)) d' ∧ live=lv.set tk (a.map (cNum .u8)++b.map Qgw).length∧K d' live:=by
 refine Qai h fun o ho hf=>?_
 have hk:=k o ho hf;unfold appL at ho;split at ho
 ·rename_i hc;cases ho;rw[Qaj2,List.length_map];simp only[s2b,List.length_map] at hc;exact⟨by rw[List.length_map] at hl; exact hl,hc,_,_,.refl _,rfl,hk⟩
 ·cases ho
def rgP:Code→List Nat
 | .rangeFunc _ ps _ _=>ps.toList
 | _=>[]
def rgA:Code→Code
 | .rangeFunc _ _ a _=>a
 | _ =>.skip
def rgB:Code→Code
 | .rangeFunc _ _ _ b=>b
 | _ =>.skip
section
variable {P:Program}
theorem Q66{α R:Type}{x:Option α}{f : α → Option R}{r:R}{g:FuncId}{args:List D}{s:S}{base:Nat}(t : α → D)(s' : α → S){K:D→S→Prop}(h:(x>>=f)=some r)(hok:∀ y,x=some y→Qamo base P g args s (t y) (s' y))(k:∀ y,x=some y→f y=some r→K (t y) (s' y)) :
  ∃ r s', Qamo base P g args s r s' ∧ K r s' := Qai h fun y hy hf=>⟨t y,s' y,hok y hy,k y hy hf⟩
theorem Q67{k m N:Nat}{ps:List Nat}{asn body:Code}{env:Env}{Q:Exit→St→Prop}{α : Type}{c : α → List V}{x : α}{r:List α}{s:S}
  (h:T (k,m) P N asn (fun e σ1=>e = .normal∧T (k,m) P N body (fun e σ2=>∃ s', Le (k,m) N ⟨[],σ2.s⟩ ⟨[],s'⟩∧s'.heap.length=k∧s'.live.length=m ∧
   match e with
   | .normal=>RL k m P N ps asn body env Q (r.map c) s'
   | .ret=>Q .ret ⟨env,s'⟩
   | .exit i=>Q (.exit i) ⟨env,s'⟩
   | _=>False) σ1) ⟨putP ps (c x) env,s⟩):RL k m P N ps asn body env Q ((x::r).map c) s:=h
theorem Qaf6{k m N:Nat}{ps:List Nat}{asn body:Code}{env:Env}{Q:Exit→St→Prop}{α : Type}{c : α → List V}{s:S}(h:Q .normal ⟨env,s⟩):RL k m P N ps asn body env Q (([]:List α).map c) s:=h
def Stop(B:Nat×Nat)(N:Nat)(xs:List (List V))(σ : St):Prop:=∃ s', Le B N σ ⟨[],s'⟩∧s'.heap.length=B.1∧s'.live.length=B.2∧s'.live[0]? = some (xs.length+1)
def Qs(B:Nat×Nat)(N:Nat)(xs:List (List V))(J:Exit→St→Prop)(e:Exit)(σ : St):Prop:=J e σ ∨ (e = .ret∧Stop B N xs σ)
theorem env0{B:Nat×Nat}{N:Nat}{env:Env}{s:S}:Le B N ⟨env,s⟩ ⟨[],s⟩:=⟨fun G a w hR=>⟨G,.refl B G w,⟨hR.inv,fun t d h=>by simp at h,hR.size⟩⟩⟩
theorem le01{N:Nat}{σ : St}{n:Nat}(h : σ.s.live[0]? = some n):Le (0,1) N σ ⟨[],⟨[],[n]⟩⟩:=by
 obtain⟨env,s⟩ := σ;refine env0.trans (Le.tow 0 1 rfl .nil .nil ?_ (Nat.le_refl _) (Nat.le_refl _) rfl);cases hs:s.live with
 | nil=>simp[hs] at h
 | cons a l=>simp[hs] at h; simp[h]
theorem Qamx{N:Nat}{xs:List (List V)}{σ : St}(h : σ.s.live[0]? = some (xs.length+1)):Stop (0,1) N xs σ := ⟨_,le01 h,rfl,rfl,rfl⟩
theorem Qaf7{N:Nat}{xs:List (List V)}{e:Exit}{σ : St}(he:e = .normal∨e = .ret)(h : σ.s.live[0]? = some (xs.length+1)):∃ τ,Le (0,1) N σ τ ∧ IEnd N xs e τ := ⟨_,le01 h,.inr ⟨he,.refl _ _ _⟩⟩
theorem Qaj3{α O:Type}{c : α → List V}{N:Nat}{xs pre:List (List V)}{e:Exit}{σ : St}{l:List α}{y o2:O}(h:some ([],y)=some (l,o2))(hx:xs=pre++(l.map c++[]))(he:e = .normal∨e = .ret)(hl : σ.s.live[0]? = some pre.length):∃ τ,Le (0,1) N σ τ ∧ IEnd N xs e τ := by
 cases h;have:xs.length=pre.length:=by rw[hx]; simp
 refine⟨_,le01 hl,.inl ⟨he,?_⟩⟩;rw[this];exact .refl _ _ _
theorem sndI{α O:Type}{l:List α}{y o2:O}(h:some (([]:List α),y)=some (l,o2)):some y=some o2:=by cases h; rfl
theorem Qamy{α O:Type}{c : α → List V}{xs pre gq post:List (List V)}{l:List α}{y o2:O}{L L' : List Nat}(h:some ([],y)=some (l,o2))(hx:xs=pre++(l.map c++post))(hq:xs=gq++post)(hl:L=pre.length::L'):L=gq.length::L' := by
 cases h;have e1:xs.length=pre.length+post.length:=by rw[hx]; simp
 have e2:xs.length=gq.length+post.length:=by rw[hq]; simp
 rw[hl,show pre.length=gq.length by omega]
theorem Qamz{B:Nat×Nat}{N:Nat}{xs:List (List V)}{J G:Exit→St→Prop}(k:∀ e σ,J e σ → ∃ τ,Le B N σ τ ∧ G e τ)(s:∀ s' : S,s'.heap.length=B.1→s'.live.length=B.2→s'.live[0]? = some (xs.length+1)→G .ret ⟨[],s'⟩):∀ e σ,Qs B N xs J e σ → ∃ τ,Le B N σ τ ∧ G e τ := fun e σ h=>by
 rcases h with h | ⟨rfl,s', h1,h2,h3,h4⟩
 ·exact k e σ h
 ·exact⟨_,h1,s s' h2 h3 h4⟩
theorem Qaj4{α O:Type}{c : α → List V}{xs pre post:List (List V)}{x : α}{m:Option (List α × O)}{l:List α}{o2:O}{t:Nat}{ds:List D}{vs:List V}{s:S}{K:D→S→Prop}
  (h:(m>>=fun q=>some (x::q.1,q.2))=some (l,o2)) (hx:xs=pre++(l.map c++post)) (hl:LeL vs (c x)) (hu:unps ds=some vs) (hlive:s.live[t]? = some pre.length)
  (k1:∀ l', m=some (l', o2)→xs=(pre++[c x])++(l'.map c++post)→K (.p (.v (.bool true))) ⟨s.heap,s.live.set t (pre++[c x]).length⟩) (k2:K (.p (.v (.bool false))) ⟨s.heap,s.live.set t (xs.length+1)⟩) :
  true=true∧P=P∧Qai4 t xs ds s K:=by
 obtain⟨q,hm,hq⟩:=Option.bind_eq_some_iff.1 h;cases hq;have e:xs=(pre++[c x])++(q.1.map c++post):=by rw[hx]; simp
 refine⟨rfl,rfl,pre.length,c x,vs,hlive,?_,hu,.of_le hl,?_,k2⟩
 ·rw[hx]; simp
 ·have:=k1 q.1 hm e;rw[List.length_append] at this;exact this
theorem Qz3{α O R:Type}{c : α → List V}{xs pre post:List (List V)}{m:Option (List α × O)}{f:List α × O→Option (List α × R)}{l:List α}{o2:R}{φ : Prop}
  (h:(m>>=fun o=>f o>>=fun q=>some (o.1++q.1,q.2))=some (l,o2)) (hx:xs=pre++(l.map c++post))
  (k:∀ o l2 gq,m=some o→f o=some (l2,o2)→xs=pre++(o.1.map c++(l2.map c++post))→xs=gq++(l2.map c++post) → φ) : φ := by
 obtain⟨o,ho,hf⟩:=Option.bind_eq_some_iff.1 h;obtain⟨q,hq,he⟩:=Option.bind_eq_some_iff.1 hf;cases he;exact k o q.1 (pre++o.1.map c) ho hq (by rw[hx]; simp) (by rw[hx]; simp)
theorem Le.env0{B:Nat×Nat}{N:Nat}(σ : St):Le B N σ ⟨[],σ.s⟩:=⟨fun G _ w hR=>⟨G,.refl B G w,⟨hR.inv,fun t d h=>by simp at h,hR.size⟩⟩⟩
theorem Qao0{α R:Type}{l:List α}{n:Int}{len:Nat}{c : α → V}{te:TI}{cs:List V}{f : α → Option R}{r:R}{s:S}{K:D→S→Prop}(h:(idx l n>>=f)=some r)(hc:cs=l.map c)(hl:l.length=len)(hz:te.size=1)(ha:Qri te.d=false)
  (k:∀ x,idx l n=some x→f x=some r→K (.p (c x)) s):0≤n∧n<(len:Int)∧Q90 te (.p (.agg cs)) (n.toNat*te.size) s K:=by
 refine Qai h fun x hx hf=>?_
 have hk:=k x hx hf;unfold idx at hx;split at hx
 ·rename_i hi;have hlt:=(List.getElem?_eq_some_iff.1 hx).1;refine⟨hi,by omega,?_⟩;subst hc;unfold Q90;simp only[Qnj,ha,hz,Nat.mul_one];rw[List.getElem?_map,List.getElem?_map,hx];exact hk
 ·cases hx
end
theorem Q06{α R:Type}{l:List α}{i:Int}{c c' : α → List V}{f : α → Option R}{r:R}{sz tk v:Nat}{lv:List Nat}{K:List V→Prop}(h:(idx l i>>=f)=some r)(hl:lv[tk]? = some v)(hc:∀ x,c x=c' x)(hs:∀ x,(c' x).length=sz)(hz:0<sz)(k:∀ x,idx l i=some x→f x=some r→K (c' x)) :
  lv[tk]? = some v∧∃ cell,0≤i∧(l.map c)[i.toNat]? = some cell∧cell.length=sz∧0<sz∧K cell:=⟨hl,Qa2 h hc hs hz k⟩
theorem Qaq0{α : Type}{l:List α}{c : α → List V}{i:Nat}{x:List V}{y : α}(h:LeL x (c y)):LeLL ((l.map c).set i x) ((l.set i y).map c):=by
 refine⟨by simp,fun j e e' he he' => ?_⟩;rw[List.getElem?_map] at he';obtain⟨z,hz,rfl⟩:=Option.map_eq_some_iff.1 he';by_cases hij:i=j
 ·subst hij;have hlt:i<l.length:=by have:=(List.getElem?_eq_some_iff.1 hz).1; simpa using this
  rw[List.getElem?_set_self (by simpa using hlt)] at he;rw[List.getElem?_set_self hlt] at hz;cases he; cases hz;exact h
 ·rw[List.getElem?_set_ne hij,List.getElem?_map] at he;rw[List.getElem?_set_ne hij] at hz;rw[hz] at he;cases he;exact .refl _
theorem Q07{α R:Type}{bytes:Nat}{a b:List α}{c : α → List V}{fs:List (List V)}{sz tk v:Nat}{f:List α → Option R}{r:R}{lv:List Nat}{K:Nat→List (List V)→Prop}(h:(appL bytes a b>>=f)=some r)(hf:LeLL fs (b.map c))(hs:∀ x,(c x).length=sz)
  (hl:lv[tk]? = some v) (k:∀ o,appL bytes a b=some o→f o=some r→K (v+1) (o.map c)) :
  lv[tk]? = some v∧((∀ x ∈ fs,x.length=sz)∧((a.map c).length+fs.length)*bytes≤140737488355328∧(a.map c).length+fs.length≤9223372036854775807)∧∃ v', v<v' ∧ ∃ es', LeLL (a.map c++fs) es' ∧ K v' es' := by
 refine Qai h fun o ho hk=>?_
 obtain⟨h1,h2,h3,-⟩:=Qaf4 ho hf hs;exact⟨hl,h1,_,Nat.lt_succ_self v,_,h2,k o ho hk⟩
theorem Qam0{α R:Type}{bytes:Nat}{a b:List α}{c : α → List V}{fs:List (List V)}{sz tk v:Nat}{f:List α → Option R}{r:R}{lv:List Nat}{K:Nat→List (List V)→Prop}(h:(appL bytes a b>>=f)=some r)(hf:LeLL fs (b.map c))(hs:∀ x,(c x).length=sz)
  (hl:lv[tk]? = some v) (hv:v=a.length+1) (hb:0<b.length) (k:∀ o,appL bytes a b=some o→f o=some r→K (o.length+1) (o.map c)) :
  lv[tk]? = some v∧((∀ x ∈ fs,x.length=sz)∧((a.map c).length+fs.length)*bytes≤140737488355328∧(a.map c).length+fs.length≤9223372036854775807)∧∃ v', v<v' ∧ ∃ es', LeLL (a.map c++fs) es' ∧ K v' es' := by
 refine Qai h fun o ho hk=>?_
 obtain⟨h1,h2,h3,-⟩:=Qaf4 ho hf hs;have h4:o.length=a.length+b.length:=by
  have:=h2.1;have h5:=hf.1;simp only[List.length_append,List.length_map] at this h5;omega
 exact⟨hl,h1,_,by omega,_,h2,k o ho hk⟩
theorem Qaf8{α R:Type}{bytes:Nat}{a b:List α}{c : α → List V}{es fs:List (List V)}{sz:Nat}{f:List α → Option R}{r:R}{K:List (List V)→Prop}(h:(appL bytes a b>>=f)=some r)(he:LeLL es (a.map c))(hf:LeLL fs (b.map c))(hs:∀ x,(c x).length=sz)(hcl:a.length=0∨0<b.length)
  (k:∀ o,appL bytes a b=some o→f o=some r→K (o.map c)) :
  (es.length=0∨0<fs.length)∧(∀ x ∈ es,x.length=sz)∧((∀ x ∈ fs,x.length=sz)∧(es.length+fs.length)*bytes≤140737488355328∧es.length+fs.length≤9223372036854775807)∧∃ es', LeLL (es++fs) es' ∧ K es' := by
 obtain⟨h1,h2,h3,d', live,-⟩:=Qad8 (e:=0) (lv:=[]) (f:=f) (r:=r) (K:=fun _ _=>True) h he hf hs hcl fun _ _ _=>trivial
 refine Qai h fun o ho hk=>?_
 have h5:LeLL (es++fs) (o.map c):=by
  unfold appL at ho;split at ho
  ·cases ho; rw[List.map_append]; exact .app he hf
  ·cases ho
 exact⟨h1,h2,h3,_,h5,k o ho hk⟩
end Go.Proofs.YtfgegilhjlnohaaGreat
end

noncomputable section
namespace Go.Proofs.YtfgegilhjlnohaaGreat
open Go.RowKit
set_option linter.unusedSimpArgs false
set_option linter.unusedVariables false
abbrev mx:Nat:=9223372036854775807
@[simp] theorem Qa1 {α : Type} (l:List α) (i:Nat):idx l (i:Int)=l[i]? := by
 unfold idx;rw[if_pos (by omega)];rfl
theorem Qad9{α : Type}(l:List α)(n:Nat):idx l (OfNat.ofNat n:Int)=l[n]? := Qa1 l n
@[simp] theorem Qao1 {α : Type} (l:List α):idx l 0=l[0]? := Qa1 l 0
@[simp] theorem Qats {α : Type} (l:List α):idx l 1=l[1]? := Qa1 l 1
@[simp] theorem Qac {α β : Type} (x : α) (f : α → Option β):(some x>>=f)=f x:=rfl
theorem Qg1{n:Int}(h1 : -9223372036854775808≤n)(h2:n≤9223372036854775807):wr n=n:=w64 h1 h2
theorem Qa3{i:Nat}(h:i<9223372036854775807):wr ((i:Int)+1)=((i+1:Nat):Int):=by rw[Qg1 (by omega) (by omega)]; rfl
theorem Qes{α : Type}{bytes:Nat}{a b:List α}(h:(a.length+b.length)*bytes≤140737488355328)(h2:a.length+b.length≤9223372036854775807):appL bytes a b=some (a++b):=by
 unfold appL; rw[if_pos ⟨h,h2⟩]
theorem Qmq{α : Type}{l:List α}{lo hi:Int}(h1:0≤lo)(h2:lo≤hi)(h3:hi≤l.length):cutL l lo hi=some ((l.take hi.toNat).drop lo.toNat):=by
 unfold cutL; rw[if_pos ⟨h1,h2,h3⟩]
theorem Qru{p:Prop}[Decidable p](h:p):need p=some ():=by unfold need; rw[if_pos h]
theorem getE{α : Type}{l:List α}{i:Nat}(h:i<l.length):l[i]? = some l[i]:=List.getElem?_eq_getElem h
theorem ltI(a b:Nat):decide ((a:Int)<(b:Int))=decide (a<b):=by
 congr 1; exact propext Int.ofNat_lt
theorem upto {α : Type} {l : List α} {φ : Nat → Prop} (h0 : φ l.length) (h : ∀ i, i < l.length → φ (i + 1) → φ i) : ∀ i, i ≤ l.length → φ i := by
  have key : ∀ n i, l.length - i = n → i ≤ l.length → φ i := by
    intro n
    induction n with
    | zero => intro i h1 h2; have : i = l.length := by omega
              subst this; exact h0
    | succ n ih => intro i h1 h2; exact h i (by omega) (ih (i + 1) (by omega) (by omega))
  exact fun i hi => key _ i rfl hi
theorem Qcc{α : Type}{l:List α}{i:Nat}(h:i<l.length):l.drop i=l[i]::l.drop (i+1):=List.drop_eq_getElem_cons h
end Go.Proofs.YtfgegilhjlnohaaGreat
end
