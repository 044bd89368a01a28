/- The proof's texts, part 6 of 11: the walks by a logic in which data are by value, the plain laws, and at the end the law, for every input. -/
import Derived.Test.YtfgegilhjlnohaaGreatMgCallsOrders5
import Derived.Test.YtfgegilhjlnohaaGreatRows
import Derived.WalkKit
import Derived.WalkSpells
import Derived.RegionTactic
import Derived.ChangeAlike
import Derived.StillTailTactics
import Derived.Deep.QuietTactic
import Derived.BigQuiet
import Derived.Lib.Hide
import Derived.Deep.DeepFit
import Derived.Lib.Strings
import Derived.WalkSmall

section
namespace Go.Proofs.YtfgegilhjlnohaaGreat
open Go.RowKit
section
variable {P:Program} {tb:Tbl}
def lexOkX (p q:Nat) (hvl:List Nat) (ops:List Oper):Bool :=
 let an:=ancsGo ops []
 (List.range ops.length).all fun i=>match ops[i]? with
  | some o=>o.after.toList.all (fun e => !Region.binds .any e||decide (e.on<i))&&(List.range i).all fun a=>(a==p&&i==q)||(an.getD i []).contains a||indep2 hvl ops a i
  | none=>true
theorem Qmo {p q:Nat} {hvl:List Nat} {ops:List Oper} (h:lexOkX p q hvl ops=true) {i:Nat} {o:Oper} (ho:ops[i]? = some o):(∀ e ∈ o.after,Region.binds .any e=true→e.on<i) ∧
  ∀ a,a<i→(a=p∧i=q)∨Reach ops a i∨indep2 hvl ops a i=true:=by
 unfold lexOkX at h
 rw[List.all_eq_true] at h
 have:=h i (List.mem_range.2 (List.getElem?_eq_some_iff.1 ho).1)
 simp only[ho,Bool.and_eq_true,List.all_eq_true,Bool.or_eq_true,List.mem_range,List.contains_iff_mem,beq_iff_eq] at this
 obtain⟨h1,h2⟩:=this
 refine⟨fun e he hb=>?_,fun a ha=>?_⟩
 ·have:=h1 e (by simpa using he)
  simpa [hb] using this
 ·rcases h2 a ha with (h | h) | h
  ·exact .inl h
  ·cases hq:(ancsGo ops [])[i]? with
   | none=>simp[List.getD,hq] at h
   | some l =>
    simp[List.getD,hq] at h
    exact .inr (.inl (Qj3 ops [] [] rfl rfl (fun i l a h=>by simp at h) i l a hq h))
  ·exact .inr (.inr h)
def reachB (p:Nat) (ops:List Oper):Bool :=
 let an:=ancsGo ops []
 (List.range (ops.length-(p+2))).all fun k=>(an.getD (k+(p+2)) []).contains p
theorem Q3v {p:Nat} {ops:List Oper} (h:reachB p ops=true):∀ x,p+2≤x→x<ops.length→Reach ops p x:=fun x h1 h2=>by
 unfold reachB at h
 rw[List.all_eq_true] at h
 have:=h (x-(p+2)) (List.mem_range.2 (by omega))
 rw[show x-(p+2)+(p+2)=x by omega,List.contains_iff_mem] at this
 cases hq:(ancsGo ops [])[x]? with
 | none=>simp[List.getD,hq] at this
 | some l =>
  simp[List.getD,hq] at this
  exact Qj3 ops [] [] rfl rfl (fun i l a h=>by simp at h) x l p hq this
theorem Qy2 {base:Nat} {hvl:List Nat} {N:Nat} {ops:List Oper} {K:St→Prop}:∀ {A B:List Nat} {σ : St},dOps base hvl P tb N ops (A++B) σ K↔dOps base hvl P tb N ops A σ (fun τ => dOps base hvl P tb N ops B τ K)
 | [],_,_=>Iff.rfl
 | a::A,B,σ => by
  show dOne base hvl P tb N ops a σ (fun τ => dOps base hvl P tb N ops (A++B) τ K)↔dOne base hvl P tb N ops a σ (fun τ => dOps base hvl P tb N ops A τ fun τ => dOps base hvl P tb N ops B τ K)
  have:(fun τ => dOps base hvl P tb N ops (A++B) τ K)=(fun τ => dOps base hvl P tb N ops A τ fun τ => dOps base hvl P tb N ops B τ K):=funext fun τ => propext Qy2
  rw[this]
theorem Quk {base:Nat} {hvl:List Nat} {N:Nat} {ops:List Oper} {K K' : St→Prop}:∀ {A:List Nat} {σ : St},base ≤ σ.s.heap.length→(∀ τ,base ≤ τ.s.heap.length→K τ → K' τ)→dOps base hvl P tb N ops A σ K→dOps base hvl P tb N ops A σ K'
 | [],σ,hb,hk,h=>hk σ hb h
 | a::A,σ,hb,hk,h=>Qfy hb (fun τ h1 h2=>Quk h1 hk h2) h
theorem Q1r (listed:Array Bool):∀ n:Nat,(∃ x,x<n∧listed.getD x true=false)→∃ x,x<n∧listed.getD x true=false∧∀ y,y<x→listed.getD y true=true
 | 0,⟨x,h,_⟩=>by omega
 | n+1,⟨x,h1,h2⟩=>by
  by_cases h:∃ x,x<n∧listed.getD x true=false
  ·obtain⟨y,h3,h4,h5⟩:=Q1r listed n h
   exact⟨y,by omega,h4,h5⟩
  ·have hall:∀ y,y<n→listed.getD y true=true:=fun y hy=>by
    cases hq:listed.getD y true with
    | true=>rfl
    | false=>exact(h ⟨y,hy,hq⟩).elim
   have hxn:x=n:=by
    by_cases hx:x<n
    ·rw[hall x hx] at h2; cases h2
    ·omega
   subst hxn
   exact⟨x,by omega,h2,hall⟩
theorem Q9m {n:Nat} {listed:Array Bool} {i:Nat} (hs:listed.size=n) (hi:i<n) {ord A B:List Nat} (hnd:ord.Nodup) (h:(ord.filter fun i => !listed.getD i true)=A++i::B):(ord.filter fun k => !(listed.setIfInBounds i true).getD k true)=A++B:=by
 have e1:(ord.filter fun k => !(listed.setIfInBounds i true).getD k true)=(ord.filter fun k => !listed.getD k true).filter fun k=>k != i:=by
  rw[List.filter_filter]
  apply List.filter_congr
  intro k hk
  by_cases hki:k=i
  ·subst hki
   have hks:k<listed.size:=by omega
   simp[Array.getD_eq_getD_getElem?,hks]
  ·rw[getD_set_ne true (fun e=>hki e.symm)]
   simp[hki]
 rw[e1,h]
 have hnd:(A++i::B).Nodup:=by
  rw[← h]; exact List.Pairwise.filter _ hnd
 rw[List.nodup_append] at hnd
 obtain⟨n1,n2,n3⟩:=hnd
 rw[List.nodup_cons] at n2
 rw[List.filter_append,List.filter_cons]
 simp only[bne_self_eq_false,Bool.false_eq_true,if_false]
 congr 1
 ·exact List.filter_eq_self.2 fun x hx=>by
   have:=n3 x hx i (by simp)
   simpa using this
 ·exact List.filter_eq_self.2 fun x hx=>by
   have:x≠i:=fun e=>n2.1 (e ▸ hx)
   simpa using this
theorem Qul {n p:Nat} (h:p+2≤n):List.range n=List.range p++(p::(p+1)::(List.range (n-(p+2))).map (· + (p+2))):=by
 apply List.ext_getElem?
 intro k
 by_cases h1:k<p
 ·rw[List.getElem?_append_left (by simpa using h1),List.getElem?_range h1,List.getElem?_range (by omega)]
 ·rw[List.getElem?_append_right (by simpa using h1),List.length_range]
  rcases (by omega:k=p∨k=p+1∨p+2≤k) with rfl | rfl | h2
  ·rw[List.getElem?_range (by omega)]; simp
  ·rw[List.getElem?_range (by omega),show p+1-p=1 by omega]; rfl
  ·obtain⟨m,rfl⟩:∃ m,k=m+(p+2):=⟨k-(p+2),by omega⟩
   rw[show m+(p+2)-p=m+1+1 by omega,List.getElem?_cons_succ,List.getElem?_cons_succ,List.getElem?_map]
   by_cases h3:m+(p+2)<n
   ·rw[List.getElem?_range h3,List.getElem?_range (by omega)]; rfl
   ·rw[List.getElem?_eq_none (by simpa using h3),List.getElem?_eq_none (by simp; omega)]; rfl
def both (base:Nat) (hvl:List Nat) (P:Program) (tb:Tbl) (N:Nat) (ops:List Oper) (p:Nat) (K:St→Prop) (σ : St):Prop :=
 base ≤ σ.s.heap.length∧dOps base hvl P tb N ops (p::(p+1)::(List.range (ops.length-(p+2))).map (· + (p+2))) σ K∧dOps base hvl P tb N ops ((p+1)::p::(List.range (ops.length-(p+2))).map (· + (p+2))) σ K
theorem Q3w {base:Nat} {hvl:List Nat} {N:Nat} {ops:List Oper} {p:Nat} {K:St→Prop} (hK:Closed K):Closed (both base hvl P tb N ops p K):=fun σ τ he ⟨h0,h1,h2⟩ =>
 ⟨by rw[← he.2]; exact h0,Qtt hK _ σ τ h0 he h1,Qtt hK _ σ τ h0 he h2⟩
theorem Qum (hT:TblOk P tb) {rd:Option Nat} {base:Nat} {hvl:List Nat} {N:Nat} {ops:List Oper} {p q:Nat} (hl:lexOkX p q hvl ops=true) {Q:Exit→Act→World→Prop} {K:St→Prop} (hK:Closed K) {B:Nat×Nat} {G0:Gh} {w0:World} {ds:List Deferred} (hQ:∀ a w G σ,Ex B G0 w0 G w→Rel N G σ a w→a.defers=ds→K σ → Q .normal a w) :
  ∀ (fuel:Nat) (listed:Array Bool) (σ : St) (a:Act) (w:World) (G:Gh),listed.size=ops.length→Down ops listed→(listed.getD p false=true∨listed.getD q false=true)→((List.range ops.length).filter fun i => !listed.getD i true).length=fuel→Ex B G0 w0 G w→Rel N G σ a w→a.defers=ds→base ≤ σ.s.heap.length →
   dOps base hvl P tb N ops ((List.range ops.length).filter fun i => !listed.getD i true) σ K→wpAnyIn (FW rd) 0 P .any ops.toArray Q fuel listed a w
 | 0,listed,σ,a,w,G,hs,hdn,hpq,hf,hE,hR,hd,hbs,h=>by
  have hnil:=List.eq_nil_of_length_eq_zero hf
  rw[hnil] at h
  refine⟨?_,hQ a w G σ hE hR hd h⟩
  apply List.eq_nil_iff_forall_not_mem.2
  intro i hi
  obtain⟨h1,o,ho,-⟩:=mem_ready.1 hi
  have:i ∈ (List.range ops.length).filter fun i => !listed.getD i true:=by
   rw[List.mem_filter,List.mem_range]
   exact⟨by have:=(Array.getElem?_eq_some_iff.1 ho).1; simpa using this,by rw[h1]; rfl⟩
  rw[hnil] at this
  cases this
 | fuel+1,listed,σ,a,w,G,hs,hdn,hpq,hf,hE,hR,hd,hbs,h=>by
  refine⟨fun hr=>?_,fun i hi=>?_⟩
  ·exfalso
   generalize hL:((List.range ops.length).filter fun i => !listed.getD i true)=L at hf
   cases L with
   | nil=>simp at hf
   | cons x r =>
    have hx:x ∈ (List.range ops.length).filter fun i => !listed.getD i true:=by rw[hL]; simp
    rw[List.mem_filter,List.mem_range] at hx
    obtain⟨hx1,hx2⟩:=hx
    have ho:ops[x]? = some ops[x]:=List.getElem?_eq_getElem hx1
    have hmem:x ∈ Region.ready .any ops.toArray listed:=by
     refine mem_ready.2 ⟨by simpa using hx2,ops[x],by simp,fun e he hb=>?_⟩
     have hlt:=(Qmo hl ho).1 e he hb
     cases hg:listed.getD e.on false
     ·exfalso
      have hmm:e.on ∈ (List.range ops.length).filter fun i => !listed.getD i true:=by
       rw[List.mem_filter,List.mem_range]
       refine⟨by omega,?_⟩
       have hlt2:e.on<listed.size:=by omega
       simp only[Array.getD_eq_getD_getElem?,Array.getElem?_eq_getElem hlt2,Option.getD_some] at hg ⊢
       simp[hg]
      have hsorted:((List.range ops.length).filter fun i => !listed.getD i true).Pairwise (· < ·):=List.Pairwise.filter _ List.pairwise_lt_range
      rw[hL] at hmm hsorted
      rcases List.mem_cons.1 hmm with h0 | h0
      ·omega
      ·have:=List.rel_of_pairwise_cons hsorted h0; omega
     ·rfl
    rw[hr] at hmem
    cases hmem
  ·obtain⟨h1,o,ho,hp⟩:=mem_ready.1 hi
   have ho' : ops[i]? = some o:=by simpa using ho
   have hil:i<ops.length:=(List.getElem?_eq_some_iff.1 ho').1
   have him:i ∈ (List.range ops.length).filter fun i => !listed.getD i true:=by
    rw[List.mem_filter,List.mem_range]; exact⟨hil,by rw[h1]; rfl⟩
   have hsorted:((List.range ops.length).filter fun i => !listed.getD i true).Pairwise (· < ·):=List.Pairwise.filter _ List.pairwise_lt_range
   obtain⟨A,B,hAB⟩:=List.append_of_mem him
   have hA:∀ x ∈ A,x<i∧listed.getD x true=false:=fun x hx=>by
    refine⟨?_,?_⟩
    ·rw[hAB] at hsorted
     exact(List.pairwise_append.1 hsorted).2.2 x hx i (by simp)
    ·have:x ∈ (List.range ops.length).filter fun i => !listed.getD i true:=by rw[hAB]; simp[hx]
     rw[List.mem_filter] at this
     simpa using this.2
   rw[hAB] at h
   have hfront:=Qhp hK A σ hbs (fun x hx=>by
    obtain⟨hx1,hx2⟩:=hA x hx
    rcases (Qmo hl ho').2 x hx1 with ⟨rfl,rfl⟩ | hre | h0
    ·exfalso
     have hlt2:x<listed.size:=by omega
     have hlt3:i<listed.size:=by omega
     simp only[Array.getD_eq_getD_getElem?,Array.getElem?_eq_getElem hlt2,Array.getElem?_eq_getElem hlt3,Option.getD_some] at hx2 h1 hpq
     rcases hpq with h0 | h0
     ·rw[hx2] at h0; cases h0
     ·rw[h1] at h0; cases h0
    ·have:=hdn.reach hs hre fun o2 ho2 e he hb=>by
      rw[ho'] at ho2
      cases ho2
      exact hp e he hb
     have hlt2:x<listed.size:=by omega
     simp only[Array.getD_eq_getD_getElem?,Array.getElem?_eq_getElem hlt2,Option.getD_some] at this hx2
     rw[this] at hx2; cases hx2
    ·exact h0) h
   have hnew:((List.range ops.length).filter fun k => !(listed.setIfInBounds i true).getD k true)=A++B:=by
    have e1:((List.range ops.length).filter fun k => !(listed.setIfInBounds i true).getD k true)=((List.range ops.length).filter fun k => !listed.getD k true).filter fun k=>k != i:=by
     rw[List.filter_filter]
     apply List.filter_congr
     intro k hk
     by_cases hki:k=i
     ·subst hki
      have hks:k<listed.size:=by omega
      simp[Array.getD_eq_getD_getElem?,hks]
     ·rw[getD_set_ne true (fun e=>hki e.symm)]
      simp[hki]
    rw[e1,hAB]
    have hnd:(A++i::B).Nodup:=by
     rw[← hAB]; exact List.Pairwise.filter _ List.nodup_range
    rw[List.nodup_append] at hnd
    obtain⟨n1,n2,n3⟩:=hnd
    rw[List.nodup_cons] at n2
    rw[List.filter_append,List.filter_cons]
    simp only[bne_self_eq_false,Bool.false_eq_true,if_false]
    congr 1
    ·exact List.filter_eq_self.2 fun x hx=>by
      have:=n3 x hx i (by simp)
      simpa using this
    ·exact List.filter_eq_self.2 fun x hx=>by
      have:x≠i:=fun e=>n2.1 (e ▸ hx)
      simpa using this
   refine Qjv hT hR hbs ((Qfy hbs (K' := fun τ => base ≤ τ.s.heap.length∧dOps base hvl P tb N ops (A++B) τ K) (fun τ h1 h2=>⟨h1,h2⟩) hfront)) fun a' w' G' σ' s1 r1 d1 k1=>?_
   have hdn' : Down ops (listed.setIfInBounds i true):=fun k o2 ho2 hk e he hb=>by
    refine getD_set_true ?_
    by_cases hki:k=i
    ·subst hki
     rw[ho'] at ho2
     cases ho2
     exact hp e he hb
    ·rw[getD_set_ne true (fun e=>hki e.symm)] at hk
     exact hdn k o2 ho2 hk e he hb
   refine Qum hT hl hK hQ fuel _ σ' a' w' G' (by simp[hs]) hdn' (hpq.imp getD_set_true getD_set_true) ?_ (hE.trans (s1.ex _)) r1 (d1.trans hd) k1.1 ?_
   ·rw[hnew]
    rw[hAB] at hf
    simp at hf ⊢; omega
   ·rw[hnew]; exact k1.2
theorem Qx6 (hT:TblOk P tb) {rd:Option Nat} {base:Nat} {hvl:List Nat} {N:Nat} {ops:List Oper} {p:Nat} (hl:lexOkX p (p+1) hvl ops=true) (hpn:p+1<ops.length) (hRe:∀ x,p+2≤x→x<ops.length→Reach ops p x) {Q:Exit→Act→World→Prop} {K:St→Prop} (hK:Closed K) {B:Nat×Nat} {G0:Gh} {w0:World} {ds:List Deferred} (hQ:∀ a w G σ,Ex B G0 w0 G w→Rel N G σ a w→a.defers=ds→K σ → Q .normal a w) :
  ∀ (fuel:Nat) (listed:Array Bool) (σ : St) (a:Act) (w:World) (G:Gh),listed.size=ops.length→Down ops listed→(∀ x,p≤x→x<ops.length→listed.getD x true=false)→((List.range p).filter fun i => !listed.getD i true).length+(ops.length-p)=fuel→Ex B G0 w0 G w→Rel N G σ a w→a.defers=ds→base ≤ σ.s.heap.length →
   dOps base hvl P tb N ops ((List.range p).filter fun i => !listed.getD i true) σ (both base hvl P tb N ops p K)→wpAnyIn (FW rd) 0 P .any ops.toArray Q fuel listed a w
 | 0,listed,σ,a,w,G,hs,hdn,hun,hf,hE,hR,hd,hbs,h=>by omega
 | fuel+1,listed,σ,a,w,G,hs,hdn,hun,hf,hE,hR,hd,hbs,h=>by
  refine⟨fun hr=>?_,fun i hi=>?_⟩
  ·exfalso
   obtain⟨x,hx1,hx2,hx3⟩:=Q1r listed ops.length ⟨p,by omega,hun p (Nat.le_refl _) (by omega)⟩
   have ho:ops[x]? = some ops[x]:=List.getElem?_eq_getElem hx1
   have hmem:x ∈ Region.ready .any ops.toArray listed:=by
    refine mem_ready.2 ⟨hx2,ops[x],by simp,fun e he hb=>?_⟩
    have hlt:=(Qmo hl ho).1 e he hb
    have h3:=hx3 e.on hlt
    have hlt2:e.on<listed.size:=by omega
    simp only[Array.getD_eq_getD_getElem?,Array.getElem?_eq_getElem hlt2,Option.getD_some] at h3 ⊢
    exact h3
   rw[hr] at hmem
   cases hmem
  ·obtain⟨h1,o,ho,hp⟩:=mem_ready.1 hi
   have ho' : ops[i]? = some o:=by simpa using ho
   have hil:i<ops.length:=(List.getElem?_eq_some_iff.1 ho').1
   have hdn' : Down ops (listed.setIfInBounds i true):=fun k o2 ho2 hk e he hb=>by
    refine getD_set_true ?_
    by_cases hki:k=i
    ·subst hki
     rw[ho'] at ho2
     cases ho2
     exact hp e he hb
    ·rw[getD_set_ne true (fun e=>hki e.symm)] at hk
     exact hdn k o2 ho2 hk e he hb
   have ind:∀ x,x<i→listed.getD x true=false→(x=p→i=p+1→False)→indep2 hvl ops x i=true:=fun x hx1 hx2 hne=>by
    rcases (Qmo hl ho').2 x hx1 with ⟨h0,h2⟩ | hre | h0
    ·exact(hne h0 h2).elim
    ·have:=hdn.reach hs hre fun o2 ho2 e he hb=>by
      rw[ho'] at ho2
      cases ho2
      exact hp e he hb
     have hlt2:x<listed.size:=by omega
     simp only[Array.getD_eq_getD_getElem?,Array.getElem?_eq_getElem hlt2,Option.getD_some] at this hx2
     rw[this] at hx2; cases hx2
    ·exact h0
   have hset:∀ x,x≠i→(listed.setIfInBounds i true).getD x true=listed.getD x true:=fun x hx=>getD_set_ne true (fun e=>hx e.symm)
   have hsetF:(listed.setIfInBounds i true).getD i false=true:=by
    have:i<listed.size:=by omega
    simp[Array.getD_eq_getD_getElem?,this]
   have hsetT:(listed.setIfInBounds i true).getD i true=true:=by
    have:i<listed.size:=by omega
    simp[Array.getD_eq_getD_getElem?,this]
   rcases (by omega:i<p∨i=p∨i=p+1∨p+2≤i) with hip | rfl | rfl | hip
   ·
    have him:i ∈ (List.range p).filter fun i => !listed.getD i true:=by
     rw[List.mem_filter,List.mem_range]; exact⟨hip,by rw[h1]; rfl⟩
    have hsorted:((List.range p).filter fun i => !listed.getD i true).Pairwise (· < ·):=List.Pairwise.filter _ List.pairwise_lt_range
    obtain⟨A,B,hAB⟩:=List.append_of_mem him
    have hA:∀ x ∈ A,x<i∧listed.getD x true=false:=fun x hx=>by
     refine⟨?_,?_⟩
     ·rw[hAB] at hsorted
      exact(List.pairwise_append.1 hsorted).2.2 x hx i (by simp)
     ·have:x ∈ (List.range p).filter fun i => !listed.getD i true:=by rw[hAB]; simp[hx]
      rw[List.mem_filter] at this
      simpa using this.2
    rw[hAB] at h
    have hfront:=Qhp (Q3w hK) A σ hbs (fun x hx=>ind x (hA x hx).1 (hA x hx).2 fun e _=>by have:=(hA x hx).1; omega) h
    have hnew:((List.range p).filter fun k => !(listed.setIfInBounds i true).getD k true)=A++B:=Q9m hs hil List.nodup_range hAB
    refine Qjv hT hR hbs ((Qfy hbs (K' := fun τ => base ≤ τ.s.heap.length∧dOps base hvl P tb N ops (A++B) τ (both base hvl P tb N ops p K)) (fun τ h1 h2=>⟨h1,h2⟩) hfront)) fun a' w' G' σ' s1 r1 d1 k1=>?_
    refine Qx6 hT hl hpn hRe hK hQ fuel _ σ' a' w' G' (by simp[hs]) hdn' (fun x hx1 hx2=>by rw[hset x (by omega)]; exact hun x hx1 hx2) ?_ (hE.trans (s1.ex _)) r1 (d1.trans hd) k1.1 ?_
    ·rw[hnew]
     rw[hAB] at hf
     simp at hf ⊢; omega
    ·rw[hnew]; exact k1.2
   ·
    have h' : dOps base hvl P tb N ops (((List.range i).filter fun k => !listed.getD k true)++i::((i+1)::(List.range (ops.length-(i+2))).map (· + (i+2)))) σ K:=Qy2.2 (Quk hbs (fun τ _ hτ => hτ.2.1) h)
    have hfront:=Qhp hK _ σ hbs (fun x hx=>by
     rw[List.mem_filter,List.mem_range] at hx
     exact ind x hx.1 (by simpa using hx.2) fun e=>by have:=hx.1; omega) h'
    have hnew:((List.range ops.length).filter fun k => !(listed.setIfInBounds i true).getD k true)=((List.range i).filter fun k => !listed.getD k true)++((i+1)::(List.range (ops.length-(i+2))).map (· + (i+2))):=by
     rw[Qul (show i+2≤ops.length by omega),List.filter_append,List.filter_cons,List.filter_cons]
     rw[if_neg (by rw[hsetT]; simp),if_pos (by rw[hset _ (by omega),hun _ (by omega) (by omega)]; rfl)]
     congr 1
     ·exact List.filter_congr fun k hk=>by rw[hset k (by have:=List.mem_range.1 hk; omega)]
     ·congr 1
      refine List.filter_eq_self.2 fun k hk=>?_
      obtain⟨y,hy,rfl⟩:=List.mem_map.1 hk
      have:=List.mem_range.1 hy
      rw[hset _ (by omega),hun _ (by omega) (by omega)]; rfl
    refine Qjv hT hR hbs ((Qfy hbs (K' := fun τ => base ≤ τ.s.heap.length∧dOps base hvl P tb N ops _ τ K) (fun τ h1 h2=>⟨h1,h2⟩) hfront)) fun a' w' G' σ' s1 r1 d1 k1=>?_
    refine Qum hT hl hK hQ fuel _ σ' a' w' G' (by simp[hs]) hdn' (.inl hsetF) ?_ (hE.trans (s1.ex _)) r1 (d1.trans hd) k1.1 ?_
    ·rw[hnew]
     simp at hf ⊢; omega
    ·rw[hnew]; exact k1.2
   ·
    have h' : dOps base hvl P tb N ops (((List.range p).filter fun k => !listed.getD k true)++(p+1)::(p::(List.range (ops.length-(p+2))).map (· + (p+2)))) σ K:=Qy2.2 (Quk hbs (fun τ _ hτ => hτ.2.2) h)
    have hfront:=Qhp hK _ σ hbs (fun x hx=>by
     rw[List.mem_filter,List.mem_range] at hx
     exact ind x (by have:=hx.1; omega) (by simpa using hx.2) fun e=>by have:=hx.1; omega) h'
    have hnew:((List.range ops.length).filter fun k => !(listed.setIfInBounds (p+1) true).getD k true)=((List.range p).filter fun k => !listed.getD k true)++(p::(List.range (ops.length-(p+2))).map (· + (p+2))):=by
     rw[Qul (show p+2≤ops.length by omega),List.filter_append,List.filter_cons,List.filter_cons]
     rw[if_pos (by rw[hset _ (by omega),hun _ (by omega) (by omega)]; rfl),if_neg (by rw[hsetT]; simp)]
     congr 1
     ·exact List.filter_congr fun k hk=>by rw[hset k (by have:=List.mem_range.1 hk; omega)]
     ·congr 1
      refine List.filter_eq_self.2 fun k hk=>?_
      obtain⟨y,hy,rfl⟩:=List.mem_map.1 hk
      have:=List.mem_range.1 hy
      rw[hset _ (by omega),hun _ (by omega) (by omega)]; rfl
    refine Qjv hT hR hbs ((Qfy hbs (K' := fun τ => base ≤ τ.s.heap.length∧dOps base hvl P tb N ops _ τ K) (fun τ h1 h2=>⟨h1,h2⟩) hfront)) fun a' w' G' σ' s1 r1 d1 k1=>?_
    refine Qum hT hl hK hQ fuel _ σ' a' w' G' (by simp[hs]) hdn' (.inr hsetF) ?_ (hE.trans (s1.ex _)) r1 (d1.trans hd) k1.1 ?_
    ·rw[hnew]
     simp at hf ⊢; omega
    ·rw[hnew]; exact k1.2
   ·exfalso
    have:=hdn.reach hs (hRe i hip hil) fun o2 ho2 e he hb=>by
     rw[ho'] at ho2
     cases ho2
     exact hp e he hb
    have h3:=hun p (Nat.le_refl _) (by omega)
    have hlt2:p<listed.size:=by omega
    simp only[Array.getD_eq_getD_getElem?,Array.getElem?_eq_getElem hlt2,Option.getD_some] at this h3
    rw[this] at h3; cases h3
end
end Go.Proofs.YtfgegilhjlnohaaGreat
end

section
namespace Go.Proofs.YtfgegilhjlnohaaGreat
open Go.RowKit
section
variable {P:Program} {tb:Tbl}
def pCall (P:Program) (c:Call) (e:Operand→Option D) (s:S) (K:D→S→Prop) (KP:S→Prop):Prop :=
 match c.callee with
 | .value f=>match e f,evs e c.args.toList with
  | some (.fn (.func g) first cap),some ds=>(∃ r s', CallC true P g ((first++ds++cap).map dn) s r s' ∧ K r s')∨(∃ s', CallPan P g ((first++ds++cap).map dn) s s' ∧ KP s')
  | _,_=>False
 | _=>False
theorem Q3x {rd:Option Nat} {N:Nat} {G:Gh} {σ : St} {a:Act} {w:World} (hR:Rel N G σ a w) {o:Oper} {c:Call} (ho:isCall o.op=some c) {e:Operand→Option D} (hev:∀ x d,e x=some d→DRel G w d (a.eval x)) {K:D→S→Prop} {KP:S→Prop} (h:pCall P c e σ.s K KP)
  {next:Act→World→Prop} {Q:Exit→Act→World→Prop} (hn:∀ u w' G' d s', Stp G w G' w' → Inv G' s' w' → DRel G' w' d u→K d s' → next (a.put o.dst u) w')
  (hp:∀ w' G' s', Stp G w G' w' → Inv G' s' w' → KP s' → Q (.panic panCH) a w'):o.wpIn (FW rd) 0 P a w next Q:=by
 have hoc:o.op = .call c:=by
  cases hop:o.op with
  | call c' =>
   rw[hop] at ho
   simp only[isCall] at ho
   split at ho
   ·cases ho; rfl
   ·cases ho
  | _=>rw[hop] at ho; cases ho
 unfold pCall at h
 split at h
 ·rename_i f hc
  split at h
  ·rename_i g first cap ds hf hds
   rcases h with ⟨r,s', hcall,hK⟩ | ⟨s', hcall,hK⟩
   ·exact Qt9 hR ho hev (gn:=true) (K:=K) (by
     unfold aCall
     rw[hc]
     simp only[hf,hds]
     exact⟨r,s', hcall,hK⟩) hn
   ·have hfv:∃ us vs,a.eval f = .func (.func g) us vs∧us.size=first.length∧vs.size=cap.length∧(∀ (j:Nat) c u,first[j]? = some c→us[j]? = some u→DRel G w c u)∧(∀ (j:Nat) c u,cap[j]? = some c→vs[j]? = some u→DRel G w c u):=by
     have:=hev f _ hf
     generalize a.eval f=q at this
     cases this with
     | fn _ _ _ us vs h1 h2 h3 h4=>exact⟨us,vs,rfl,h1.symm,h2.symm,h3,h4⟩
    obtain⟨us,vs,hfv,l1,l2,k1,k2⟩:=hfv
    obtain⟨e1,e2⟩:=Qfw hev _ _ hds
    have hrun:(execOp a.eval o).run P w = .ok (.enter g (us++c.args.map a.eval++vs)) w:=by
     unfold execOp
     simp only[hoc]
     simp[resolve,hc,hfv,Deferred.ofValue,invoke,Qnv hcall.fn]
    refine Qmm (by rw[hoc]; intro c; simp) ?_
    rw[hrun,Oper.uponIn_enter]
    refine⟨FW_n _,Qql ?_⟩
    refine(hcall.out G w (us++c.args.map a.eval++vs) hR.inv (by simp[l1,l2,e1]) (fun j d u hd hu=>?_)).mono fun en w' ⟨u,G', he,h1,h2,h3⟩=>?_
    ·rw[List.getElem?_map] at hd
     obtain⟨d0,hd0,rfl⟩:=Option.map_eq_some_iff.1 hd
     refine Q85 ?_
     have hsz:(c.args.map a.eval).size=ds.length:=by simp[e1]
     by_cases hj:j<first.length+ds.length
     ·rw[List.getElem?_append_left (by simpa using hj)] at hd0
      rw[Array.getElem?_append_left (by simp[l1]; simp at hsz; omega)] at hu
      by_cases hj2:j<first.length
      ·rw[List.getElem?_append_left hj2] at hd0
       rw[Array.getElem?_append_left (by omega)] at hu
       exact k1 j d0 u hd0 hu
      ·rw[List.getElem?_append_right (by omega)] at hd0
       rw[Array.getElem?_append_right (by omega),l1] at hu
       exact e2 _ d0 u hd0 (by simpa using hu)
     ·rw[List.getElem?_append_right (by simp; omega)] at hd0
      rw[Array.getElem?_append_right (by simp[l1]; simp at hsz; omega)] at hu
      simp only[List.length_append] at hd0
      simp only[Array.size_append,l1,hsz] at hu
      exact k2 _ d0 u hd0 hu
    ·subst he
     exact hp w' G' s' h1 h2 hK
  ·exact h.elim
 ·exact h.elim
def pOne (P:Program) (N:Nat) (ops:List Oper) (i:Nat) (σ : St) (K KP:St→Prop):Prop :=
 match ops[i]? with
 | none=>K σ
 | some o=>match aWant ops σ.env o.guard with
  | some true=>match isCall o.op with
   | some c=>pCall P c (ev σ.env) σ.s (fun d s' => splitB (isGuard ops i) d fun d=>putE N σ.env o.dst d fun env' => K ⟨env', s'⟩) fun s' => KP ⟨σ.env,s'⟩
   | none=>False
  | some false=>putE N σ.env o.dst .undef fun env' => K ⟨env', σ.s⟩
  | none=>False
def pOps (pk mk:List Nat) (P:Program) (tb:Tbl) (N:Nat) (ops:List Oper) (KP:St→Prop):List Nat→St→(St→Prop)→Prop
 | [],σ,K=>K σ
 | i::r,σ,K=>match pk.contains i with
  | true=>pOne P N ops i σ (fun σ' => pOps pk mk P tb N ops KP r σ' K) KP
  | false=>match homeOf mk i with
   | some hm=>xOne tb N ops i hm σ fun σ' => pOps pk mk P tb N ops KP r σ' K
   | none=>bOne true P tb N ops i σ fun σ' => pOps pk mk P tb N ops KP r σ' K
theorem Qx7 {rd:Option Nat} {N:Nat} {G:Gh} {σ : St} {a:Act} {w:World} (hR:Rel N G σ a w) {ops:List Oper} {i:Nat} {K KP:St→Prop} (h:pOne P N ops i σ K KP)
  {next:Act→World→Prop} {Q:Exit→Act→World→Prop} (hn:∀ a' w' G' σ', Stp G w G' w' → Rel N G' σ' a' w' → a'.defers=a.defers→K σ' → next a' w')
  (hp:∀ w' G' σ', Stp G w G' w' → Rel N G' σ' a w' → KP σ' → Q (.panic panCH) a w'):wpOpIn (FW rd) 0 P ops.toArray Q i next a w:=by
 unfold pOne at h
 unfold wpOpIn
 split at h
 ·rename_i ho
  simp only[List.getElem?_toArray,ho]
  exact hn a w G σ (.refl G w) hR rfl h
 ·rename_i o ho
  simp only[List.getElem?_toArray,ho]
  split at h
  ·rename_i hw
   rw[if_pos (Qip hR ops o true hw)]
   split at h
   ·rename_i c hc
    refine Q3x hR hc (Qso hR.env) h (fun u w' G' d s' r1 r2 r3 r4=>?_) (fun w' G' s' s1 i1 k1=>hp w' G' ⟨σ.env,s'⟩ s1 ⟨i1,hR.env.mono s1,hR.size⟩ k1)
    obtain⟨env', q1,q2⟩:=Qjl hR r1 r2 r3 (Qp3 r4)
    exact hn _ _ _ _ r1 q1 (Qcg _ _ _) q2
   ·exact h.elim
  ·rename_i hw
   rw[if_neg (by rw[Qip hR ops o false hw]; simp)]
   refine⟨fun f _=>FW_fn _ _,?_⟩
   obtain⟨env', q1,q2⟩:=Qjl hR (.refl G w) hR.inv .undef h
   exact hn _ _ _ _ (.refl G w) q1 (Qcg _ _ _) q2
  ·exact h.elim
theorem Qo7 (hT:TblOk P tb) {rd:Option Nat} {pk mk:List Nat} {N:Nat} {ops:List Oper} {Q:Exit→Act→World→Prop} {K KP:St→Prop} {B:Nat×Nat} {G0:Gh} {w0:World} {ds:List Deferred} (hQ:∀ a w G σ,Ex B G0 w0 G w→Rel N G σ a w→a.defers=ds→K σ → Q .normal a w)
  (hP:∀ (a:Act) w G σ,Ex B G0 w0 G w→Rel N G σ a w→a.defers=ds→KP σ → Q (.panic panCH) a w) :
  ∀ (l:List Nat) (σ : St) (a:Act) (w:World) (G:Gh),Ex B G0 w0 G w→Rel N G σ a w→a.defers=ds→pOps pk mk P tb N ops KP l σ K→wpOpsIn (FW rd) 0 P ops.toArray Q l a w
 | [],σ,a,w,G,hE,hR,hd,h=>hQ a w G σ hE hR hd h
 | i::r,σ,a,w,G,hE,hR,hd,h=>by
  rw[wpOpsIn_cons]
  unfold pOps at h
  split at h
  ·exact Qx7 hR h (fun a' w' G' σ' s1 r1 d1 h1=>Qo7 hT hQ hP r σ' a' w' G' (hE.trans (s1.ex B)) r1 (d1.trans hd) h1) fun w' G' σ' s1 i1 k1=>hP a w' G' σ' (hE.trans (s1.ex B)) i1 hd k1
  ·split at h
   ·exact Qo5 hT hR h fun a' w' G' σ' s1 r1 d1 h1=>Qo7 hT hQ hP r σ' a' w' G' (hE.trans (s1.ex B)) r1 (d1.trans hd) h1
   ·exact Qgh hT hR h fun a' w' G' σ' s1 r1 d1 h1=>Qo7 hT hQ hP r σ' a' w' G' (hE.trans (s1.ex B)) r1 (d1.trans hd) h1
inductive PT where
 | nil
 | pan (i:Nat) (r:PT)
 | op (i:Nat) (sub r:PT)
def PT.heads:PT→List Nat
 | .nil=>[]
 | .pan i r=>i::r.heads
 | .op i _ r=>i::r.heads
def ptAt (ops:Array Oper) (hs:List Nat) (L:Array Bool):Bool := !(Region.ready .any ops L).isEmpty&&(Region.ready .any ops L).all fun x=>hs.contains x
def ptOk (ops:Array Oper):PT→Array Bool→Nat→Bool
 | .nil,_,_=>true
 | .pan _ r,L,k=>ptOk ops r L k
 | .op i sub r,L,k=>(match k with
  | 0=>false
  | k' + 1=>ptAt ops sub.heads (L.setIfInBounds i true)&&ptOk ops sub (L.setIfInBounds i true) k')&&ptOk ops r L k
def ptTop (ops:Array Oper) (t:PT):Bool:=match ops.size with
 | 0=>false
 | k+1=>ptAt ops t.heads (Array.replicate ops.size false)&&ptOk ops t (Array.replicate ops.size false) k
def panT (P:Program) (tb:Tbl) (N:Nat) (ops:List Oper) (KP:St→Prop):PT→St→Prop
 | .nil,_=>True
 | .pan i r,σ => pOne P N ops i σ (fun _=>False) KP∧panT P tb N ops KP r σ
 | .op i sub r,σ => bOne true P tb N ops i σ (fun σ' => panT P tb N ops KP sub σ')∧panT P tb N ops KP r σ
theorem Qy3 {rd:Option Nat} {ops:Array Oper} {hs:List Nat} {L:Array Bool} (h:ptAt ops hs L=true) {Q:Exit→Act→World→Prop} {k:Nat} {a:Act} {w:World}
  (hx:∀ x ∈ hs,wpOpIn (FW rd) 0 P ops Q x (wpAnyIn (FW rd) 0 P .any ops Q k (L.setIfInBounds x true)) a w):wpAnyIn (FW rd) 0 P .any ops Q (k+1) L a w:=by
 unfold ptAt at h
 rw[Bool.and_eq_true,List.all_eq_true] at h
 refine⟨fun hr=>?_,fun x hm=>hx x ?_⟩
 ·rw[hr] at h; cases h.1
 ·have:=h.2 x hm
  simpa using this
theorem Q57 (hT:TblOk P tb) {rd:Option Nat} {N:Nat} {ops:List Oper} {Q:Exit→Act→World→Prop} {KP:St→Prop} {B:Nat×Nat} {G0:Gh} {w0:World} {ds:List Deferred}
  (hP:∀ (a:Act) w G σ,Ex B G0 w0 G w→Rel N G σ a w→a.defers=ds→KP σ → Q (.panic panCH) a w) :
  ∀ (t:PT) (k:Nat) (L:Array Bool) (σ : St) (a:Act) (w:World) (G:Gh),ptOk ops.toArray t L k=true→Ex B G0 w0 G w→Rel N G σ a w→a.defers=ds→panT P tb N ops KP t σ →
   ∀ x ∈ t.heads,wpOpIn (FW rd) 0 P ops.toArray Q x (wpAnyIn (FW rd) 0 P .any ops.toArray Q k (L.setIfInBounds x true)) a w:=by
 intro t
 induction t with
 | nil=>intro k L σ a w G _ _ _ _ _ x hx; cases hx
 | pan i r ih =>
  intro k L σ a w G hk hE hR hd h x hx
  rcases List.mem_cons.1 hx with rfl | hx
  ·exact Qx7 hR h.1 (fun _ _ _ _ _ _ _ hk=>hk.elim) fun w' G' σ' s1 i1 k1=>hP a w' G' σ' (hE.trans (s1.ex B)) i1 hd k1
  ·exact ih k L σ a w G hk hE hR hd h.2 x hx
 | op i sub r ihs ihr =>
  intro k L σ a w G hk hE hR hd h x hx
  unfold ptOk at hk
  rw[Bool.and_eq_true] at hk
  rcases List.mem_cons.1 hx with rfl | hx
  ·cases k with
   | zero=>cases hk.1
   | succ k =>
    have hk1:=hk.1
    simp only[Bool.and_eq_true] at hk1
    exact Qgh hT hR h.1 fun a' w' G' σ' s1 r1 d1 h1=>Qy3 hk1.1 fun y hy=>ihs k _ σ' a' w' G' hk1.2 (hE.trans (s1.ex B)) r1 (d1.trans hd) h1 y hy
  ·exact ihr k L σ a w G hk.2 hE hR hd h.2 x hx
def ptAll (ops:Array Oper):Bool→PT→Array Bool→Nat→Bool
 | b,.nil,L,_ => !b||(Region.ready .any ops L).isEmpty
 | _,.pan _ _,_,_=>false
 | b,.op i sub r,L,k=>(!b||ptAt ops (i::r.heads) L)&&(match k with
  | 0=>false
  | k' + 1=>ptAll ops true sub (L.setIfInBounds i true) k')&&ptAll ops false r L k
def allT (P:Program) (tb:Tbl) (N:Nat) (ops:List Oper) (leaf:St→Prop):Bool→PT→St→Prop
 | b,.nil,σ => match b with
  | true=>leaf σ
  | false=>True
 | _,.pan _ _,_=>False
 | _,.op i sub r,σ => bOne true P tb N ops i σ (fun σ' => allT P tb N ops leaf true sub σ')∧allT P tb N ops leaf false r σ
theorem Q58 (hT:TblOk P tb) {rd:Option Nat} {N:Nat} {ops:List Oper} {Q:Exit→Act→World→Prop} {leaf:St→Prop} {B:Nat×Nat} {G0:Gh} {w0:World} {ds:List Deferred}
  (hQ:∀ a w G σ,Ex B G0 w0 G w→Rel N G σ a w→a.defers=ds→leaf σ → Q .normal a w) :
  ∀ (t:PT) (b:Bool) (k:Nat) (L:Array Bool) (σ : St) (a:Act) (w:World) (G:Gh),ptAll ops.toArray b t L k=true→Ex B G0 w0 G w→Rel N G σ a w→a.defers=ds→allT P tb N ops leaf b t σ →
   (b=true→wpAnyIn (FW rd) 0 P .any ops.toArray Q k L a w)∧∀ k', k=k' + 1→∀ x ∈ t.heads,wpOpIn (FW rd) 0 P ops.toArray Q x (wpAnyIn (FW rd) 0 P .any ops.toArray Q k' (L.setIfInBounds x true)) a w:=by
 intro t
 induction t with
 | nil =>
  intro b k L σ a w G hk hE hR hd h
  refine⟨fun hb=>?_,fun k' _ x hx=>by cases hx⟩
  subst hb
  have hn:Region.ready .any ops.toArray L=[]:=by
   unfold ptAll at hk
   simpa using hk
  have hq:=hQ a w G σ hE hR hd h
  cases k with
  | zero=>exact⟨hn,hq⟩
  | succ k=>exact⟨fun _=>hq,fun x hx=>by rw[hn] at hx; cases hx⟩
 | pan i r ih =>
  intro b k L σ a w G hk hE hR hd h
  exact h.elim
 | op i sub r ihs ihr =>
  intro b k L σ a w G hk hE hR hd h
  unfold ptAll at hk
  rw[Bool.and_eq_true,Bool.and_eq_true] at hk
  obtain⟨⟨hk1,hk2⟩,hk3⟩:=hk
  have h1:bOne true P tb N ops i σ (fun σ' => allT P tb N ops leaf true sub σ'):=h.1
  have h2:allT P tb N ops leaf false r σ := h.2
  cases k with
  | zero=>cases hk2
  | succ k =>
   have hx:∀ k', k+1=k' + 1→∀ x ∈ (PT.op i sub r).heads,wpOpIn (FW rd) 0 P ops.toArray Q x (wpAnyIn (FW rd) 0 P .any ops.toArray Q k' (L.setIfInBounds x true)) a w:=by
    intro k' hk' x hx
    obtain rfl:k=k' := by omega
    rcases List.mem_cons.1 hx with rfl | hx
    ·exact Qgh hT hR h1 fun a' w' G' σ' s1 r1 d1 h1=>(ihs true k _ σ' a' w' G' hk2 (hE.trans (s1.ex B)) r1 (d1.trans hd) h1).1 rfl
    ·exact(ihr false (k+1) L σ a w G hk3 hE hR hd h2).2 k rfl x hx
   refine⟨fun hb=>?_,hx⟩
   subst hb
   exact Qy3 (hs:=(PT.op i sub r).heads) (by simpa [PT.heads] using hk1) fun x hxx=>hx k rfl x hxx
end
end Go.Proofs.YtfgegilhjlnohaaGreat
end

section
namespace Go.Proofs.YtfgegilhjlnohaaGreat
open Go.RowKit
section
variable {P:Program} {tb:Tbl}
def tailSeq (ops:List Oper) (j:Nat):Bool :=
 Nat.ble j ops.length&&(List.range (ops.length-j)).all fun d=>match ops[j+d]? with
  | some o=>o.after.toList.all (fun e => !Region.binds .any e||decide (e.on<j+d)) &&
   ((List.range j).all (fun x=>o.after.toList.any fun e=>Region.binds .any e&&e.on==x)&&(d==0||o.after.toList.any fun e=>Region.binds .any e&&e.on==j+d-1))
  | none=>false
theorem Q46 {o:Oper} {x:Nat} (h:(o.after.toList.any fun e=>Region.binds .any e&&e.on==x)=true):∃ e ∈ o.after,Region.binds .any e=true∧e.on=x:=by
 rw[List.any_eq_true] at h
 obtain⟨e,he,hb⟩:=h
 rw[Bool.and_eq_true,beq_iff_eq] at hb
 exact⟨e,by simpa using he,hb.1,hb.2⟩
theorem Qsp {ops:List Oper} {j:Nat} (h:tailSeq ops j=true):j≤ops.length∧∀ i o,j≤i→ops[i]? = some o→(∀ e ∈ o.after,Region.binds .any e=true→e.on<i)∧(∀ x,x<j→∃ e ∈ o.after,Region.binds .any e=true∧e.on=x)∧(j<i→∃ e ∈ o.after,Region.binds .any e=true∧e.on=i-1):=by
 unfold tailSeq at h
 rw[Bool.and_eq_true,List.all_eq_true] at h
 refine⟨Nat.le_of_ble_eq_true h.1,fun i o hi ho=>?_⟩
 have hil:i<ops.length:=(List.getElem?_eq_some_iff.1 ho).1
 have:=h.2 (i-j) (List.mem_range.2 (by omega))
 rw[show j+(i-j)=i by omega,ho] at this
 simp only[Bool.and_eq_true,List.all_eq_true,Bool.or_eq_true,decide_eq_true_eq,Bool.not_eq_true', List.mem_range,beq_iff_eq] at this
 obtain⟨h1,h2,h3⟩:=this
 refine⟨fun e he hb=>?_,fun x hx=>Q46 (h2 x hx),fun hji=>?_⟩
 ·rcases h1 e (by simpa using he) with k | k
  ·rw[hb] at k; cases k
  ·exact k
 ·rcases h3 with k | k
  ·omega
  ·exact Q46 k
theorem Q59 (hT:TblOk P tb) {rd:Option Nat} {mk:List Nat} {N:Nat} {ops:List Oper} {j:Nat} (ht:tailSeq ops j=true) {Q:Exit→Act→World→Prop} {K:St→Prop} {B:Nat×Nat} {G0:Gh} {w0:World} {ds:List Deferred} (hQ:∀ a w G σ,Ex B G0 w0 G w→Rel N G σ a w→a.defers=ds→K σ → Q .normal a w) :
  ∀ (k i:Nat),j≤i→i+k=ops.length→∀ (L:Array Bool) (σ : St) (a:Act) (w:World) (G:Gh),L.size=ops.length→(∀ x,x<i→L.getD x true=true)→(∀ x,i≤x→x<ops.length→L.getD x true=false)→Ex B G0 w0 G w→Rel N G σ a w→a.defers=ds →
   xOps mk P tb N ops (List.range' i k) σ K→wpAnyIn (FW rd) 0 P .any ops.toArray Q k L a w:=by
 obtain⟨hj,hsp⟩:=Qsp ht
 intro k
 induction k with
 | zero =>
  intro i hji hik L σ a w G hs h1 h2 hE hR hd h
  refine⟨?_,hQ a w G σ hE hR hd h⟩
  apply List.eq_nil_iff_forall_not_mem.2
  intro x hx
  obtain⟨g1,o,ho,-⟩:=mem_ready.1 hx
  have hxl:x<ops.length:=by have:=(Array.getElem?_eq_some_iff.1 ho).1; simpa using this
  have g2:=h1 x (by omega)
  have hxs:x<L.size:=by omega
  simp only[Array.getD_eq_getD_getElem?,Array.getElem?_eq_getElem hxs,Option.getD_some] at g1 g2
  rw[g1] at g2; cases g2
 | succ k ih =>
  intro i hji hik L σ a w G hs h1 h2 hE hR hd h
  have hil:i<ops.length:=by omega
  have ho:ops[i]? = some ops[i]:=List.getElem?_eq_getElem hil
  have his:i<L.size:=by omega
  have flip:∀ x,x<L.size→∀ b,L.getD x true=b→L.getD x false=b:=fun x hx b hb=>by
   simp only[Array.getD_eq_getD_getElem?,Array.getElem?_eq_getElem hx,Option.getD_some] at hb ⊢
   exact hb
  refine⟨fun hr=>?_,fun x hx=>?_⟩
  ·exfalso
   have:i ∈ Region.ready .any ops.toArray L:=by
    refine mem_ready.2 ⟨h2 i (Nat.le_refl _) hil,ops[i],by simp,fun e he hb=>?_⟩
    have:=(hsp i _ hji ho).1 e he hb
    exact flip _ (by omega) _ (h1 _ this)
   rw[hr] at this; cases this
  ·obtain⟨g1,o,hox,hb⟩:=mem_ready.1 hx
   have hox' : ops[x]? = some o:=by simpa using hox
   have hxl:x<ops.length:=(List.getElem?_eq_some_iff.1 hox').1
   have hxi:x=i:=by
    by_cases hlt:x<i
    ·rw[h1 x hlt] at g1; cases g1
    ·by_cases hgt:i<x
     ·exfalso
      obtain⟨e,he,hb1,hb2⟩:=(hsp x o (by omega) hox').2.2 (by omega)
      have:=hb e he hb1
      rw[hb2,flip (x-1) (by omega) _ (h2 (x-1) (by omega) (by omega))] at this
      cases this
     ·omega
   subst hxi
   have hnext:∀ a' w' G' σ', Stp G w G' w' → Rel N G' σ' a' w' → a'.defers=a.defers→xOps mk P tb N ops (List.range' (x+1) k) σ' K→wpAnyIn (FW rd) 0 P .any ops.toArray Q k (L.setIfInBounds x true) a' w' := fun a' w' G' σ' s1 r1 d1 hk=>by
    refine ih (x+1) (by omega) (by omega) _ σ' a' w' G' (by simpa using hs) (fun y hy=>?_) (fun y hy hyl=>?_) (hE.trans (s1.ex B)) r1 (d1.trans hd) hk
    ·by_cases hyx:y=x
     ·subst hyx
      simp[Array.getD_eq_getD_getElem?,his]
     ·have:=h1 y (by omega)
      simp only[Array.getD_eq_getD_getElem?,Array.getElem?_setIfInBounds,if_neg (fun e:x=y=>hyx e.symm)] at this ⊢
      exact this
    ·have:=h2 y (by omega) hyl
     simp only[Array.getD_eq_getD_getElem?,Array.getElem?_setIfInBounds,if_neg (show ¬ x=y by omega)] at this ⊢
     exact this
   rw[List.range'_succ] at h
   unfold xOps at h
   split at h
   ·split at h
    ·exact Qx2 hR h hnext
    ·exact Qo5 hT hR h hnext
   ·exact Qgh hT hR h hnext
end
end Go.Proofs.YtfgegilhjlnohaaGreat
end

section
namespace Go.Proofs.YtfgegilhjlnohaaGreat
open Go.RowKit
theorem TblOk.nil (P:Program):TblOk P []:=fun t ti h=>by cases h
theorem TblOk.cons {P:Program} (t:Nat) (ti:TI) (l:Tbl) (h:P.underlying t=some ti.d) (hi:(P.info? t).map (fun i=>(i.size,i.bytes,i.zero))=some (ti.size,ti.bytes,some ti.zero)) (hc:ti.cmp=true→cmpOk P t=true) (hbl:∀ q ∈ ti.bld,q.2.2<ti.zero.cells.size∧liesAt q.1 q.1.depth t (ti.zero.cells.size / q.1.cellsOf t) q.2.2 q.2.1 1=true) (hl:TblOk P l):TblOk P ((t,ti)::l):=by
 intro t' ti' h'
 rw[List.lookup_cons] at h'
 by_cases ht:t' = t
 ·subst ht
  simp only[beq_self_eq_true,Option.some.injEq] at h'
  subst h'
  obtain⟨i,h1,h2⟩:=Option.map_eq_some_iff.1 hi
  simp only[Prod.mk.injEq] at h2
  exact⟨h,i,h1,h2.1,h2.2.1,h2.2.2,hc,hbl⟩
 ·have hb:(t' == t)=false:=by simpa using ht
  rw[hb] at h'
  exact hl t' ti' h'
noncomputable def tb:Tbl:=[(1,⟨.func #[] #[] false,1,8,.nilFunc,false,[]⟩),
 (2,⟨.int .i64,1,8,.int .i64 0,false,[]⟩),
 (3,⟨.int .i64,1,8,.int .i64 0,false,[]⟩),
 (4,⟨.bool,1,1,.bool false,false,[]⟩),
 (5,⟨.int .u8,1,1,.int .u8 0,false,[]⟩),
 (6,⟨.int .u8,1,1,.int .u8 0,false,[]⟩),
 (7,⟨.struct #[⟨ "x",2,0,false, "", "runtime",0⟩,⟨ "y",3,1,false, "", "runtime",8⟩,⟨ "signed",4,2,false, "", "runtime",16⟩,⟨ "code",6,3,false, "", "runtime",17⟩],4,24,.agg #[.int .i64 0,.int .i64 0,.bool false,.int .u8 0],false,[]⟩),
 (8,⟨.struct #[⟨ "x",2,0,false, "", "runtime",0⟩,⟨ "y",3,1,false, "", "runtime",8⟩,⟨ "signed",4,2,false, "", "runtime",16⟩,⟨ "code",6,3,false, "", "runtime",17⟩],4,24,.agg #[.int .i64 0,.int .i64 0,.bool false,.int .u8 0],false,[]⟩),
 (9,⟨.string,1,16,.string ByteArray.empty,false,[]⟩),
 (10,⟨.string,1,16,.string ByteArray.empty,false,[]⟩),
 (11,⟨.string,1,16,.string ByteArray.empty,false,[]⟩),
 (12,⟨.int .u64,1,8,.int .u64 0,false,[]⟩),
 (13,⟨.struct #[⟨ "msg",9,0,false, "", "runtime",0⟩,⟨ "addr",12,1,false, "", "runtime",16⟩],2,24,.agg #[.string ByteArray.empty,.int .u64 0],false,[]⟩),
 (14,⟨.struct #[⟨ "msg",9,0,false, "", "runtime",0⟩,⟨ "addr",12,1,false, "", "runtime",16⟩],2,24,.agg #[.string ByteArray.empty,.int .u64 0],false,[]⟩),
 (15,⟨.pointer 219,1,8,.pointer none,false,[]⟩),
 (16,⟨.pointer 222,1,8,.pointer none,false,[]⟩),
 (17,⟨.pointer 231,1,8,.pointer none,false,[]⟩),
 (18,⟨.struct #[⟨ "typ",17,0,false, "", "internal/runtime/maps",0⟩],1,8,.agg #[.pointer none],false,[]⟩),
 (19,⟨.struct #[⟨ "typ",17,0,false, "", "internal/runtime/maps",0⟩],1,8,.agg #[.pointer none],false,[]⟩),
 (21,⟨.int .i32,1,4,.int .i32 0,false,[]⟩),
 (22,⟨.slice 56,1,24,.slice none 0 0,false,[]⟩),
 (23,⟨.func #[22,3] #[22] false,1,8,.nilFunc,false,[]⟩),
 (24,⟨.int .i64,1,8,.int .i64 0,false,[]⟩),
 (26,⟨.func #[22] #[9,24] false,1,8,.nilFunc,false,[]⟩),
 (27,⟨.func #[] #[4] false,1,8,.nilFunc,false,[]⟩),
 (28,⟨.func #[22] #[4] false,1,8,.nilFunc,false,[]⟩),
 (29,⟨.slice 9,1,24,.slice none 0 0,false,[]⟩),
 (30,⟨.func #[22] #[29] false,1,8,.nilFunc,false,[]⟩),
 (31,⟨.func #[29,29] #[4] false,1,8,.nilFunc,false,[]⟩),
 (32,⟨.func #[22,9] #[29] false,1,8,.nilFunc,false,[]⟩),
 (33,⟨.func #[29,9] #[4] false,1,8,.nilFunc,false,[]⟩),
 (34,⟨.func #[22,9] #[4] false,1,8,.nilFunc,false,[]⟩),
 (35,⟨.int .i64,1,8,.int .i64 0,false,[]⟩),
 (36,⟨.slice 38,1,24,.slice none 0 0,false,[]⟩),
 (37,⟨.struct #[⟨ "Kind",35,0,false, "", "",0⟩,⟨ "Name",9,1,false, "", "",8⟩,⟨ "Text",9,2,false, "", "",24⟩,⟨ "N",3,3,false, "", "",40⟩,⟨ "L",36,4,false, "", "",48⟩,⟨ "Then",36,5,false, "", "",72⟩,⟨ "Else",36,6,false, "", "",96⟩],7,120,.agg #[.int .i64 0,.string ByteArray.empty,.string ByteArray.empty,.int .i64 0,.slice none 0 0,.slice none 0 0,.slice none 0 0],false,[]⟩),
 (38,⟨.struct #[⟨ "Kind",35,0,false, "", "",0⟩,⟨ "Name",9,1,false, "", "",8⟩,⟨ "Text",9,2,false, "", "",24⟩,⟨ "N",3,3,false, "", "",40⟩,⟨ "L",36,4,false, "", "",48⟩,⟨ "Then",36,5,false, "", "",72⟩,⟨ "Else",36,6,false, "", "",96⟩],7,120,.agg #[.int .i64 0,.string ByteArray.empty,.string ByteArray.empty,.int .i64 0,.slice none 0 0,.slice none 0 0,.slice none 0 0],false,[]⟩),
 (39,⟨.slice 46,1,24,.slice none 0 0,false,[]⟩),
 (40,⟨.int .u16,1,2,.int .u16 0,false,[]⟩),
 (42,⟨.func #[36,3,3] #[36,3] false,1,8,.nilFunc,false,[]⟩),
 (43,⟨.int .u64,1,8,.int .u64 0,false,[]⟩),
 (44,⟨.int .i64,1,8,.int .i64 0,false,[]⟩),
 (45,⟨.struct #[⟨ "Name",9,0,false, "", "",0⟩,⟨ "K",44,1,false, "", "",16⟩,⟨ "Secret",4,2,false, "", "",24⟩],3,32,.agg #[.string ByteArray.empty,.int .i64 0,.bool false],false,[]⟩),
 (46,⟨.struct #[⟨ "Name",9,0,false, "", "",0⟩,⟨ "K",44,1,false, "", "",16⟩,⟨ "Secret",4,2,false, "", "",24⟩],3,32,.agg #[.string ByteArray.empty,.int .i64 0,.bool false],true,[]⟩),
 (47,⟨.func #[38,39] #[4] false,1,8,.nilFunc,false,[]⟩),
 (48,⟨.func #[38,39,40] #[4] false,1,8,.nilFunc,false,[]⟩),
 (50,⟨.func #[22,9] #[22,4] false,1,8,.nilFunc,false,[]⟩),
 (51,⟨.func #[22,9] #[9,24] false,1,8,.nilFunc,false,[]⟩),
 (53,⟨.func #[22,9] #[36,4] false,1,8,.nilFunc,false,[]⟩),
 (54,⟨.func #[36] #[4] false,1,8,.nilFunc,false,[]⟩),
 (55,⟨.struct #[⟨ "Name",9,0,false, "", "",0⟩,⟨ "L",36,1,false, "", "",16⟩],2,40,.agg #[.string ByteArray.empty,.slice none 0 0],false,[]⟩),
 (56,⟨.struct #[⟨ "Name",9,0,false, "", "",0⟩,⟨ "L",36,1,false, "", "",16⟩],2,40,.agg #[.string ByteArray.empty,.slice none 0 0],false,[]⟩),
 (57,⟨.slice 5,1,24,.slice none 0 0,false,[]⟩),
 (58,⟨.func #[5,4,4] #[4] false,1,8,.nilFunc,false,[]⟩),
 (59,⟨.func #[29] #[29] false,1,8,.nilFunc,false,[]⟩),
 (60,⟨.func #[22,9,29] #[9,24] false,1,8,.nilFunc,false,[]⟩),
 (61,⟨.func #[22,9,29] #[4] false,1,8,.nilFunc,false,[]⟩),
 (62,⟨.func #[22,9,29,29] #[4] false,1,8,.nilFunc,false,[]⟩),
 (63,⟨.func #[5,4] #[4] false,1,8,.nilFunc,false,[]⟩),
 (64,⟨.func #[9] #[4] false,1,8,.nilFunc,false,[]⟩),
 (65,⟨.map 9 29,1,8,.map none,false,[]⟩),
 (66,⟨.struct #[⟨ "to",65,0,false, "", "nuncio/calls",0⟩],1,8,.agg #[.map none],false,[]⟩),
 (67,⟨.struct #[⟨ "to",65,0,false, "", "nuncio/calls",0⟩],1,8,.agg #[.map none],false,[]⟩),
 (68,⟨.func #[22] #[67] false,1,8,.nilFunc,false,[]⟩),
 (70,⟨.func #[36] #[29] false,1,8,.nilFunc,false,[]⟩),
 (71,⟨.func #[9] #[38] false,1,8,.nilFunc,false,[]⟩),
 (72,⟨.func #[29] #[] false,1,8,.nilFunc,false,[]⟩),
 (73,⟨.func #[29,64] #[3] false,1,8,.nilFunc,false,[]⟩),
 (74,⟨.func #[29,64] #[4] false,1,8,.nilFunc,false,[]⟩),
 (75,⟨.func #[29,3,3] #[29] false,1,8,.nilFunc,false,[]⟩),
 (76,⟨.func #[29,9] #[29] false,1,8,.nilFunc,false,[]⟩),
 (77,⟨.func #[36,78] #[4] false,1,8,.nilFunc,false,[]⟩),
 (78,⟨.func #[38] #[4] false,1,8,.nilFunc,false,[]⟩),
 (79,⟨.func #[39,9] #[4] false,1,8,.nilFunc,false,[]⟩),
 (80,⟨.func #[9] #[22] false,1,8,.nilFunc,false,[]⟩),
 (81,⟨.func #[22,36,3] #[3] false,1,8,.nilFunc,false,[]⟩),
 (82,⟨.func #[22,9,1] #[9,24] false,1,8,.nilFunc,false,[]⟩),
 (83,⟨.struct #[⟨ "Where",9,0,false, "", "",0⟩,⟨ "Bad",4,1,false, "", "",16⟩,⟨ "Tells",4,2,false, "", "",17⟩],3,24,.agg #[.string ByteArray.empty,.bool false,.bool false],false,[]⟩),
 (84,⟨.struct #[⟨ "Where",9,0,false, "", "",0⟩,⟨ "Bad",4,1,false, "", "",16⟩,⟨ "Tells",4,2,false, "", "",17⟩],3,24,.agg #[.string ByteArray.empty,.bool false,.bool false],true,[]⟩),
 (86,⟨.func #[22,9] #[84,9,24] false,1,8,.nilFunc,false,[]⟩),
 (87,⟨.struct #[⟨ "name",9,0,false, "", "nuncio/infer",0⟩],1,16,.agg #[.string ByteArray.empty],false,[]⟩),
 (88,⟨.struct #[⟨ "name",9,0,false, "", "nuncio/infer",0⟩],1,16,.agg #[.string ByteArray.empty],true,[]⟩),
 (90,⟨.pointer 93,1,8,.pointer none,false,[]⟩),
 (91,⟨.map 119 3,1,8,.map none,false,[]⟩),
 (92,⟨.struct #[⟨ "l",22,0,false, "", "nuncio/infer",0⟩,⟨ "secrets",29,1,false, "", "nuncio/infer",24⟩,⟨ "done",91,2,false, "", "nuncio/infer",48⟩],3,56,.agg #[.slice none 0 0,.slice none 0 0,.map none],false,[]⟩),
 (93,⟨.struct #[⟨ "l",22,0,false, "", "nuncio/infer",0⟩,⟨ "secrets",29,1,false, "", "nuncio/infer",24⟩,⟨ "done",91,2,false, "", "nuncio/infer",48⟩],3,56,.agg #[.slice none 0 0,.slice none 0 0,.map none],false,[]⟩),
 (94,⟨.func #[9,36,39] #[] false,1,8,.nilFunc,false,[]⟩),
 (96,⟨.func #[22,9,36,39,29] #[9,4] false,1,8,.nilFunc,false,[]⟩),
 (97,⟨.func #[36] #[3] false,1,8,.nilFunc,false,[]⟩),
 (98,⟨.func #[36,4] #[4] false,1,8,.nilFunc,false,[]⟩),
 (99,⟨.func #[29,9] #[3] false,1,8,.nilFunc,false,[]⟩),
 (100,⟨.map 9 3,1,8,.map none,false,[]⟩),
 (101,⟨.func #[] #[29] false,1,8,.nilFunc,false,[]⟩),
 (102,⟨.func #[29,3,3,3] #[] false,1,8,.nilFunc,false,[]⟩),
 (103,⟨.func #[43] #[3] false,1,8,.nilFunc,false,[]⟩),
 (104,⟨.func #[36,78] #[3] false,1,8,.nilFunc,false,[]⟩),
 (106,⟨.func #[9] #[36,3,24] false,1,8,.nilFunc,false,[]⟩),
 (107,⟨.pointer 110,1,8,.pointer none,false,[]⟩),
 (108,⟨.map 150 3,1,8,.map none,false,[]⟩),
 (109,⟨.struct #[⟨ "l",22,0,false, "", "nuncio/secrecy",0⟩,⟨ "done",108,1,false, "", "nuncio/secrecy",24⟩,⟨ "where",9,2,false, "", "nuncio/secrecy",32⟩,⟨ "bad",4,3,false, "", "nuncio/secrecy",48⟩,⟨ "told",1,4,false, "", "nuncio/secrecy",56⟩],5,64,.agg #[.slice none 0 0,.map none,.string ByteArray.empty,.bool false,.nilFunc],false,[]⟩),
 (110,⟨.struct #[⟨ "l",22,0,false, "", "nuncio/secrecy",0⟩,⟨ "done",108,1,false, "", "nuncio/secrecy",24⟩,⟨ "where",9,2,false, "", "nuncio/secrecy",32⟩,⟨ "bad",4,3,false, "", "nuncio/secrecy",48⟩,⟨ "told",1,4,false, "", "nuncio/secrecy",56⟩],5,64,.agg #[.slice none 0 0,.map none,.string ByteArray.empty,.bool false,.nilFunc],false,[]⟩),
 (111,⟨.func #[22,9,36,39] #[84] false,1,8,.nilFunc,false,[]⟩),
 (113,⟨.func #[38,39,29] #[44,4] false,1,8,.nilFunc,false,[]⟩),
 (114,⟨.func #[39] #[39] false,1,8,.nilFunc,false,[]⟩),
 (115,⟨.func #[44] #[4] false,1,8,.nilFunc,false,[]⟩),
 (116,⟨.func #[44] #[44,4] false,1,8,.nilFunc,false,[]⟩),
 (117,⟨.func #[119] #[] false,1,8,.nilFunc,false,[]⟩),
 (118,⟨.struct #[⟨ "name",9,0,false, "", "nuncio/infer",0⟩,⟨ "it",44,1,false, "", "nuncio/infer",16⟩],2,24,.agg #[.string ByteArray.empty,.int .i64 0],false,[]⟩),
 (119,⟨.struct #[⟨ "name",9,0,false, "", "nuncio/infer",0⟩,⟨ "it",44,1,false, "", "nuncio/infer",16⟩],2,24,.agg #[.string ByteArray.empty,.int .i64 0],true,[]⟩),
 (120,⟨.func #[5] #[4] false,1,8,.nilFunc,false,[]⟩),
 (121,⟨.func #[156] #[] false,1,8,.nilFunc,false,[]⟩),
 (122,⟨.func #[156] #[] false,1,8,.nilFunc,false,[]⟩),
 (123,⟨.func #[36,3] #[122] false,1,8,.nilFunc,false,[]⟩),
 (124,⟨.func #[9,9] #[4] false,1,8,.nilFunc,false,[]⟩),
 (125,⟨.func #[36] #[] false,1,8,.nilFunc,false,[]⟩),
 (126,⟨.func #[29,3,3] #[] false,1,8,.nilFunc,false,[]⟩),
 (127,⟨.int .i64,1,8,.int .i64 0,false,[]⟩),
 (129,⟨.func #[29,3,3] #[3,127] false,1,8,.nilFunc,false,[]⟩),
 (130,⟨.func #[29,3,3] #[4] false,1,8,.nilFunc,false,[]⟩),
 (131,⟨.func #[29,3,3,3] #[3] false,1,8,.nilFunc,false,[]⟩),
 (133,⟨.func #[29,3,3,3] #[3,4] false,1,8,.nilFunc,false,[]⟩),
 (134,⟨.func #[135] #[3] false,1,8,.nilFunc,false,[]⟩),
 (135,⟨.int .u32,1,4,.int .u32 0,false,[]⟩),
 (136,⟨.func #[137] #[3] false,1,8,.nilFunc,false,[]⟩),
 (137,⟨.int .u64,1,8,.int .u64 0,false,[]⟩),
 (138,⟨.slice 147,1,24,.slice none 0 0,false,[]⟩),
 (140,⟨.func #[9] #[138,3,24] false,1,8,.nilFunc,false,[]⟩),
 (141,⟨.pointer 143,1,8,.pointer none,false,[]⟩),
 (142,⟨.struct #[⟨ "L",138,0,false, "", "",0⟩,⟨ "At",3,1,false, "", "",24⟩,⟨ "Bad",4,2,false, "", "",32⟩],3,40,.agg #[.slice none 0 0,.int .i64 0,.bool false],false,[]⟩),
 (143,⟨.struct #[⟨ "L",138,0,false, "", "",0⟩,⟨ "At",3,1,false, "", "",24⟩,⟨ "Bad",4,2,false, "", "",32⟩],3,40,.agg #[.slice none 0 0,.int .i64 0,.bool false],false,[]⟩),
 (144,⟨.func #[4,4] #[36] false,1,8,.nilFunc,false,[]⟩),
 (145,⟨.int .i64,1,8,.int .i64 0,false,[]⟩),
 (146,⟨.struct #[⟨ "Kind",145,0,false, "", "",0⟩,⟨ "Text",9,1,false, "", "",8⟩,⟨ "N",3,2,false, "", "",24⟩,⟨ "From",3,3,false, "", "",32⟩,⟨ "To",3,4,false, "", "",40⟩],5,48,.agg #[.int .i64 0,.string ByteArray.empty,.int .i64 0,.int .i64 0,.int .i64 0],false,[]⟩),
 (147,⟨.struct #[⟨ "Kind",145,0,false, "", "",0⟩,⟨ "Text",9,1,false, "", "",8⟩,⟨ "N",3,2,false, "", "",24⟩,⟨ "From",3,3,false, "", "",32⟩,⟨ "To",3,4,false, "", "",40⟩],5,48,.agg #[.int .i64 0,.string ByteArray.empty,.int .i64 0,.int .i64 0,.int .i64 0],true,[]⟩),
 (148,⟨.func #[150] #[] false,1,8,.nilFunc,false,[]⟩),
 (149,⟨.struct #[⟨ "name",9,0,false, "", "nuncio/secrecy",0⟩,⟨ "it",4,1,false, "", "nuncio/secrecy",16⟩],2,24,.agg #[.string ByteArray.empty,.bool false],false,[]⟩),
 (150,⟨.struct #[⟨ "name",9,0,false, "", "nuncio/secrecy",0⟩,⟨ "it",4,1,false, "", "nuncio/secrecy",16⟩],2,24,.agg #[.string ByteArray.empty,.bool false],true,[]⟩),
 (151,⟨.func #[44] #[9] false,1,8,.nilFunc,false,[]⟩),
 (152,⟨.slice 44,1,24,.slice none 0 0,false,[]⟩),
 (153,⟨.func #[9,152] #[44,4] false,1,8,.nilFunc,false,[]⟩),
 (154,⟨.func #[44,9] #[44,4] false,1,8,.nilFunc,false,[]⟩),
 (155,⟨.func #[39,9] #[44,4] false,1,8,.nilFunc,false,[]⟩),
 (156,⟨.func #[38,3] #[4] false,1,8,.nilFunc,false,[]⟩),
 (157,⟨.array 3 36,3,72,.agg #[.slice none 0 0,.slice none 0 0,.slice none 0 0],false,[]⟩),
 (158,⟨.struct #[⟨ "name",4,0,false, "", "nuncio/tree",0⟩,⟨ "text",4,1,false, "", "nuncio/tree",1⟩,⟨ "num",4,2,false, "", "nuncio/tree",2⟩,⟨ "then",4,3,false, "", "nuncio/tree",3⟩,⟨ "other",4,4,false, "", "nuncio/tree",4⟩,⟨ "l",3,5,false, "", "nuncio/tree",8⟩],6,16,.agg #[.bool false,.bool false,.bool false,.bool false,.bool false,.int .i64 0],false,[]⟩),
 (159,⟨.struct #[⟨ "name",4,0,false, "", "nuncio/tree",0⟩,⟨ "text",4,1,false, "", "nuncio/tree",1⟩,⟨ "num",4,2,false, "", "nuncio/tree",2⟩,⟨ "then",4,3,false, "", "nuncio/tree",3⟩,⟨ "other",4,4,false, "", "nuncio/tree",4⟩,⟨ "l",3,5,false, "", "nuncio/tree",8⟩],6,16,.agg #[.bool false,.bool false,.bool false,.bool false,.bool false,.int .i64 0],true,[]⟩),
 (160,⟨.func #[38] #[159] false,1,8,.nilFunc,false,[]⟩),
 (161,⟨.func #[38,4,4,4,4,4] #[4] false,1,8,.nilFunc,false,[]⟩),
 (162,⟨.int .u64,1,8,.int .u64 0,false,[]⟩),
 (163,⟨.func #[3] #[43] false,1,8,.nilFunc,false,[]⟩),
 (164,⟨.func #[] #[137] false,1,8,.nilFunc,false,[]⟩),
 (165,⟨.func #[29,3,166] #[3] false,1,8,.nilFunc,false,[]⟩),
 (166,⟨.pointer 3,1,8,.pointer none,false,[]⟩),
 (167,⟨.func #[29,3,3,3,166] #[3] false,1,8,.nilFunc,false,[]⟩),
 (168,⟨.func #[9,9,3] #[3] false,1,8,.nilFunc,false,[]⟩),
 (169,⟨.func #[9,3] #[3] false,1,8,.nilFunc,false,[]⟩),
 (170,⟨.func #[9,9,3] #[4] false,1,8,.nilFunc,false,[]⟩),
 (172,⟨.func #[9,3] #[147,4] false,1,8,.nilFunc,false,[]⟩),
 (173,⟨.func #[145] #[4] false,1,8,.nilFunc,false,[]⟩),
 (174,⟨.func #[4] #[147] false,1,8,.nilFunc,false,[]⟩),
 (175,⟨.func #[] #[38] false,1,8,.nilFunc,false,[]⟩),
 (176,⟨.array 10 9,10,160,.agg #[.string ByteArray.empty,.string ByteArray.empty,.string ByteArray.empty,.string ByteArray.empty,.string ByteArray.empty,.string ByteArray.empty,.string ByteArray.empty,.string ByteArray.empty,.string ByteArray.empty,.string ByteArray.empty],false,[]⟩),
 (177,⟨.func #[152,152] #[4] false,1,8,.nilFunc,false,[]⟩),
 (178,⟨.func #[44,152] #[44,4] true,1,8,.nilFunc,false,[]⟩),
 (179,⟨.slice 182,1,24,.slice none 0 0,false,[]⟩),
 (180,⟨.func #[] #[179] false,1,8,.nilFunc,false,[]⟩),
 (181,⟨.struct #[⟨ "of",44,0,false, "", "nuncio/kind",0⟩,⟨ "name",9,1,false, "", "nuncio/kind",8⟩,⟨ "is",44,2,false, "", "nuncio/kind",24⟩],3,32,.agg #[.int .i64 0,.string ByteArray.empty,.int .i64 0],false,[]⟩),
 (182,⟨.struct #[⟨ "of",44,0,false, "", "nuncio/kind",0⟩,⟨ "name",9,1,false, "", "nuncio/kind",8⟩,⟨ "is",44,2,false, "", "nuncio/kind",24⟩],3,32,.agg #[.int .i64 0,.string ByteArray.empty,.int .i64 0],true,[]⟩),
 (183,⟨.slice 186,1,24,.slice none 0 0,false,[]⟩),
 (184,⟨.func #[] #[183] false,1,8,.nilFunc,false,[]⟩),
 (185,⟨.struct #[⟨ "Name",9,0,false, "", "",0⟩,⟨ "In",152,1,false, "", "",16⟩,⟨ "Gives",44,2,false, "", "",40⟩],3,48,.agg #[.string ByteArray.empty,.slice none 0 0,.int .i64 0],false,[]⟩),
 (186,⟨.struct #[⟨ "Name",9,0,false, "", "",0⟩,⟨ "In",152,1,false, "", "",16⟩,⟨ "Gives",44,2,false, "", "",40⟩],3,48,.agg #[.string ByteArray.empty,.slice none 0 0,.int .i64 0],false,[]⟩),
 (188,⟨.func #[44] #[29,152] false,1,8,.nilFunc,false,[]⟩),
 (189,⟨.func #[9,9] #[3] false,1,8,.nilFunc,false,[]⟩),
 (190,⟨.func #[9] #[9,4] false,1,8,.nilFunc,false,[]⟩),
 (191,⟨.pointer 162,1,8,.pointer none,false,[]⟩),
 (193,⟨.func #[29,3,3,166] #[3,3] false,1,8,.nilFunc,false,[]⟩),
 (194,⟨.slice 145,1,24,.slice none 0 0,false,[]⟩),
 (196,⟨.func #[9,3] #[9,3] false,1,8,.nilFunc,false,[]⟩),
 (197,⟨.func #[9] #[3,4] false,1,8,.nilFunc,false,[]⟩),
 (198,⟨.func #[9] #[] false,1,8,.nilFunc,false,[]⟩),
 (199,⟨.func #[] #[9] false,1,8,.nilFunc,false,[]⟩),
 (200,⟨.func #[9,5] #[3] false,1,8,.nilFunc,false,[]⟩),
 (201,⟨.func #[9,3] #[3,3] false,1,8,.nilFunc,false,[]⟩),
 (202,⟨.func #[3] #[9] false,1,8,.nilFunc,false,[]⟩),
 (203,⟨.func #[3] #[3] false,1,8,.nilFunc,false,[]⟩),
 (204,⟨.func #[212] #[] false,1,8,.nilFunc,false,[]⟩),
 (205,⟨.func #[212] #[] false,1,8,.nilFunc,false,[]⟩),
 (206,⟨.func #[9] #[205] false,1,8,.nilFunc,false,[]⟩),
 (207,⟨.slice 3,1,24,.slice none 0 0,false,[]⟩),
 (208,⟨.func #[3] #[4] false,1,8,.nilFunc,false,[]⟩),
 (209,⟨.func #[137] #[9] false,1,8,.nilFunc,false,[]⟩),
 (211,⟨.func #[9] #[135,135] false,1,8,.nilFunc,false,[]⟩),
 (212,⟨.func #[21,3] #[4] false,1,8,.nilFunc,false,[]⟩),
 (214,⟨.func #[9,3] #[21,3] false,1,8,.nilFunc,false,[]⟩),
 (216,⟨.func #[9,21,3] #[21,4] false,1,8,.nilFunc,false,[]⟩),
 (217,⟨.func #[21] #[4] false,1,8,.nilFunc,false,[]⟩),
 (218,⟨.struct #[⟨ "_interface",17,0,false, "", "runtime",0⟩,⟨ "concrete",17,1,false, "", "runtime",8⟩,⟨ "asserted",17,2,false, "", "runtime",16⟩,⟨ "missingMethod",9,3,false, "", "runtime",24⟩],4,40,.agg #[.pointer none,.pointer none,.pointer none,.string ByteArray.empty],false,[]⟩),
 (219,⟨.struct #[⟨ "_interface",17,0,false, "", "runtime",0⟩,⟨ "concrete",17,1,false, "", "runtime",8⟩,⟨ "asserted",17,2,false, "", "runtime",16⟩,⟨ "missingMethod",9,3,false, "", "runtime",24⟩],4,40,.agg #[.pointer none,.pointer none,.pointer none,.string ByteArray.empty],false,[]⟩),
 (220,⟨.array 0 16,0,0,.agg #[],false,[]⟩),
 (221,⟨.struct #[⟨ "_",220,0,false, "", "runtime",0⟩],0,0,.agg #[],false,[]⟩),
 (222,⟨.struct #[⟨ "_",220,0,false, "", "runtime",0⟩],0,0,.agg #[],false,[]⟩),
 (223,⟨.func #[] #[3] false,1,8,.nilFunc,false,[]⟩),
 (224,⟨.int .u8,1,1,.int .u8 0,false,[]⟩),
 (225,⟨.int .u8,1,1,.int .u8 0,false,[]⟩),
 (226,⟨.func #[232,232] #[4] false,1,8,.nilFunc,false,[]⟩),
 (227,⟨.pointer 5,1,8,.pointer none,false,[]⟩),
 (228,⟨.int .i32,1,4,.int .i32 0,false,[]⟩),
 (229,⟨.int .i32,1,4,.int .i32 0,false,[]⟩),
 (230,⟨.struct #[⟨ "Size_",12,0,false, "", "",0⟩,⟨ "PtrBytes",12,1,false, "", "",8⟩,⟨ "Hash",135,2,false, "", "",16⟩,⟨ "TFlag",224,3,false, "", "",20⟩,⟨ "Align_",5,4,false, "", "",21⟩,⟨ "FieldAlign_",5,5,false, "", "",22⟩,⟨ "Kind_",225,6,false, "", "",23⟩,⟨ "Equal",226,7,false, "", "",24⟩,⟨ "GCData",227,8,false, "", "",32⟩,⟨ "Str",228,9,false, "", "",40⟩,⟨ "PtrToThis",229,10,false, "", "",44⟩],11,48,.agg #[.int .u64 0,.int .u64 0,.int .u32 0,.int .u8 0,.int .u8 0,.int .u8 0,.int .u8 0,.nilFunc,.pointer none,.int .i32 0,.int .i32 0],false,[]⟩),
 (231,⟨.struct #[⟨ "Size_",12,0,false, "", "",0⟩,⟨ "PtrBytes",12,1,false, "", "",8⟩,⟨ "Hash",135,2,false, "", "",16⟩,⟨ "TFlag",224,3,false, "", "",20⟩,⟨ "Align_",5,4,false, "", "",21⟩,⟨ "FieldAlign_",5,5,false, "", "",22⟩,⟨ "Kind_",225,6,false, "", "",23⟩,⟨ "Equal",226,7,false, "", "",24⟩,⟨ "GCData",227,8,false, "", "",32⟩,⟨ "Str",228,9,false, "", "",40⟩,⟨ "PtrToThis",229,10,false, "", "",44⟩],11,48,.agg #[.int .u64 0,.int .u64 0,.int .u32 0,.int .u8 0,.int .u8 0,.int .u8 0,.int .u8 0,.nilFunc,.pointer none,.int .i32 0,.int .i32 0],false,[]⟩)]
set_option maxRecDepth 100000 in
theorem tbOk:TblOk Tryz.prog tb:=by
 unfold tb
 refine .cons 1 _ _ (by kernel_rfl) (by kernel_rfl) (fun h=>nomatch h) (fun q hq=>nomatch hq) ?_
 refine .cons 2 _ _ (by kernel_rfl) (by kernel_rfl) (fun h=>nomatch h) (fun q hq=>nomatch hq) ?_
 refine .cons 3 _ _ (by kernel_rfl) (by kernel_rfl) (fun h=>nomatch h) (fun q hq=>nomatch hq) ?_
 refine .cons 4 _ _ (by kernel_rfl) (by kernel_rfl) (fun h=>nomatch h) (fun q hq=>nomatch hq) ?_
 refine .cons 5 _ _ (by kernel_rfl) (by kernel_rfl) (fun h=>nomatch h) (fun q hq=>nomatch hq) ?_
 refine .cons 6 _ _ (by kernel_rfl) (by kernel_rfl) (fun h=>nomatch h) (fun q hq=>nomatch hq) ?_
 refine .cons 7 _ _ (by kernel_rfl) (by kernel_rfl) (fun h=>nomatch h) (fun q hq=>nomatch hq) ?_
 refine .cons 8 _ _ (by kernel_rfl) (by kernel_rfl) (fun h=>nomatch h) (fun q hq=>nomatch hq) ?_
 refine .cons 9 _ _ (by kernel_rfl) (by kernel_rfl) (fun h=>nomatch h) (fun q hq=>nomatch hq) ?_
 refine .cons 10 _ _ (by kernel_rfl) (by kernel_rfl) (fun h=>nomatch h) (fun q hq=>nomatch hq) ?_
 refine .cons 11 _ _ (by kernel_rfl) (by kernel_rfl) (fun h=>nomatch h) (fun q hq=>nomatch hq) ?_
 refine .cons 12 _ _ (by kernel_rfl) (by kernel_rfl) (fun h=>nomatch h) (fun q hq=>nomatch hq) ?_
 refine .cons 13 _ _ (by kernel_rfl) (by kernel_rfl) (fun h=>nomatch h) (fun q hq=>nomatch hq) ?_
 refine .cons 14 _ _ (by kernel_rfl) (by kernel_rfl) (fun h=>nomatch h) (fun q hq=>nomatch hq) ?_
 refine .cons 15 _ _ (by kernel_rfl) (by kernel_rfl) (fun h=>nomatch h) (fun q hq=>nomatch hq) ?_
 refine .cons 16 _ _ (by kernel_rfl) (by kernel_rfl) (fun h=>nomatch h) (fun q hq=>nomatch hq) ?_
 refine .cons 17 _ _ (by kernel_rfl) (by kernel_rfl) (fun h=>nomatch h) (fun q hq=>nomatch hq) ?_
 refine .cons 18 _ _ (by kernel_rfl) (by kernel_rfl) (fun h=>nomatch h) (fun q hq=>nomatch hq) ?_
 refine .cons 19 _ _ (by kernel_rfl) (by kernel_rfl) (fun h=>nomatch h) (fun q hq=>nomatch hq) ?_
 refine .cons 21 _ _ (by kernel_rfl) (by kernel_rfl) (fun h=>nomatch h) (fun q hq=>nomatch hq) ?_
 refine .cons 22 _ _ (by kernel_rfl) (by kernel_rfl) (fun h=>nomatch h) (fun q hq=>nomatch hq) ?_
 refine .cons 23 _ _ (by kernel_rfl) (by kernel_rfl) (fun h=>nomatch h) (fun q hq=>nomatch hq) ?_
 refine .cons 24 _ _ (by kernel_rfl) (by kernel_rfl) (fun h=>nomatch h) (fun q hq=>nomatch hq) ?_
 refine .cons 26 _ _ (by kernel_rfl) (by kernel_rfl) (fun h=>nomatch h) (fun q hq=>nomatch hq) ?_
 refine .cons 27 _ _ (by kernel_rfl) (by kernel_rfl) (fun h=>nomatch h) (fun q hq=>nomatch hq) ?_
 refine .cons 28 _ _ (by kernel_rfl) (by kernel_rfl) (fun h=>nomatch h) (fun q hq=>nomatch hq) ?_
 refine .cons 29 _ _ (by kernel_rfl) (by kernel_rfl) (fun h=>nomatch h) (fun q hq=>nomatch hq) ?_
 refine .cons 30 _ _ (by kernel_rfl) (by kernel_rfl) (fun h=>nomatch h) (fun q hq=>nomatch hq) ?_
 refine .cons 31 _ _ (by kernel_rfl) (by kernel_rfl) (fun h=>nomatch h) (fun q hq=>nomatch hq) ?_
 refine .cons 32 _ _ (by kernel_rfl) (by kernel_rfl) (fun h=>nomatch h) (fun q hq=>nomatch hq) ?_
 refine .cons 33 _ _ (by kernel_rfl) (by kernel_rfl) (fun h=>nomatch h) (fun q hq=>nomatch hq) ?_
 refine .cons 34 _ _ (by kernel_rfl) (by kernel_rfl) (fun h=>nomatch h) (fun q hq=>nomatch hq) ?_
 refine .cons 35 _ _ (by kernel_rfl) (by kernel_rfl) (fun h=>nomatch h) (fun q hq=>nomatch hq) ?_
 refine .cons 36 _ _ (by kernel_rfl) (by kernel_rfl) (fun h=>nomatch h) (fun q hq=>nomatch hq) ?_
 refine .cons 37 _ _ (by kernel_rfl) (by kernel_rfl) (fun h=>nomatch h) (fun q hq=>nomatch hq) ?_
 refine .cons 38 _ _ (by kernel_rfl) (by kernel_rfl) (fun h=>nomatch h) (fun q hq=>nomatch hq) ?_
 refine .cons 39 _ _ (by kernel_rfl) (by kernel_rfl) (fun h=>nomatch h) (fun q hq=>nomatch hq) ?_
 refine .cons 40 _ _ (by kernel_rfl) (by kernel_rfl) (fun h=>nomatch h) (fun q hq=>nomatch hq) ?_
 refine .cons 42 _ _ (by kernel_rfl) (by kernel_rfl) (fun h=>nomatch h) (fun q hq=>nomatch hq) ?_
 refine .cons 43 _ _ (by kernel_rfl) (by kernel_rfl) (fun h=>nomatch h) (fun q hq=>nomatch hq) ?_
 refine .cons 44 _ _ (by kernel_rfl) (by kernel_rfl) (fun h=>nomatch h) (fun q hq=>nomatch hq) ?_
 refine .cons 45 _ _ (by kernel_rfl) (by kernel_rfl) (fun h=>nomatch h) (fun q hq=>nomatch hq) ?_
 refine .cons 46 _ _ (by kernel_rfl) (by kernel_rfl) (fun _=>by kernel_rfl) (fun q hq=>nomatch hq) ?_
 refine .cons 47 _ _ (by kernel_rfl) (by kernel_rfl) (fun h=>nomatch h) (fun q hq=>nomatch hq) ?_
 refine .cons 48 _ _ (by kernel_rfl) (by kernel_rfl) (fun h=>nomatch h) (fun q hq=>nomatch hq) ?_
 refine .cons 50 _ _ (by kernel_rfl) (by kernel_rfl) (fun h=>nomatch h) (fun q hq=>nomatch hq) ?_
 refine .cons 51 _ _ (by kernel_rfl) (by kernel_rfl) (fun h=>nomatch h) (fun q hq=>nomatch hq) ?_
 refine .cons 53 _ _ (by kernel_rfl) (by kernel_rfl) (fun h=>nomatch h) (fun q hq=>nomatch hq) ?_
 refine .cons 54 _ _ (by kernel_rfl) (by kernel_rfl) (fun h=>nomatch h) (fun q hq=>nomatch hq) ?_
 refine .cons 55 _ _ (by kernel_rfl) (by kernel_rfl) (fun h=>nomatch h) (fun q hq=>nomatch hq) ?_
 refine .cons 56 _ _ (by kernel_rfl) (by kernel_rfl) (fun h=>nomatch h) (fun q hq=>nomatch hq) ?_
 refine .cons 57 _ _ (by kernel_rfl) (by kernel_rfl) (fun h=>nomatch h) (fun q hq=>nomatch hq) ?_
 refine .cons 58 _ _ (by kernel_rfl) (by kernel_rfl) (fun h=>nomatch h) (fun q hq=>nomatch hq) ?_
 refine .cons 59 _ _ (by kernel_rfl) (by kernel_rfl) (fun h=>nomatch h) (fun q hq=>nomatch hq) ?_
 refine .cons 60 _ _ (by kernel_rfl) (by kernel_rfl) (fun h=>nomatch h) (fun q hq=>nomatch hq) ?_
 refine .cons 61 _ _ (by kernel_rfl) (by kernel_rfl) (fun h=>nomatch h) (fun q hq=>nomatch hq) ?_
 refine .cons 62 _ _ (by kernel_rfl) (by kernel_rfl) (fun h=>nomatch h) (fun q hq=>nomatch hq) ?_
 refine .cons 63 _ _ (by kernel_rfl) (by kernel_rfl) (fun h=>nomatch h) (fun q hq=>nomatch hq) ?_
 refine .cons 64 _ _ (by kernel_rfl) (by kernel_rfl) (fun h=>nomatch h) (fun q hq=>nomatch hq) ?_
 refine .cons 65 _ _ (by kernel_rfl) (by kernel_rfl) (fun h=>nomatch h) (fun q hq=>nomatch hq) ?_
 refine .cons 66 _ _ (by kernel_rfl) (by kernel_rfl) (fun h=>nomatch h) (fun q hq=>nomatch hq) ?_
 refine .cons 67 _ _ (by kernel_rfl) (by kernel_rfl) (fun h=>nomatch h) (fun q hq=>nomatch hq) ?_
 refine .cons 68 _ _ (by kernel_rfl) (by kernel_rfl) (fun h=>nomatch h) (fun q hq=>nomatch hq) ?_
 refine .cons 70 _ _ (by kernel_rfl) (by kernel_rfl) (fun h=>nomatch h) (fun q hq=>nomatch hq) ?_
 refine .cons 71 _ _ (by kernel_rfl) (by kernel_rfl) (fun h=>nomatch h) (fun q hq=>nomatch hq) ?_
 refine .cons 72 _ _ (by kernel_rfl) (by kernel_rfl) (fun h=>nomatch h) (fun q hq=>nomatch hq) ?_
 refine .cons 73 _ _ (by kernel_rfl) (by kernel_rfl) (fun h=>nomatch h) (fun q hq=>nomatch hq) ?_
 refine .cons 74 _ _ (by kernel_rfl) (by kernel_rfl) (fun h=>nomatch h) (fun q hq=>nomatch hq) ?_
 refine .cons 75 _ _ (by kernel_rfl) (by kernel_rfl) (fun h=>nomatch h) (fun q hq=>nomatch hq) ?_
 refine .cons 76 _ _ (by kernel_rfl) (by kernel_rfl) (fun h=>nomatch h) (fun q hq=>nomatch hq) ?_
 refine .cons 77 _ _ (by kernel_rfl) (by kernel_rfl) (fun h=>nomatch h) (fun q hq=>nomatch hq) ?_
 refine .cons 78 _ _ (by kernel_rfl) (by kernel_rfl) (fun h=>nomatch h) (fun q hq=>nomatch hq) ?_
 refine .cons 79 _ _ (by kernel_rfl) (by kernel_rfl) (fun h=>nomatch h) (fun q hq=>nomatch hq) ?_
 refine .cons 80 _ _ (by kernel_rfl) (by kernel_rfl) (fun h=>nomatch h) (fun q hq=>nomatch hq) ?_
 refine .cons 81 _ _ (by kernel_rfl) (by kernel_rfl) (fun h=>nomatch h) (fun q hq=>nomatch hq) ?_
 refine .cons 82 _ _ (by kernel_rfl) (by kernel_rfl) (fun h=>nomatch h) (fun q hq=>nomatch hq) ?_
 refine .cons 83 _ _ (by kernel_rfl) (by kernel_rfl) (fun h=>nomatch h) (fun q hq=>nomatch hq) ?_
 refine .cons 84 _ _ (by kernel_rfl) (by kernel_rfl) (fun _=>by kernel_rfl) (fun q hq=>nomatch hq) ?_
 refine .cons 86 _ _ (by kernel_rfl) (by kernel_rfl) (fun h=>nomatch h) (fun q hq=>nomatch hq) ?_
 refine .cons 87 _ _ (by kernel_rfl) (by kernel_rfl) (fun h=>nomatch h) (fun q hq=>nomatch hq) ?_
 refine .cons 88 _ _ (by kernel_rfl) (by kernel_rfl) (fun _=>by kernel_rfl) (fun q hq=>nomatch hq) ?_
 refine .cons 90 _ _ (by kernel_rfl) (by kernel_rfl) (fun h=>nomatch h) (fun q hq=>nomatch hq) ?_
 refine .cons 91 _ _ (by kernel_rfl) (by kernel_rfl) (fun h=>nomatch h) (fun q hq=>nomatch hq) ?_
 refine .cons 92 _ _ (by kernel_rfl) (by kernel_rfl) (fun h=>nomatch h) (fun q hq=>nomatch hq) ?_
 refine .cons 93 _ _ (by kernel_rfl) (by kernel_rfl) (fun h=>nomatch h) (fun q hq=>nomatch hq) ?_
 refine .cons 94 _ _ (by kernel_rfl) (by kernel_rfl) (fun h=>nomatch h) (fun q hq=>nomatch hq) ?_
 refine .cons 96 _ _ (by kernel_rfl) (by kernel_rfl) (fun h=>nomatch h) (fun q hq=>nomatch hq) ?_
 refine .cons 97 _ _ (by kernel_rfl) (by kernel_rfl) (fun h=>nomatch h) (fun q hq=>nomatch hq) ?_
 refine .cons 98 _ _ (by kernel_rfl) (by kernel_rfl) (fun h=>nomatch h) (fun q hq=>nomatch hq) ?_
 refine .cons 99 _ _ (by kernel_rfl) (by kernel_rfl) (fun h=>nomatch h) (fun q hq=>nomatch hq) ?_
 refine .cons 100 _ _ (by kernel_rfl) (by kernel_rfl) (fun h=>nomatch h) (fun q hq=>nomatch hq) ?_
 refine .cons 101 _ _ (by kernel_rfl) (by kernel_rfl) (fun h=>nomatch h) (fun q hq=>nomatch hq) ?_
 refine .cons 102 _ _ (by kernel_rfl) (by kernel_rfl) (fun h=>nomatch h) (fun q hq=>nomatch hq) ?_
 refine .cons 103 _ _ (by kernel_rfl) (by kernel_rfl) (fun h=>nomatch h) (fun q hq=>nomatch hq) ?_
 refine .cons 104 _ _ (by kernel_rfl) (by kernel_rfl) (fun h=>nomatch h) (fun q hq=>nomatch hq) ?_
 refine .cons 106 _ _ (by kernel_rfl) (by kernel_rfl) (fun h=>nomatch h) (fun q hq=>nomatch hq) ?_
 refine .cons 107 _ _ (by kernel_rfl) (by kernel_rfl) (fun h=>nomatch h) (fun q hq=>nomatch hq) ?_
 refine .cons 108 _ _ (by kernel_rfl) (by kernel_rfl) (fun h=>nomatch h) (fun q hq=>nomatch hq) ?_
 refine .cons 109 _ _ (by kernel_rfl) (by kernel_rfl) (fun h=>nomatch h) (fun q hq=>nomatch hq) ?_
 refine .cons 110 _ _ (by kernel_rfl) (by kernel_rfl) (fun h=>nomatch h) (fun q hq=>nomatch hq) ?_
 refine .cons 111 _ _ (by kernel_rfl) (by kernel_rfl) (fun h=>nomatch h) (fun q hq=>nomatch hq) ?_
 refine .cons 113 _ _ (by kernel_rfl) (by kernel_rfl) (fun h=>nomatch h) (fun q hq=>nomatch hq) ?_
 refine .cons 114 _ _ (by kernel_rfl) (by kernel_rfl) (fun h=>nomatch h) (fun q hq=>nomatch hq) ?_
 refine .cons 115 _ _ (by kernel_rfl) (by kernel_rfl) (fun h=>nomatch h) (fun q hq=>nomatch hq) ?_
 refine .cons 116 _ _ (by kernel_rfl) (by kernel_rfl) (fun h=>nomatch h) (fun q hq=>nomatch hq) ?_
 refine .cons 117 _ _ (by kernel_rfl) (by kernel_rfl) (fun h=>nomatch h) (fun q hq=>nomatch hq) ?_
 refine .cons 118 _ _ (by kernel_rfl) (by kernel_rfl) (fun h=>nomatch h) (fun q hq=>nomatch hq) ?_
 refine .cons 119 _ _ (by kernel_rfl) (by kernel_rfl) (fun _=>by kernel_rfl) (fun q hq=>nomatch hq) ?_
 refine .cons 120 _ _ (by kernel_rfl) (by kernel_rfl) (fun h=>nomatch h) (fun q hq=>nomatch hq) ?_
 refine .cons 121 _ _ (by kernel_rfl) (by kernel_rfl) (fun h=>nomatch h) (fun q hq=>nomatch hq) ?_
 refine .cons 122 _ _ (by kernel_rfl) (by kernel_rfl) (fun h=>nomatch h) (fun q hq=>nomatch hq) ?_
 refine .cons 123 _ _ (by kernel_rfl) (by kernel_rfl) (fun h=>nomatch h) (fun q hq=>nomatch hq) ?_
 refine .cons 124 _ _ (by kernel_rfl) (by kernel_rfl) (fun h=>nomatch h) (fun q hq=>nomatch hq) ?_
 refine .cons 125 _ _ (by kernel_rfl) (by kernel_rfl) (fun h=>nomatch h) (fun q hq=>nomatch hq) ?_
 refine .cons 126 _ _ (by kernel_rfl) (by kernel_rfl) (fun h=>nomatch h) (fun q hq=>nomatch hq) ?_
 refine .cons 127 _ _ (by kernel_rfl) (by kernel_rfl) (fun h=>nomatch h) (fun q hq=>nomatch hq) ?_
 refine .cons 129 _ _ (by kernel_rfl) (by kernel_rfl) (fun h=>nomatch h) (fun q hq=>nomatch hq) ?_
 refine .cons 130 _ _ (by kernel_rfl) (by kernel_rfl) (fun h=>nomatch h) (fun q hq=>nomatch hq) ?_
 refine .cons 131 _ _ (by kernel_rfl) (by kernel_rfl) (fun h=>nomatch h) (fun q hq=>nomatch hq) ?_
 refine .cons 133 _ _ (by kernel_rfl) (by kernel_rfl) (fun h=>nomatch h) (fun q hq=>nomatch hq) ?_
 refine .cons 134 _ _ (by kernel_rfl) (by kernel_rfl) (fun h=>nomatch h) (fun q hq=>nomatch hq) ?_
 refine .cons 135 _ _ (by kernel_rfl) (by kernel_rfl) (fun h=>nomatch h) (fun q hq=>nomatch hq) ?_
 refine .cons 136 _ _ (by kernel_rfl) (by kernel_rfl) (fun h=>nomatch h) (fun q hq=>nomatch hq) ?_
 refine .cons 137 _ _ (by kernel_rfl) (by kernel_rfl) (fun h=>nomatch h) (fun q hq=>nomatch hq) ?_
 refine .cons 138 _ _ (by kernel_rfl) (by kernel_rfl) (fun h=>nomatch h) (fun q hq=>nomatch hq) ?_
 refine .cons 140 _ _ (by kernel_rfl) (by kernel_rfl) (fun h=>nomatch h) (fun q hq=>nomatch hq) ?_
 refine .cons 141 _ _ (by kernel_rfl) (by kernel_rfl) (fun h=>nomatch h) (fun q hq=>nomatch hq) ?_
 refine .cons 142 _ _ (by kernel_rfl) (by kernel_rfl) (fun h=>nomatch h) (fun q hq=>nomatch hq) ?_
 refine .cons 143 _ _ (by kernel_rfl) (by kernel_rfl) (fun h=>nomatch h) (fun q hq=>nomatch hq) ?_
 refine .cons 144 _ _ (by kernel_rfl) (by kernel_rfl) (fun h=>nomatch h) (fun q hq=>nomatch hq) ?_
 refine .cons 145 _ _ (by kernel_rfl) (by kernel_rfl) (fun h=>nomatch h) (fun q hq=>nomatch hq) ?_
 refine .cons 146 _ _ (by kernel_rfl) (by kernel_rfl) (fun h=>nomatch h) (fun q hq=>nomatch hq) ?_
 refine .cons 147 _ _ (by kernel_rfl) (by kernel_rfl) (fun _=>by kernel_rfl) (fun q hq=>nomatch hq) ?_
 refine .cons 148 _ _ (by kernel_rfl) (by kernel_rfl) (fun h=>nomatch h) (fun q hq=>nomatch hq) ?_
 refine .cons 149 _ _ (by kernel_rfl) (by kernel_rfl) (fun h=>nomatch h) (fun q hq=>nomatch hq) ?_
 refine .cons 150 _ _ (by kernel_rfl) (by kernel_rfl) (fun _=>by kernel_rfl) (fun q hq=>nomatch hq) ?_
 refine .cons 151 _ _ (by kernel_rfl) (by kernel_rfl) (fun h=>nomatch h) (fun q hq=>nomatch hq) ?_
 refine .cons 152 _ _ (by kernel_rfl) (by kernel_rfl) (fun h=>nomatch h) (fun q hq=>nomatch hq) ?_
 refine .cons 153 _ _ (by kernel_rfl) (by kernel_rfl) (fun h=>nomatch h) (fun q hq=>nomatch hq) ?_
 refine .cons 154 _ _ (by kernel_rfl) (by kernel_rfl) (fun h=>nomatch h) (fun q hq=>nomatch hq) ?_
 refine .cons 155 _ _ (by kernel_rfl) (by kernel_rfl) (fun h=>nomatch h) (fun q hq=>nomatch hq) ?_
 refine .cons 156 _ _ (by kernel_rfl) (by kernel_rfl) (fun h=>nomatch h) (fun q hq=>nomatch hq) ?_
 refine .cons 157 _ _ (by kernel_rfl) (by kernel_rfl) (fun h=>nomatch h) (fun q hq=>nomatch hq) ?_
 refine .cons 158 _ _ (by kernel_rfl) (by kernel_rfl) (fun h=>nomatch h) (fun q hq=>nomatch hq) ?_
 refine .cons 159 _ _ (by kernel_rfl) (by kernel_rfl) (fun _=>by kernel_rfl) (fun q hq=>nomatch hq) ?_
 refine .cons 160 _ _ (by kernel_rfl) (by kernel_rfl) (fun h=>nomatch h) (fun q hq=>nomatch hq) ?_
 refine .cons 161 _ _ (by kernel_rfl) (by kernel_rfl) (fun h=>nomatch h) (fun q hq=>nomatch hq) ?_
 refine .cons 162 _ _ (by kernel_rfl) (by kernel_rfl) (fun h=>nomatch h) (fun q hq=>nomatch hq) ?_
 refine .cons 163 _ _ (by kernel_rfl) (by kernel_rfl) (fun h=>nomatch h) (fun q hq=>nomatch hq) ?_
 refine .cons 164 _ _ (by kernel_rfl) (by kernel_rfl) (fun h=>nomatch h) (fun q hq=>nomatch hq) ?_
 refine .cons 165 _ _ (by kernel_rfl) (by kernel_rfl) (fun h=>nomatch h) (fun q hq=>nomatch hq) ?_
 refine .cons 166 _ _ (by kernel_rfl) (by kernel_rfl) (fun h=>nomatch h) (fun q hq=>nomatch hq) ?_
 refine .cons 167 _ _ (by kernel_rfl) (by kernel_rfl) (fun h=>nomatch h) (fun q hq=>nomatch hq) ?_
 refine .cons 168 _ _ (by kernel_rfl) (by kernel_rfl) (fun h=>nomatch h) (fun q hq=>nomatch hq) ?_
 refine .cons 169 _ _ (by kernel_rfl) (by kernel_rfl) (fun h=>nomatch h) (fun q hq=>nomatch hq) ?_
 refine .cons 170 _ _ (by kernel_rfl) (by kernel_rfl) (fun h=>nomatch h) (fun q hq=>nomatch hq) ?_
 refine .cons 172 _ _ (by kernel_rfl) (by kernel_rfl) (fun h=>nomatch h) (fun q hq=>nomatch hq) ?_
 refine .cons 173 _ _ (by kernel_rfl) (by kernel_rfl) (fun h=>nomatch h) (fun q hq=>nomatch hq) ?_
 refine .cons 174 _ _ (by kernel_rfl) (by kernel_rfl) (fun h=>nomatch h) (fun q hq=>nomatch hq) ?_
 refine .cons 175 _ _ (by kernel_rfl) (by kernel_rfl) (fun h=>nomatch h) (fun q hq=>nomatch hq) ?_
 refine .cons 176 _ _ (by kernel_rfl) (by kernel_rfl) (fun h=>nomatch h) (fun q hq=>nomatch hq) ?_
 refine .cons 177 _ _ (by kernel_rfl) (by kernel_rfl) (fun h=>nomatch h) (fun q hq=>nomatch hq) ?_
 refine .cons 178 _ _ (by kernel_rfl) (by kernel_rfl) (fun h=>nomatch h) (fun q hq=>nomatch hq) ?_
 refine .cons 179 _ _ (by kernel_rfl) (by kernel_rfl) (fun h=>nomatch h) (fun q hq=>nomatch hq) ?_
 refine .cons 180 _ _ (by kernel_rfl) (by kernel_rfl) (fun h=>nomatch h) (fun q hq=>nomatch hq) ?_
 refine .cons 181 _ _ (by kernel_rfl) (by kernel_rfl) (fun h=>nomatch h) (fun q hq=>nomatch hq) ?_
 refine .cons 182 _ _ (by kernel_rfl) (by kernel_rfl) (fun _=>by kernel_rfl) (fun q hq=>nomatch hq) ?_
 refine .cons 183 _ _ (by kernel_rfl) (by kernel_rfl) (fun h=>nomatch h) (fun q hq=>nomatch hq) ?_
 refine .cons 184 _ _ (by kernel_rfl) (by kernel_rfl) (fun h=>nomatch h) (fun q hq=>nomatch hq) ?_
 refine .cons 185 _ _ (by kernel_rfl) (by kernel_rfl) (fun h=>nomatch h) (fun q hq=>nomatch hq) ?_
 refine .cons 186 _ _ (by kernel_rfl) (by kernel_rfl) (fun h=>nomatch h) (fun q hq=>nomatch hq) ?_
 refine .cons 188 _ _ (by kernel_rfl) (by kernel_rfl) (fun h=>nomatch h) (fun q hq=>nomatch hq) ?_
 refine .cons 189 _ _ (by kernel_rfl) (by kernel_rfl) (fun h=>nomatch h) (fun q hq=>nomatch hq) ?_
 refine .cons 190 _ _ (by kernel_rfl) (by kernel_rfl) (fun h=>nomatch h) (fun q hq=>nomatch hq) ?_
 refine .cons 191 _ _ (by kernel_rfl) (by kernel_rfl) (fun h=>nomatch h) (fun q hq=>nomatch hq) ?_
 refine .cons 193 _ _ (by kernel_rfl) (by kernel_rfl) (fun h=>nomatch h) (fun q hq=>nomatch hq) ?_
 refine .cons 194 _ _ (by kernel_rfl) (by kernel_rfl) (fun h=>nomatch h) (fun q hq=>nomatch hq) ?_
 refine .cons 196 _ _ (by kernel_rfl) (by kernel_rfl) (fun h=>nomatch h) (fun q hq=>nomatch hq) ?_
 refine .cons 197 _ _ (by kernel_rfl) (by kernel_rfl) (fun h=>nomatch h) (fun q hq=>nomatch hq) ?_
 refine .cons 198 _ _ (by kernel_rfl) (by kernel_rfl) (fun h=>nomatch h) (fun q hq=>nomatch hq) ?_
 refine .cons 199 _ _ (by kernel_rfl) (by kernel_rfl) (fun h=>nomatch h) (fun q hq=>nomatch hq) ?_
 refine .cons 200 _ _ (by kernel_rfl) (by kernel_rfl) (fun h=>nomatch h) (fun q hq=>nomatch hq) ?_
 refine .cons 201 _ _ (by kernel_rfl) (by kernel_rfl) (fun h=>nomatch h) (fun q hq=>nomatch hq) ?_
 refine .cons 202 _ _ (by kernel_rfl) (by kernel_rfl) (fun h=>nomatch h) (fun q hq=>nomatch hq) ?_
 refine .cons 203 _ _ (by kernel_rfl) (by kernel_rfl) (fun h=>nomatch h) (fun q hq=>nomatch hq) ?_
 refine .cons 204 _ _ (by kernel_rfl) (by kernel_rfl) (fun h=>nomatch h) (fun q hq=>nomatch hq) ?_
 refine .cons 205 _ _ (by kernel_rfl) (by kernel_rfl) (fun h=>nomatch h) (fun q hq=>nomatch hq) ?_
 refine .cons 206 _ _ (by kernel_rfl) (by kernel_rfl) (fun h=>nomatch h) (fun q hq=>nomatch hq) ?_
 refine .cons 207 _ _ (by kernel_rfl) (by kernel_rfl) (fun h=>nomatch h) (fun q hq=>nomatch hq) ?_
 refine .cons 208 _ _ (by kernel_rfl) (by kernel_rfl) (fun h=>nomatch h) (fun q hq=>nomatch hq) ?_
 refine .cons 209 _ _ (by kernel_rfl) (by kernel_rfl) (fun h=>nomatch h) (fun q hq=>nomatch hq) ?_
 refine .cons 211 _ _ (by kernel_rfl) (by kernel_rfl) (fun h=>nomatch h) (fun q hq=>nomatch hq) ?_
 refine .cons 212 _ _ (by kernel_rfl) (by kernel_rfl) (fun h=>nomatch h) (fun q hq=>nomatch hq) ?_
 refine .cons 214 _ _ (by kernel_rfl) (by kernel_rfl) (fun h=>nomatch h) (fun q hq=>nomatch hq) ?_
 refine .cons 216 _ _ (by kernel_rfl) (by kernel_rfl) (fun h=>nomatch h) (fun q hq=>nomatch hq) ?_
 refine .cons 217 _ _ (by kernel_rfl) (by kernel_rfl) (fun h=>nomatch h) (fun q hq=>nomatch hq) ?_
 refine .cons 218 _ _ (by kernel_rfl) (by kernel_rfl) (fun h=>nomatch h) (fun q hq=>nomatch hq) ?_
 refine .cons 219 _ _ (by kernel_rfl) (by kernel_rfl) (fun h=>nomatch h) (fun q hq=>nomatch hq) ?_
 refine .cons 220 _ _ (by kernel_rfl) (by kernel_rfl) (fun h=>nomatch h) (fun q hq=>nomatch hq) ?_
 refine .cons 221 _ _ (by kernel_rfl) (by kernel_rfl) (fun h=>nomatch h) (fun q hq=>nomatch hq) ?_
 refine .cons 222 _ _ (by kernel_rfl) (by kernel_rfl) (fun h=>nomatch h) (fun q hq=>nomatch hq) ?_
 refine .cons 223 _ _ (by kernel_rfl) (by kernel_rfl) (fun h=>nomatch h) (fun q hq=>nomatch hq) ?_
 refine .cons 224 _ _ (by kernel_rfl) (by kernel_rfl) (fun h=>nomatch h) (fun q hq=>nomatch hq) ?_
 refine .cons 225 _ _ (by kernel_rfl) (by kernel_rfl) (fun h=>nomatch h) (fun q hq=>nomatch hq) ?_
 refine .cons 226 _ _ (by kernel_rfl) (by kernel_rfl) (fun h=>nomatch h) (fun q hq=>nomatch hq) ?_
 refine .cons 227 _ _ (by kernel_rfl) (by kernel_rfl) (fun h=>nomatch h) (fun q hq=>nomatch hq) ?_
 refine .cons 228 _ _ (by kernel_rfl) (by kernel_rfl) (fun h=>nomatch h) (fun q hq=>nomatch hq) ?_
 refine .cons 229 _ _ (by kernel_rfl) (by kernel_rfl) (fun h=>nomatch h) (fun q hq=>nomatch hq) ?_
 refine .cons 230 _ _ (by kernel_rfl) (by kernel_rfl) (fun h=>nomatch h) (fun q hq=>nomatch hq) ?_
 refine .cons 231 _ _ (by kernel_rfl) (by kernel_rfl) (fun h=>nomatch h) (fun q hq=>nomatch hq) ?_
 exact .nil _
theorem mixed:Tryz.prog.follows .mixedOrders=true:=by kernel_rfl
end Go.Proofs.YtfgegilhjlnohaaGreat
end

section
namespace Go.Proofs.YtfgegilhjlnohaaGreat
open Go.RowKit
def Sl (w:World) (ok:Nat→Prop) (v:Value) (n:Nat) (xs:List Value):Prop :=
 ∃ (a:Option Addr) (cap:Nat),v = .slice a n cap∧n≤cap∧cap≤maxLen ∧
  ∀ j u,xs[j]? = some u→∃ b off,a=some ⟨b,off,none⟩∧ok b∧w.cell? ⟨b,off+j,none⟩=some u
theorem Q9n {w:World} {b o:Nat} {u:Value} (h:w.cell? ⟨b,o,none⟩=some u):b<w.heap.size:=World.block_lt_of_cell? w ⟨b,o,none⟩ h
theorem Sl.mono {w w' : World} {ok ok' : Nat→Prop} {v:Value} {n:Nat} {xs:List Value} (h:Sl w ok v n xs)
  (hf:∀ b,ok b→b<w.heap.size→w'.heap[b]? = w.heap[b]?) (hok:∀ b,ok b→b<w.heap.size→ok' b):Sl w' ok' v n xs:=by
 obtain⟨a,cap,rfl,h1,h2,h3⟩:=h
 refine⟨a,cap,rfl,h1,h2,fun j u hj=>?_⟩
 obtain⟨b,off,rfl,hb,hc⟩:=h3 j u hj
 have hlt:=Q9n hc
 exact⟨b,off,rfl,hok b hb hlt,(World.cell?_of_block (w:=w) (hf b hb hlt)).trans hc⟩
theorem Sl.drewN {w:World} {ok:Nat→Prop} {v:Value} {n:Nat} {xs:List Value} (h:Sl w ok v n xs) (k:Nat):Sl (w.drewN k) ok v n xs :=
 h.mono (fun _ _ _=>rfl) (fun _ h _=>h)
theorem Qy4 (w:World) (o:Obj) (k:Nat):(w.alloc o).heap[k]? = if k=w.heap.size then some o else w.heap[k]? := by
 show(w.heap.push o)[k]? = _
 rw[Array.getElem?_push]
theorem Q3y (w:World) (o:Obj) (k:Nat) (h:k<w.heap.size):(w.alloc o).heap[k]? = w.heap[k]? := by rw[Qy4,if_neg (by omega)]
theorem Sl.alloc {w:World} {ok:Nat→Prop} {v:Value} {n:Nat} {xs:List Value} (h:Sl w ok v n xs) (o:Obj):Sl (w.alloc o) ok v n xs :=
 h.mono (fun b _ hlt=>Q3y w o b hlt) (fun _ h _=>h)
end Go.Proofs.YtfgegilhjlnohaaGreat
end

section
namespace Go.Proofs.YtfgegilhjlnohaaGreat
open Go.RowKit
def sV (l:List UInt8):V :=.v (strOf l)
def iV (n:Int):V :=.v (.int .i64 n)
def bV (b:Bool):V :=.v (.bool b)
theorem us2 {us:Array Value} (h:us.size=2):∃ a b,us = #[a,b]:=by
 match us,h with
 | ⟨[a,b]⟩,_=>exact⟨a,b,rfl⟩
end Go.Proofs.YtfgegilhjlnohaaGreat
end
